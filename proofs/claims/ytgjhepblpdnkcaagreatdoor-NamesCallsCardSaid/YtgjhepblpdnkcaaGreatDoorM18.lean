/- Walks and plain laws: Gi Gj Gk Gn. -/
import Derived.Test.YtgjhepblpdnkcaaGreatDoorM17
import Derived.RangeFuncNested
import Derived.Test.YtgjhepblpdnkcaaGreatDoorM13
import Derived.Test.YtgjhepblpdnkcaaGreatDoorM15
import Derived.OwnWalkIn
import Derived.Test.YtgjhepblpdnkcaaGreatDoorM10
namespace Go.Proofs.YtgjhepblpdnkcaaGreatDoor
open Go.RowKit
set_option maxRecDepth 100000
set_option maxHeartbeats 4000000

/-- What a function that is ranged over promises: at each yield X holds of the item; behind it S holds of all items; between, it makes memory alone. Each round goes on. -/
def SeqX {α:Type} (F:Fence) (n:Nat) (P:Program) (g:Nat) (lb:Array Value) (encs:α->Array Value) (Kp:World->World->Prop) (X:α->World->Prop) (S:List α->World->Prop) (N:Nat) (w:World):Prop:=
 ∀ (l:Nat) (J:List α->World->Prop) (W:World),Below w.heap.size w W->OwnFrom W.heap.size J->
  (∀ pre x V,J pre V->X x V->pre.length < N->YieldAt F (n - 1) P l (encs x) V fun e V'=>e=.returned (.bool true)/\J (pre ++ [x]) V'/\Kp V V'/\KeepsFrom w.heap.size V V')->J [] W->
  CallsIn F n P g (#[.func (.yield l) #[] #[]] ++ lb) W fun e V=>(∃ v,e=.returned v)/\∃ xs,S xs V/\J xs V
theorem own_below {β:Type} {B:Nat} {I:β->World->Prop} (h:OwnFrom B I) {s:β} {X Y:World} (hs:I s X) (hb:Below X.heap.size X Y):I s Y:=h s X Y none hs ⟨hb.os,hb.tape,hb.output,hb.size,fun k hk _=>hb.block k hk⟩ (fun r e=>by cases e)
theorem wpIn_range_x {α:Type} {F:Fence} {n:Nat} {P:Program} {w:World} {g:Operand} {ps:Array Tmp} {assign body:Code} {Q:Exit->Act->World->Prop} {a:Act}
  (hro:F.round=none) (h1:1<=n) {gf:Nat} {lb:Array Value} (hg:a.eval g=.func (.func gf) #[] lb) (hFg:F.fn gf) (eg:∀ args w,(callFunc gf args).run P w=.ok (.enter gf args) w)
  {encs:α->Array Value} {Kp:World->World->Prop} {X:α->World->Prop} {S:List α->World->Prop} {N:Nat} (hseq:SeqX F (n - 1) P gf lb encs Kp X S N w)
  (hKt:∀ {A B C:World},Kp A B->Kp B C->Kp A C) (hKb:∀ (W:World) (l:Nat) (o o':Obj),w.heap.size<=l->W.heap[l]?=some o->o.isCells=false->Kp W (W.putObj l o')) (hps:∀ x,(encs x).size=ps.size)
  (I:List α->World->Prop) (hI:OwnFrom w.heap.size I) (h0:I [] w) (Ax:List α->α->Act->World->Prop) (hAx:∀ pre x a',OwnFrom w.heap.size (fun (_:Unit) W=>Ax pre x a' W))
  (hassign:∀ (l:Nat) (pre:List α) (x:α) (W:World) (K:Act->World->Prop),I pre W->X x W->w.heap.size<=W.heap.size->(∀ a' W',KeepsFrom w.heap.size W W'->Kp W W'->I pre W'->Ax pre x a' W'->K a' W')->
   assign.wpIn (F.inRound l) (n - 1 - 1) P (Exit.then K (fun _ _ _=>False)) { tmps:=(ps.zip (encs x)).foldl (fun t (p,v)=>t.setIfInBounds p v) a.tmps,defers:=[] } W)
  (hbody:∀ (l:Nat) (pre:List α) (x:α) (a':Act) (W:World),I pre W->Ax pre x a' W->pre.length < N->
   body.wpIn (F.inRound l) (n - 1 - 1) P (fun e _ W'=>e=.normal/\KeepsFrom w.heap.size W W'/\Kp W W'/\I (pre ++ [x]) W') a' W)
  (hdone:∀ (D:Nat) (xs:List α) (V W:World),w.heap.size<=D->S xs V->I xs W->V.grownBy W (some (D+1))->(∃ o,V.heap[D+1]?=some o/\o.isCells=false)->W.heap[D]?=some (.deferred (some []))->Q .normal { a with defers:={ target:=.collected D,args:=#[] } :: a.defers } W):
  (Code.rangeFunc g ps assign body).wpIn F n P Q a w:=by
 refine wpIn_rangeFunc (fun fn hfn=>?_)
 rw [hro]
 obtain ⟨rec,hrec⟩:∃ rec:LoopState->Loop,rec=fun st=>{ state:=st,pending:=none,fn,tmps:=a.tmps,params:=ps,assign,body,defers:=w.heap.size }:=⟨_,rfl⟩
 have hb1:Below w.heap.size w ((w.alloc (.deferred (some []))).alloc (.loop (rec .ready))):=((Below.refl _ w).alloc (Nat.le_refl _) _).alloc (by rw [World.size_alloc];omega) _
 obtain ⟨U,hU⟩:∃ U,(w.alloc (.deferred (some []))).alloc (.loop (rec .ready))=U:=⟨_,rfl⟩
 have hUL:U.heap[w.heap.size+1]?=some (.loop (rec .ready)):=by
  have:=World.alloc_heap_new (w.alloc (.deferred (some []))) (.loop (rec .ready))
  rw [World.size_alloc] at this
  rwa [hU] at this
 have hUD:U.heap[w.heap.size]?=some (.deferred (some [])):=by
  rw [← hU]
  exact ((Below.refl _ (w.alloc (.deferred (some [])))).alloc (Nat.le_refl _) (.loop (rec .ready))).block _ (by rw [World.size_alloc];omega) |>.trans (World.alloc_heap_new w _)
 have hUI:I [] U:=by rw [← hU];exact hI.alloc _ (hI.alloc _ h0)
 rw [hU] at hb1
 refine ⟨w.heap.size+1,[{ target:=.collected w.heap.size,args:=#[] }],U,{ target:=.fn (.func gf) lb,args:=#[.func (.yield (w.heap.size+1)) #[] #[]] },U,gf,#[.func (.yield (w.heap.size+1)) #[] #[]] ++ lb,U,?e1,?e2,?e3,?e4,fun _=>h1,?e5⟩
 case e1=>rw [← hU,hrec];exact run_enterLoop_outer _ _ _ _ _
 case e2=>
  simp only [resolve,hg]
  simp [go_sem]
 case e3=>
  intro f' hf'
  simp [Target.leads] at hf'
  subst hf'
  exact hFg
 case e4=>simp [invoke,go_sem,eg]
 case e5=>
  have hbel:∀ {s:List α} {A B:World},I s A->Below A.heap.size A B->I s B:=fun hs hb=>hI _ _ _ none hs ⟨hb.os,hb.tape,hb.output,hb.size,fun k hk _=>hb.block k hk⟩ (fun r e=>by cases e)
  refine (hseq (w.heap.size+1) (fun pre W=>I pre W/\W.heap[w.heap.size+1]?=some (.loop (rec .ready))/\W.heap[w.heap.size]?=some (.deferred (some []))) U hb1
   (fun s A B row h hg hr=>⟨hI s A B row h.1 hg (fun r e=>⟨Nat.le_trans hb1.size (hr r e).1,(hr r e).2⟩),
    (hg.block _ (Array.getElem?_eq_some_iff.1 h.2.1).1 (fun e=>by have:=(hr _ e.symm).1;have:=(Array.getElem?_eq_some_iff.1 hUL).1;omega)).trans h.2.1,
    (hg.block _ (Array.getElem?_eq_some_iff.1 h.2.2).1 (fun e=>by have:=(hr _ e.symm).1;have:=(Array.getElem?_eq_some_iff.1 hUD).1;omega)).trans h.2.2⟩) ?_ ⟨hUI,hUL,hUD⟩).mono ?_
  ·rintro pre x V ⟨hi,hl,hd⟩ hX hlen
   have hlt:w.heap.size+1 < V.heap.size:=(Array.getElem?_eq_some_iff.1 hl).1
   have hy:=run_yield (P:=P) (args:=encs x) hl (by rw [hrec];exact hps x)
   rw [hrec] at hy
   refine ⟨fn,_,assign,body,hy,roundIn_of_wpIn hfn (hassign _ pre x V _ hi hX (by omega) ?_)⟩
   intro a' Va hka hkp hia hax
   have hla:=hka.same _ _ (by omega) hl rfl
   have hda:=hka.same _ _ (Nat.le_refl _) hd rfl
   have hlta:w.heap.size+1 < Va.heap.size:=(Array.getElem?_eq_some_iff.1 hla).1
   refine ⟨_,run_beginRound hla (by rw [hrec]),?_⟩
   obtain ⟨Vb,hVb⟩:∃ Vb,Va.putObj (w.heap.size+1) (.loop { rec .ready with state:=.busy })=Vb:=⟨_,rfl⟩
   have hlb:Vb.heap[w.heap.size+1]?=some (.loop { rec .ready with state:=.busy }):=by rw [← hVb];exact World.putObj_heap_same hlta
   have hdb:Vb.heap[w.heap.size]?=some (.deferred (some [])):=by rw [← hVb];exact (World.putObj_heap_other (by omega)).trans hda
   have hib:I pre Vb:=by rw [← hVb];exact hI.putObj _ hia (by omega) hla rfl
   have hxb:Ax pre x a' Vb:=by rw [← hVb];exact (hAx pre x a').putObj (s:=()) _ hax (by omega) hla rfl
   have hkb:Kp Va Vb:=by rw [← hVb];exact hKb _ _ _ _ (by omega) hla rfl
   rw [hVb]
   refine wpIn_mono (hbody _ pre x a' Vb hib hxb hlen) ?_
   rintro e a3 Vc ⟨rfl,hkc,hkpc,hic⟩
   have hlc:=hkc.same _ _ (by omega) hlb rfl
   have hdc:=hkc.same _ _ (Nat.le_refl _) hdb rfl
   have he:=run_endRound (P:=P) none hlc
   have hlast:(Vc.putObj (w.heap.size+1) (.loop (rec .ready))).heap[w.heap.size+1]?=some (.loop (rec .ready)):=World.putObj_heap_same (Array.getElem?_eq_some_iff.1 hlc).1
   have hrr:({ { rec .ready with state:=.busy } with state:=(if (none:Option Code).isNone then LoopState.ready else .done),pending:=none }:Loop)=rec .ready:=by rw [hrec];rfl
   rw [hrr] at he
   refine ⟨_,_,he,rfl,⟨hI.putObj _ hic (by omega) hlc rfl,hlast,(World.putObj_heap_other (by omega)).trans hdc⟩,hKt hkp (hKt (hKt hkb hkpc) (hKb _ _ _ _ (by omega) hlc rfl)),?_⟩
   have s1:=hka.size
   have s2:Va.heap.size<=Vb.heap.size:=by rw [← hVb];exact (grownBy_putObj' _ _ _).size
   have s3:=hkc.size
   have s4:=(grownBy_putObj' Vc (w.heap.size+1) (.loop (rec .ready))).size
   refine ⟨by omega,fun k o hk ho hc=>?_⟩
   by_cases hkl:k=w.heap.size+1
   ·subst hkl
    rw [hl] at ho
    rw [hlast];exact ho
   ·have h1:=hka.same k o hk ho hc
    have h2:Vb.heap[k]?=some o:=by rw [← hVb];exact (World.putObj_heap_other hkl).trans h1
    exact (World.putObj_heap_other hkl).trans (hkc.same k o hk h2 hc)
  ·rintro e V ⟨⟨v,rfl⟩,xs,hS,hi,hl,hd⟩
   have he:=run_endLoop (P:=P) hl (by rw [hrec];simp)
   rw [hrec] at he
   refine ⟨none,_,he,hdone w.heap.size xs V _ (Nat.le_refl _) hS (hI.putObj _ hi (by omega) hl rfl) (grownBy_putObj' _ _ _) ⟨_,hl,rfl⟩ ((World.putObj_heap_other (by omega)).trans hd)⟩
end Go.Proofs.YtgjhepblpdnkcaaGreatDoor
namespace Go.Proofs.YtgjhepblpdnkcaaGreatDoor
open Go.RowKit Go.Shelf
attribute [local go_sem] Oper.semAt_some
set_option maxRecDepth 100000
set_option maxHeartbeats 4000000

/-- What a round of the copying keeps: all cells but one block's, and but the nodes that are newly laid. -/
def KpN (P B:Nat) (W W':World):Prop:=W.heap.size<=W'.heap.size/\∀ (k:Nat) (cs:Array Value) (t:TypeId) (fr:Nat×Nat),k ≠ P->(k < B∨t ≠ 45)->W.heap[k]?=some (.cells cs t fr)->W'.heap[k]?=some (.cells cs t fr)
theorem kpN_t {P B:Nat} {X Y Z:World} (h:KpN P B X Y) (k:KpN P B Y Z):KpN P B X Z:=⟨Nat.le_trans h.1 k.1,fun i cs t fr hi ht hc=>k.2 i cs t fr hi ht (h.2 i cs t fr hi ht hc)⟩
theorem kpN_below {P B:Nat} {W W':World} (h:Below W.heap.size W W'):KpN P B W W':=⟨h.size,fun k _ _ _ _ _ hc=>(h.block k (Array.getElem?_eq_some_iff.1 hc).1).trans hc⟩
theorem kpN_b {P B:Nat} (W:World) (l:Nat) (o o':Obj) (h:W.heap[l]?=some o) (hc:o.isCells=false):KpN P B W (W.putObj l o'):=by
 have hg:=grownBy_putObj' W l o'
 refine ⟨hg.size,fun k cs t fr _ _ hk=>(hg.block k (Array.getElem?_eq_some_iff.1 hk).1 (fun e=>?_)).trans hk⟩
 cases e
 rw [hk] at h;cases h;cases hc
theorem KpN.cell {P B:Nat} {W W':World} (h:KpN P B W W') {a:Addr} {v:Value} (hc:W.cell? a=some v) (ha:a.block ≠ P) (hb:a.block < B):W'.cell? a=some v:=by
 have hx:∃ cs t fr,W.heap[a.block]?=some (.cells cs t fr):=by
  unfold World.cell? at hc
  cases hk:W.heap[a.block]? with
  | none=>simp [hk] at hc
  | some ob=>cases ob <;> simp_all
 obtain ⟨cs,t,fr,hk⟩:=hx
 exact (World.cell?_of_block ((h.2 _ cs t fr ha (.inl hb) hk).trans hk.symm)).trans hc
theorem KpN.sv {P B:Nat} {W W':World} (h:KpN P B W W') {ao:Option Addr} {n cap size:Nat} {xs:List Value} (hs:Sv W ao n cap size xs) (ha:∀ a,ao=some a->xs ≠ []->a.block ≠ P/\a.block < B):Sv W' ao n cap size xs:=by
 refine ⟨hs.len,hs.le,hs.cm,hs.nn,fun j hj=>?_⟩
 obtain ⟨a,e,hc⟩:=hs.cell j hj
 rw [List.getElem?_eq_getElem hj] at hc ⊢
 have h2:=ha a e (fun e0=>by subst e0;simp at hj)
 exact ⟨a,e,h.cell hc (by rw [add_block];exact h2.1) (by rw [add_block];exact h2.2)⟩
/-- A node whose kids' row is newly made. -/
def XN (B:Nat) (x:Nk) (V:World):Prop:=V.ownsRow B 3 1 (.slice x.2.1 x.1.kids.length x.2.2) x.1.kids.length (inc x.1.kids)
theorem XN.kp {P B:Nat} {x:Nk} {V V':World} (h:XN B x V) (hk:KpN P B V V') (hP:P < B):XN B x V':=by
 obtain ⟨h1,h2⟩:=h
 refine ⟨h1,?_⟩
 rcases h2 with h2 | ⟨g,cap,cur,hv,hg,hh,hr⟩
 ·exact .inl h2
 ·exact .inr ⟨g,cap,cur,hv,hg,hk.2 g cur _ _ (by omega) (.inr (by decide)) hh,hr⟩
def encN (x:Nk):Array Value:=#[.agg #[.int .i64 x.1.kind,.int .u64 x.1.c0,.int .u64 x.1.c1,.int .u64 x.1.c2,.int .u64 x.1.c3,.string x.1.text,.int .i64 x.1.rule,.int .i64 x.1.lev,.slice x.2.1 x.1.kids.length x.2.2]]
theorem copies_any (ao:Option Addr) (n cap:Nat) (w:World):Calls Tryz.prog 82 #[.slice ao n cap] w fun e w'=>e=.returned (.func (.func 124) #[] #[.pointer (some ⟨w.heap.size,0,none⟩)])/\w'=w.alloc (.cells #[.slice ao n cap] 23):=by
 have hmf:∀ (fn:Fn) (first cap:Array Value) (w:World),(Instr.makeFunc fn first cap).run Tryz.prog w=.ok (.func fn first cap) w:=fun _ _ _ _=>rfl
 go_enter Tryz.func82,Tryz.ntmps82
 go_wp2_with fail
 go_ret
 exact ⟨rfl,rfl⟩
/-- Two nodes' kids lie apart. -/
def ApK (x y:Nk):Prop:=∀ k,(Value.slice x.2.1 x.1.kids.length x.2.2).ownBlock=some k->(Value.slice y.2.1 y.1.kids.length y.2.2).ownBlock ≠ some k
/-- The nodes, as far as they are copied. -/
def SN (B:Nat) (N0:List Nk) (xs:List Nk) (V:World):Prop:=xs.map (·.1)=N0.map (·.1)/\(∀ x ∈ xs,XN B x V)/\xs.Pairwise ApK
theorem copies1_seq (N0:List Nk) (ao:Option Addr) (cap gc P n:Nat) (w:World) (hc:w.cell? ⟨gc,0,none⟩=some (.slice ao N0.length cap)) (hs:Sv w ao N0.length cap 9 (N0.flatMap ndc)) (hk:∀ x ∈ N0,Sv w x.2.1 x.1.kids.length x.2.2 1 (inc x.1.kids)) (hl:∀ x ∈ N0,x.1.kids.length<=1000000)
  (hPB:P < w.heap.size) (hgP:gc ≠ P) (haP:∀ a,ao=some a->0 < N0.length->a.block ≠ P) (hkP:∀ x ∈ N0,∀ a,x.2.1=some a->x.1.kids ≠ []->a.block ≠ P) (hL:N0.length<=1000000):
  SeqX Fence.wide (n+2) Tryz.prog 124 #[.pointer (some ⟨gc,0,none⟩)] encN (KpN P w.heap.size) (XN w.heap.size) (SN w.heap.size N0) N0.length w:=fun l J W hW hJ hY h0=>by
 have hgl:gc < w.heap.size:=World.block_lt_of_cell? w ⟨gc,0,none⟩ hc
 have hW0:W.cell? ⟨gc,0,none⟩=some (.slice ao N0.length cap):=(hW.cell (p:=⟨gc,0,none⟩) hgl).trans hc
 have HWb:=Lib.hid hW;have HC:=Lib.hid hc;have HS:=Lib.hid hs;have HY:=Lib.hid hY;have H0:=Lib.hid h0;have HL:=Lib.hid hL;have HJ:=Lib.hid hJ;have HKS:=Lib.hid hk;have HKL:=Lib.hid hl
 have HG:=Lib.hid hgP;have HA:=Lib.hid haP;have HKP:=Lib.hid hkP;have HPB:=Lib.hid hPB;have HGL:=Lib.hid hgl
 have HW0:=Lib.hid hW0
 clear hs hk hl hJ hY h0 hW hgP haP hkP hPB hc hgl hW0
 refine callsIn_of_wp Tryz.func124 rfl trivial ?_ rfl
 simp only [Tryz.ntmps124,List.size_toArray,List.length_cons,List.length_nil,Nat.reduceAdd,Nat.reduceSub,Array.replicate_succ,Array.replicate_zero,List.push_toArray,List.append_toArray,List.nil_append,List.cons_append]
 have hc0:=HW0.out
 gi_wp2
 clear hc0
 gi_loopw [4,7] (fun _ p wr=>∃ (m:Nat) (xs:List Nk),m<=N0.length/\p=.int .i64 m/\Hid (xs.length=m)/\Hid (xs.map (·.1)=(N0.take m).map (·.1))/\Hid (J xs wr)/\Hid (∀ x ∈ xs,XN w.heap.size x wr)/\Hid (xs.Pairwise ApK)/\Hid (KpN P w.heap.size w wr)) (fun _ p _=>N0.length - (intOf p).toNat)
 case atStart=>exact ⟨0,[],Nat.zero_le _,rfl,rfl,rfl,H0.out,fun x hx=>by simp at hx,List.Pairwise.nil,kpN_below HWb.out⟩
 case round=>
  clear H0
  obtain ⟨m,xs,hm,rfl,HXL,HXM,HJ1,HX,HPW2,HK⟩:=hrel
  by_cases hlt:m < N0.length
  ·have hltI:(m:Int) < N0.length:=by omega
   have HLT:=Lib.hid hlt
   obtain ⟨a,rfl,hp⟩:=Sv.at ndc_len HS.out (by decide) m hlt
   have hab:a.block < w.heap.size:=by
    have:=World.block_lt_of_cell? w _ (hp 0 _ rfl)
    rwa [add_block,add_block] at this
   have haP:a.block ≠ P:=HA.out a rfl (by omega)
   obtain ⟨x,hx⟩:∃ x,N0[m]'hlt=x:=⟨_,rfl⟩
   have HXE:Hid (N0[m]?=some x):=by unfold Hid;rw [List.getElem?_eq_getElem hlt,hx]
   have hxm:x ∈ N0:=by rw [← hx];exact List.getElem_mem hlt
   rw [hx] at hp
   have HPW:Hid ((loadVar 45 (a.add (m * 9))).run Tryz.prog wr=.ok (.agg #[.int .i64 x.1.kind,.int .u64 x.1.c0,.int .u64 x.1.c1,.int .u64 x.1.c2,.int .u64 x.1.c3,.string x.1.text,.int .i64 x.1.rule,.int .i64 x.1.lev,.slice x.2.1 x.1.kids.length x.2.2]) wr):=
    run_loadVar_part wr (a.add (m * 9)) _ _ _ (fun j v hj=>HK.out.cell (hp j v hj) (by simp only [add_block];exact haP) (by simp only [add_block];exact hab)) Tryz.underlying45 rfl nd_sz9
   have hks:Sv wr x.2.1 x.1.kids.length x.2.2 1 (inc x.1.kids):=HK.out.sv (HKS.out x hxm) (fun b hb hne=>by
    have h0:x.1.kids ≠ []:=fun e=>hne (by rw [e];rfl)
    refine ⟨HKP.out x hxm b hb h0,?_⟩
    have hpos:0 < x.1.kids.length:=List.length_pos_iff.2 h0
    obtain ⟨b',e,hc⟩:=(HKS.out x hxm).cell 0 (by simp [inc];omega)
    rw [hb] at e;cases e
    rw [List.getElem?_eq_getElem (by simp [inc];omega)] at hc
    have:=World.block_lt_of_cell? w _ hc
    rwa [add_block] at this)
   have hbl:=(Below.refl wr.heap.size wr).alloc (Nat.le_refl _) (.cells #[.int .i64 x.1.kind,.int .u64 x.1.c0,.int .u64 x.1.c1,.int .u64 x.1.c2,.int .u64 x.1.c3,.string x.1.text,.int .i64 x.1.rule,.int .i64 x.1.lev,.slice x.2.1 x.1.kids.length x.2.2] 45)
   have HCL:=Lib.hid (iclone_any (wr.alloc (.cells #[.int .i64 x.1.kind,.int .u64 x.1.c0,.int .u64 x.1.c1,.int .u64 x.1.c2,.int .u64 x.1.c3,.string x.1.text,.int .i64 x.1.rule,.int .i64 x.1.lev,.slice x.2.1 x.1.kids.length x.2.2] 45)) x.2.1 x.2.2 x.1.kids (hks.below hbl) (HKL.out x hxm))
   have HNR:=Lib.hid (hrow.new wr #[.int .i64 x.1.kind,.int .u64 x.1.c0,.int .u64 x.1.c1,.int .u64 x.1.c2,.int .u64 x.1.c3,.string x.1.text,.int .i64 x.1.rule,.int .i64 x.1.lev,.slice x.2.1 x.1.kids.length x.2.2] 45)
   have HBL:=Lib.hid hbl
   have hcr:N0.length<=1000000:=HL.out
   have hbd:=HS.out.bound
   clear hab haP hxm hx hp hks hbl hlt hm
   gi_wp2_with (refine wpListIn_load_part rfl 45 (.tmp 9) rfl (a.add (m * 9)) rfl _ HPW.out ?_)
   refine ⟨trivial,(callsIn_wide.2 HCL.out).mono ?_⟩
   rintro e w2 ⟨v',rfl,ho⟩
   obtain ⟨ko,kc,rfl,-⟩:=ho.sv
   have HR2:=Lib.hid (HNR.out.below ho.2)
   have HB2:=Lib.hid (HBL.out.trans (ho.2.mono HBL.out.size))
   have HO2:=Lib.hid ho.1
   have hks8:=HR2.out.cell 8
   have hfz8:=HR2.out.frozen 8
   have HSZ:Hid ((wr.alloc (.cells #[.int .i64 x.1.kind,.int .u64 x.1.c0,.int .u64 x.1.c1,.int .u64 x.1.c2,.int .u64 x.1.c3,.string x.1.text,.int .i64 x.1.rule,.int .i64 x.1.lev,.slice x.2.1 x.1.kids.length x.2.2] 45)).heap.size=wr.heap.size+1):=World.size_alloc _ _
   clear ho HCL HNR HPW HBL
   revert HR2 HB2 HO2 HSZ hks8 hfz8
   generalize (wr.alloc (.cells #[.int .i64 x.1.kind,.int .u64 x.1.c0,.int .u64 x.1.c1,.int .u64 x.1.c2,.int .u64 x.1.c3,.string x.1.text,.int .i64 x.1.rule,.int .i64 x.1.lev,.slice x.2.1 x.1.kids.length x.2.2] 45)).heap.size=gs
   obtain ⟨gx,hgx⟩:∃ g,wr.heap.size=g:=⟨_,rfl⟩
   rw [hgx]
   intro HR2 HB2 HO2 hks8 hfz8 HSZ
   have HGX:=Lib.hid hgx
   clear hgx
   have hfs:=Fr.setCell w2 ⟨gx,8,none⟩ (.slice ko x.1.kids.length kc)
   have hR3:hrow (w2.setCell ⟨gx,8,none⟩ (.slice ko x.1.kids.length kc)) gx #[.int .i64 x.1.kind,.int .u64 x.1.c0,.int .u64 x.1.c1,.int .u64 x.1.c2,.int .u64 x.1.c3,.string x.1.text,.int .i64 x.1.rule,.int .i64 x.1.lev,.slice ko x.1.kids.length kc] 45:=HR2.out.setCell 8 _
   have HP3:Hid ((loadVar 45 ⟨gx,0,none⟩).run Tryz.prog (w2.setCell ⟨gx,8,none⟩ (.slice ko x.1.kids.length kc))=.ok (.agg #[.int .i64 x.1.kind,.int .u64 x.1.c0,.int .u64 x.1.c1,.int .u64 x.1.c2,.int .u64 x.1.c3,.string x.1.text,.int .i64 x.1.rule,.int .i64 x.1.lev,.slice ko x.1.kids.length kc]) (w2.setCell ⟨gx,8,none⟩ (.slice ko x.1.kids.length kc))):=
    run_loadVar_row (P:=Tryz.prog) _ gx _ _ #[.int .i64 x.1.kind,.int .u64 x.1.c0,.int .u64 x.1.c1,.int .u64 x.1.c2,.int .u64 x.1.c3,.string x.1.text,.int .i64 x.1.rule,.int .i64 x.1.lev,.slice ko x.1.kids.length kc] _ _ hR3.h Tryz.underlying45 rfl nd_sz9
   have HB3:Hid (Below gx wr (w2.setCell ⟨gx,8,none⟩ (.slice ko x.1.kids.length kc))):=HB2.out.trans (hfs.below (by have:=HB2.out.size;have:=HGX.out;omega) (fun k hk e=>by have e':k=gx:=e;omega))
   have HJ3:=Lib.hid (own_below HJ.out HJ1.out (by rw [HGX.out];exact HB3.out))
   have HX3:Hid (XN w.heap.size (x.1,(ko,kc)) (w2.setCell ⟨gx,8,none⟩ (.slice ko x.1.kids.length kc))):=by
    have h1:=owns_fr HO2.out hfs (fun k hk e=>by have:=(HO2.out.lt k hk).1;have e':k=gx:=e;have:=HSZ.out;omega)
    exact own_mono h1 (fun k hk=>by have:=(h1.lt k hk).1;have:=HSZ.out;have:=HGX.out;have:=HK.out.1;omega)
   have HPW3:Hid (∀ y ∈ xs,ApK y (x.1,(ko,kc))):=fun y hy k hk h2=>by
    have h3:=((HX.out y hy).lt k hk).2
    have h4:=(HO2.out.lt k h2).1
    have:=HSZ.out;have:=HGX.out;omega
   clear hfs hR3 HO2 HB2
   obtain ⟨fn,tmps,assign,body,hy,hR⟩:=HY.out xs (x.1,(ko,kc)) _ HJ3.out HX3.out (by rw [HXL.out];exact HLT.out)
   have hy2:(Instr.yield l #[.agg #[.int .i64 x.1.kind,.int .u64 x.1.c0,.int .u64 x.1.c1,.int .u64 x.1.c2,.int .u64 x.1.c3,.string x.1.text,.int .i64 x.1.rule,.int .i64 x.1.lev,.slice ko x.1.kids.length kc]]).run Tryz.prog (w2.setCell ⟨gx,8,none⟩ (.slice ko x.1.kids.length kc))=.ok (.round l fn tmps assign body) (w2.setCell ⟨gx,8,none⟩ (.slice ko x.1.kids.length kc)):=hy
   have HRo:=Lib.hid hR
   clear hy hR
   gi_wp2_with (refine wpListIn_load_part rfl 45 (.tmp 4) rfl ⟨gx,0,none⟩ rfl _ HP3.out ?_)
   refine HRo.out.mono ?_
   rintro e V ⟨rfl,hJ',hkp,-⟩
   have HJ4:=Lib.hid hJ'
   have HK3:Hid (KpN P w.heap.size wr V):=kpN_t (kpN_below (by rw [HGX.out];exact HB3.out)) hkp
   have HX4:=Lib.hid (HX3.out.kp hkp HPB.out)
   clear hJ' hkp HRo hy2 HP3 HB3 HJ3 HX3
   gi_wp2
   go_roundw
   case rel=>
    refine ⟨m+1,xs ++ [(x.1,(ko,kc))],by have:=HLT.out;omega,by go_num,by unfold Hid;rw [List.length_append,HXL.out];rfl,?_,HJ4.out,?_,List.pairwise_append.2 ⟨HPW2.out,List.pairwise_singleton _ _,fun y hy z hz=>by rw [List.mem_singleton.1 hz];exact HPW3.out y hy⟩,kpN_t HK.out HK3.out⟩
    ·unfold Hid
     rw [List.map_append,HXM.out,List.take_add_one,HXE.out,List.map_append]
     rfl
    ·intro y hy
     rcases List.mem_append.1 hy with hy | hy
     ·exact (HX.out y hy).kp HK3.out HPB.out
     ·simp only [List.mem_singleton] at hy;subst hy;exact HX4.out
   case measure=>have:=HLT.out;simp [intOf];omega
  ·have hltI:¬ (m:Int) < N0.length:=by omega
   obtain rfl:m=N0.length:=by omega
   clear hlt hm
   gi_wp2
   go_end0
   exact ⟨⟨_,rfl⟩,xs,⟨by rw [HXM.out,List.take_of_length_le (Nat.le_refl _)],HX.out,HPW2.out⟩,HJ1.out⟩
end Go.Proofs.YtgjhepblpdnkcaaGreatDoor
namespace Go.Proofs.YtgjhepblpdnkcaaGreatDoor
open Go.RowKit Go.Shelf
attribute [local go_sem] Oper.semAt_some
set_option maxRecDepth 100000
set_option maxHeartbeats 4000000

theorem gr_info:(Tryz.prog.info? 25).map (·.size)=some 2:=by decide +kernel
theorem gram_ld {y:World} {g:Nat} {v1 v2:Value} (h:hrow y g #[v1,v2] 25):(loadVar 25 ⟨g,0,none⟩).run Tryz.prog y=.ok (.agg #[v1,v2]) y:=
 run_loadVar_row (P:=Tryz.prog) y g _ _ _ _ _ h Tryz.underlying25 rfl (by show _=some 2;decide +kernel)
theorem load_gram {ops:Array Oper} {rest:List Oper} {o:Oper} {a:Act} {w:World} {Q:Exit->Act->World->Prop} (hgd:o.guard=none) (x:Operand) (ho:o.op=.load 25 x)
  (g:Nat) (hx:a.eval x=.pointer (some ⟨g,0,none⟩)) (cs:Array Value) (hg:hrow w g cs 25) (hs:cs.size=2)
  (h:wpList Tryz.prog ops Q rest (a.put o.dst (.agg cs)) w):wpList Tryz.prog ops Q (o :: rest) a w:=
 wpList_load_row hgd _ x ho g hx _ _ _ _ hg.h Tryz.underlying25 rfl (hs ▸ gr_info) h
theorem store_gram {ops:Array Oper} {rest:List Oper} {o:Oper} {a:Act} {w:World} {Q:Exit->Act->World->Prop} (hgd:o.guard=none) (x y:Operand) (ho:o.op=.store 25 x y)
  (g:Nat) (cs old:Array Value) (hx:a.eval x=.pointer (some ⟨g,0,none⟩)) (hy:a.eval y=.agg cs) (hg:hrow w g old 25) (hs:cs.size=2) (hs0:old.size=2) (h1:cs.all (·.oneCell')=true)
  (h:wpList Tryz.prog ops Q rest (a.put o.dst undef) (w.setRow g cs)):wpList Tryz.prog ops Q (o :: rest) a w:=
 wpList_store_row hgd _ x y ho g _ hx hy _ _ hg.h (hs ▸ gr_info) (by rw [hs,hs0]) h1 h
def nkA (x:Nk):Array Value:=#[.int .i64 x.1.kind,.int .u64 x.1.c0,.int .u64 x.1.c1,.int .u64 x.1.c2,.int .u64 x.1.c3,.string x.1.text,.int .i64 x.1.rule,.int .i64 x.1.lev,.slice x.2.1 x.1.kids.length x.2.2]
/-- While the nodes are copied. -/
structure CpI (P B:Nat) (vr:Value) (w0:World) (pre:List Nk) (W:World):Prop where
 e:∃ vn,hrow W P #[vr,vn] 25/\W.ownsRow B 45 9 vn pre.length (pre.flatMap ndc)
 fr:Fr (fun k=>k=P) w0 W
theorem owns_own {W W':World} {row:Option Nat} {b e size n:Nat} {v:Value} {xs:List Value} (h2:W.ownsRow b e size v n xs) (hg:W.grownBy W' row) (hr:∀ r,row=some r->∃ o:Obj,W.heap[r]?=some o/\o.isCells=false):W'.ownsRow b e size v n xs:=by
 refine h2.kept hg ?_
 cases hv:v.ownBlock with
 | none=>exact .inl rfl
 | some k=>
  refine .inr (fun e=>?_)
  obtain ⟨o,ho,hc⟩:=hr k e.symm
  rcases h2.2 with ⟨h,-⟩ | ⟨g,cap,cur,h,-,hh,-⟩
  ·rw [h] at hv;cases hv
  ·rw [h] at hv;cases hv
   rw [hh] at ho;cases ho;cases hc
theorem results_g1 {P:Program} {fn:Func} {p:Tmp} {tp:TypeId} (h:fn.results=#[.cell p tp]) (tmps:Array Value) (w:World) (a:Addr) (u:Value)
  (hp:tmps.getD p undef=.pointer (some a)) (h1:(loadVar tp a).run P w=.ok u w):(results fn tmps).run P w=.ok u w:=by
 have hp':tmps[p]?.getD undef=.pointer (some a):=by simpa using hp
 simp [results,h,hp',asAddr,h1]
theorem CpI.own {P B:Nat} {vr:Value} {w0:World} (hw:w0.heap.size<=B):OwnFrom B (fun pre W=>CpI P B vr w0 pre W):=by
 rintro pre W W' row ⟨⟨vn,h1,h2⟩,h3⟩ hg hr
 refine ⟨⟨vn,h1.own hg hr,owns_own h2 hg (fun r e=>(hr r e).2)⟩,h3.trans (Fr.grown hg) (fun k hk e=>by have:=(hr k e).1;omega)⟩
theorem KpN.of_grown {P B:Nat} {W W':World} {size n:Nat} {v:Value} {xs:List Value} (h:W.ownsRow B 45 size v n xs) (hg:W.grownBy W' v.ownBlock):KpN P B W W':=by
 refine ⟨hg.size,fun k cs t fr hk hT hc=>(hg.block k (Array.getElem?_eq_some_iff.1 hc).1 (fun e=>?_)).trans hc⟩
 have hlt:=(h.lt k e.symm).1
 rcases hT with hT | hT
 ·omega
 ·rcases h.2 with ⟨h1,-⟩ | ⟨g,cap,cur,h1,-,hh,-⟩
  ·rw [h1] at e;cases e
  ·rw [h1] at e;cases e
   rw [hc] at hh;cases hh;exact hT rfl
theorem KeepsOthers.of_grown {W W':World} {B e size n:Nat} {v:Value} {xs:List Value} (h:W.ownsRow B e size v n xs) (hg:W.grownBy W' v.ownBlock):KeepsOthers W W':=
 KeepsOthers.of_grownBy hg (fun j o hj ho=>by
  rcases h.2 with ⟨h1,-⟩ | ⟨g,cap,cur,h1,-,hh,-⟩
  ·rw [h1] at hj;cases hj
  ·rw [h1] at hj;cases hj
   rw [hh] at ho;cases ho;rfl)
/-- A node more. -/
theorem CpI.more {P B:Nat} {vr vn v':Value} {w0 W W2:World} {pre:List Nk} {x:Nk} (hP:P < B) (hw:w0.heap.size<=B) (hfr:Fr (fun k=>k=P) w0 W) (hW:hrow W P #[vr,vn] 25) (hown:W.ownsRow B 45 9 vn pre.length (pre.flatMap ndc))
  (h2:W2.ownsRow B 45 9 v' (pre.length+1) (pre.flatMap ndc ++ (nkA x).toList)) (hg:W.grownBy W2 vn.ownBlock):
  KeepsFrom B W (W2.setCell ⟨P,1,none⟩ v')/\KpN P B W (W2.setCell ⟨P,1,none⟩ v')/\CpI P B vr w0 (pre ++ [x]) (W2.setCell ⟨P,1,none⟩ v'):=by
 have hfs:=Fr.setCell W2 ⟨P,1,none⟩ v'
 have hb:∀ k,vn.ownBlock=some k->B<=k:=fun k hk=>(hown.lt k hk).1
 have hR2:hrow W2 P #[vr,vn] 25:=hW.fr (Fr.grown hg) (fun e=>by have:=hb P e;omega)
 refine ⟨((KeepsOthers.of_grown hown hg).trans (KeepsOthers.setCell _ _ _)).from _,kpN_t (KpN.of_grown hown hg) ⟨hfs.size,fun k cs t fr hk _ hc=>(hfs.block k (Array.getElem?_eq_some_iff.1 hc).1 hk).trans hc⟩,⟨v',hR2.setCell 1 v',?_⟩,(hfr.trans (Fr.grown hg) (fun k hk e=>by have:=hb k e;omega)).trans hfs (fun _ _ e=>e)⟩
 rw [List.length_append,List.flatMap_append]
 have h3:=owns_fr h2 hfs (fun k hk e=>by have:=(h2.lt k hk).1;have e':k=P:=e;omega)
 simpa [nkA,ndc] using h3
theorem gcopy_any (w:World) (ro no:Option Addr) (rc nc:Nat) (R:List Ru) (N0:List Nk) (hR:Sv w ro R.length rc 2 (R.flatMap ruc)) (hRL:R.length<=1000000)
  (hs:Sv w no N0.length nc 9 (N0.flatMap ndc)) (hk:∀ x ∈ N0,Sv w x.2.1 x.1.kids.length x.2.2 1 (inc x.1.kids)) (hl:∀ x ∈ N0,x.1.kids.length<=1000000) (hL:N0.length<=1000000):
  Calls Tryz.prog 39 #[.agg #[.slice ro R.length rc,.slice no N0.length nc]] w fun e w'=>∃ vr vn NK,e=.returned (.agg #[vr,vn])/\w'.ownsRow w.heap.size 49 2 vr R.length (R.flatMap ruc)/\w'.ownsRow w.heap.size 45 9 vn N0.length (NK.flatMap ndc)/\SN w.heap.size N0 NK w'/\Below w.heap.size w w':=by
 obtain ⟨g,hg⟩:∃ g,w.heap.size=g:=⟨_,rfl⟩
 obtain ⟨z,hz,z1,z2,zb⟩:=three0 w g hg #[.slice ro R.length rc,.slice no N0.length nc] #[.slice none 0 0,.slice none 0 0] 25 25
 have HZ:=Lib.hid hz;have H1:=Lib.hid z1;have H2:=Lib.hid z2;have HB:=Lib.hid zb
 clear hz z1 z2 zb
 have HG:=Lib.hid hg;have HR:=Lib.hid hR;have HS:=Lib.hid hs;have HK:=Lib.hid hk;have HL:=Lib.hid hL;have HRL:=Lib.hid hRL;have HKL:=Lib.hid hl
 clear hg hR hs hk hL hRL hl
 refine (callsIn_wide (n:=3)).1 ?_
 refine callsIn_of_wp_marks Tryz.func39 rfl trivial ?_ rfl
 simp only [Tryz.ntmps39,List.size_toArray,List.length_cons,List.length_nil,Nat.reduceAdd,Nat.reduceSub,Array.replicate_succ,Array.replicate_zero,List.push_toArray,List.append_toArray,List.nil_append,List.cons_append]
 refine wpIn_wide.2 ?_
 go_wp2_with fail
 have HZS:Hid (z.heap.size=g+2):=by rw [← HZ.out,World.size_alloc,World.size_alloc,HG.out];rfl
 rw [HZ.out,HG.out]
 refine (rclone_any z ro rc R (HR.out.below HB.out) HRL.out).mono ?_
 rintro e w1 ⟨v,rfl,ho⟩
 have HO:=Lib.hid ho.1;have HB1:=Lib.hid ho.2
 obtain ⟨va,vc,rfl,-⟩:=ho.sv
 have HA1:=Lib.hid (H1.out.below ho.2);have HA2:=Lib.hid (H2.out.below ho.2)
 clear ho
 go_upto_region 2 with (fail)
 have hal:=(Below.refl w1.heap.size w1).alloc (Nat.le_refl _) (.cells #[.slice va R.length vc,.slice none 0 0] 25)
 have HP:=Lib.hid (hrow.new w1 #[.slice va R.length vc,.slice none 0 0] 25)
 have HO2:=Lib.hid (owns_fr HO.out (Fr.of_below (F:=fun _=>False) hal) (fun _ _ e=>e))
 have HB2:=Lib.hid (HB1.out.trans (hal.mono HB1.out.size))
 have HA12:=Lib.hid (HA1.out.below hal);have HA22:=Lib.hid (HA2.out.below hal)
 clear hal HA1 HA2
 have HPG:Hid (g+2<=w1.heap.size):=by have:=HB1.out.size;rw [← HZ.out,World.size_alloc,World.size_alloc,HG.out] at this;exact this
 have HOP:Hid (∀ k,(Value.slice va R.length vc).ownBlock=some k->k < w1.heap.size):=fun k hk=>(HO.out.lt k hk).2
 clear HO HB1
 revert HP HO2 HB2 HA12 HA22 HPG HOP
 generalize w1.alloc (.cells #[.slice va R.length vc,.slice none 0 0] 25)=w2
 generalize w1.heap.size=P
 intro HP HO2 HB2 HA12 HA22 HPG HOP
 have hn1:=HA12.out.cell 1
 go_wp2_with fail
 refine (copies_any _ _ _ _).mono ?_
 rintro e w3 ⟨rfl,hw3⟩
 have hb3:Below w2.heap.size w2 w3:=by rw [hw3];exact (Below.refl _ _).alloc (Nat.le_refl _) _
 have HC3:=Lib.hid (show hrow w3 w2.heap.size #[.slice no N0.length nc] 23 by rw [hw3];exact hrow.new _ _ _)
 have HPP:Hid (P < w2.heap.size):=HP.out.lt
 have HB3:=Lib.hid (HB2.out.trans (hb3.mono HB2.out.size))
 have HP3:=Lib.hid (HP.out.below hb3);have HZ3:=Lib.hid (HA22.out.below hb3)
 have HO3:=Lib.hid (owns_fr HO2.out (Fr.of_below (F:=fun _=>False) hb3) (fun _ _ e=>e))
 have HNP:Hid (∀ a,no=some a->0 < N0.length->a.block ≠ P):=fun a ha h0 e=>by
  obtain ⟨a',e',hc⟩:=Sv.at ndc_len HS.out (by decide) 0 h0
  rw [ha] at e';cases e'
  have:=World.block_lt_of_cell? w _ (hc 0 _ rfl)
  rw [add_block,add_block] at this
  have:=HPG.out;have:=HG.out;omega
 have HKP:Hid (∀ x ∈ N0,∀ a,x.2.1=some a->x.1.kids ≠ []->a.block ≠ P):=fun x hx a ha h0 e=>by
  have hpos:0 < x.1.kids.length:=List.length_pos_iff.2 h0
  obtain ⟨b',e',hc⟩:=(HK.out x hx).cell 0 (by simp [inc];omega)
  rw [ha] at e';cases e'
  rw [List.getElem?_eq_getElem (by simp [inc];omega)] at hc
  have:=World.block_lt_of_cell? w _ hc
  rw [add_block] at this
  have:=HPG.out;have:=HG.out;omega
 have HSQ:=Lib.hid (copies1_seq N0 no nc w2.heap.size P 0 w3 (HC3.out.cell 0) (HS.out.below (HB.out.trans (HB3.out.mono HB.out.size))) (fun x hx=>(HK.out x hx).below (HB.out.trans (HB3.out.mono HB.out.size))) HKL.out (by have:=HPP.out;have:=hb3.size;omega) (by have:=HPP.out;omega) HNP.out HKP.out HL.out)
 have HW3:Hid (w2.heap.size < w3.heap.size):=HC3.out.lt
 have HBW3:=Lib.hid (HB.out.trans (HB3.out.mono HB.out.size))
 clear hw3 hb3 HP HA12 HA22 HO2 hn1 HB2
 have hef:=enters_of Tryz.func124 (by kernel_rfl) rfl
 go_wp2_with fail
 refine (wpIn_wide (n:=3)).1 ?_
 refine wpIn_range_x rfl (by omega) rfl trivial hef HSQ.out kpN_t (fun W l o o' _ h hc=>kpN_b W l o o' h hc) (fun _=>rfl) (fun pre W=>CpI P w3.heap.size (.slice va R.length vc) w3 pre W) (CpI.own (Nat.le_refl _)) ?h0 (fun _ x a' W=>∃ Bx,w3.heap.size<=Bx/\hrow W Bx (nkA x) 45/\a'={ tmps:=((#[.agg #[.slice ro R.length rc,.slice no N0.length nc],.pointer (some ⟨g,0,none⟩),.pointer (some ⟨g+1,0,none⟩),.pointer (some ⟨P,0,none⟩),undef,.pointer (some ⟨g,0,none⟩),.slice ro R.length rc,.slice va R.length vc,.agg #[.slice va R.length vc,.slice none 0 0],.pointer (some ⟨g,1,none⟩),.slice no N0.length nc,.func (.func 124) #[] #[.pointer (some ⟨w2.heap.size,0,none⟩)],undef,undef,undef,undef,undef,undef,undef,undef]:Array Value).setIfInBounds 12 (.agg (nkA x))).setIfInBounds 4 (.pointer (some ⟨Bx,0,none⟩)),defers:=[] }) ?hAx ?assign ?body ?done
 case h0=>exact ⟨⟨_,HP3.out,World.ownsRow_nil _ _ _ _⟩,Fr.refl _ _⟩
 case hAx=>
  rintro pre x a' _ W W' row ⟨Bx,h1,h2,h3⟩ hg hr
  exact ⟨Bx,h1,h2.own hg hr,h3⟩
 case assign=>
  intro l pre x W K hI hX hsz hK
  have HK2:=Lib.hid hK;have HI:=Lib.hid hI
  clear hK hI hX
  have HZ2:=Lib.hid hsz
  simp [encN]
  clear hef
  gi_wp2
  have hb:=(Below.refl _ W).alloc (Nat.le_refl _) (.cells (nkA x) 45)
  exact HK2.out _ _ ((KeepsOthers.alloc _ _).from _) (kpN_below hb) (CpI.own (Nat.le_refl _) _ _ _ none HI.out ⟨hb.os,hb.tape,hb.output,hb.size,fun k hk _=>hb.block k hk⟩ (fun r e=>by cases e)) ⟨W.heap.size,HZ2.out,hrow.new _ _ _,rfl⟩
 case body=>
  rintro l pre x a' W ⟨⟨vn,h1,h2⟩,h3⟩ ⟨Bx,h4,h5,rfl⟩ hlen
  have HW:=Lib.hid h1;have HOW:=Lib.hid h2;have HFR:=Lib.hid h3;have HBX:=Lib.hid h4;have HX5:=Lib.hid h5
  have HPX:=Lib.hid (show (loadVar 45 ⟨Bx,0,none⟩).run Tryz.prog W=.ok (.agg (nkA x)) W from run_loadVar_row (P:=Tryz.prog) _ Bx _ _ (nkA x) _ _ h5.h Tryz.underlying45 rfl nd_sz9)
  have hc1:=h1.cell 1
  have hsz:=Lib.hid (Nat.lt_of_lt_of_le (Nat.lt_of_lt_of_le HPP.out (Nat.le_of_lt HW3.out)) h3.size)
  have HSZ:Hid (w3.heap.size<=W.heap.size):=h3.size
  obtain ⟨i,hi,hz0,hz1,hz2⟩:=info_parts elNode.i
  have HOA:=Lib.hid (h2.alloc (.cells (nkA x) 45))
  have HRA:=Lib.hid (hrow.new W (nkA x) 45)
  have HCA:Hid (∀ (j:Nat) (u:Value),(nkA x).toList[j]?=some u->(W.alloc (.cells (nkA x) 45)).cell? ((⟨W.heap.size,0,none⟩:Addr).add j)=some u):=fun j u hj=>by
   have h9:j < 9:=(List.getElem?_eq_some_iff.1 hj).1
   have:=(hrow.new W (nkA x) 45).cell j
   have e:(⟨W.heap.size,0,none⟩:Addr).add j=⟨W.heap.size,j,none⟩:=by
    unfold Addr.add
    split
    ·subst_vars;rfl
    ·simp
   rw [e,this]
   simpa using hj
  have H1A:Hid (∀ u ∈ (nkA x).toList,u.oneCell'=true):=by intro u hu;simp only [nkA,List.mem_cons,List.not_mem_nil,or_false] at hu;rcases hu with rfl | rfl | rfl | rfl | rfl | rfl | rfl | rfl | rfl <;> rfl
  have HM1:Hid (pre.length+1<=maxLen):=by have:=HL.out;unfold Hid maxLen;omega
  have HM2:Hid ((pre.length+1) * 96<=140737488355328):=by have:=HL.out;unfold Hid;omega
  have HM3:Hid (w3.heap.size<=(W.alloc (.cells (nkA x) 45)).heap.size):=by rw [World.size_alloc];have:=HSZ.out;unfold Hid;omega
  have hal:=(Below.refl _ W).alloc (Nat.le_refl _) (.cells (nkA x) 45)
  have HGP:Hid (∀ w',(W.alloc (.cells (nkA x) 45)).grownBy w' vn.ownBlock->hrow w' P #[.slice va R.length vc,vn] 25):=fun w' hg=>(h1.below hal).fr (Fr.grown hg) (fun e=>by have:=(h2.lt P e).1;have:=HPP.out;have:=HW3.out;omega)
  have HFB:Hid (Fr (fun k=>k=P) w3 (W.alloc (.cells (nkA x) 45))):=h3.trans (Fr.of_below (F:=fun _=>False) hal) (fun _ _ e=>e.elim)
  have HWA:=Lib.hid (h1.below hal)
  have HKA:Hid (KpN P w3.heap.size W (W.alloc (.cells (nkA x) 45))):=kpN_below hal
  have HUN:Hid (Tryz.prog.underlying 23=some (.slice 45)):=elNode.u
  have HI0:=Lib.hid hi;have HI1:=Lib.hid hz0;have HI2:=Lib.hid hz1;have HI3:=Lib.hid hz2
  clear h1 h2 h3 h4 h5 hef hsz hi hz0 hz1 hz2 hlen hal
  unfold nkA at *
  simp only [List.setIfInBounds_toArray,List.set_cons_succ,List.set_cons_zero]
  refine wpIn_block ?_
  gi_wp2_with (first | (refine wpListIn_load_part rfl 45 (.tmp 4) rfl ⟨Bx,0,none⟩ rfl _ HPX.out ?_) | (gi_at_builtin;refine wpListIn_append_own _ rfl (.tmp 14) (.tmp 16) 23 rfl w3.heap.size 45 i _ 9 96 HUN.out HI0.out HI1.out HI2.out HI3.out rfl (by decide) vn pre.length (pre.flatMap ndc) rfl HOA.out ⟨W.heap.size,0,none⟩ 1 1 (nkA x).toList rfl rfl HCA.out H1A.out HM1.out HM2.out HM3.out ?_;intro v' w' hw1 hw2 hw3;obtain ⟨xo,xc,rfl,-⟩:=Sv.of_owns hw1;have HN1:=Lib.hid hw1;have HN2:=Lib.hid hw2;have hpc:=(HGP.out _ hw2).cell 1;have hpf:=(HGP.out _ hw2).frozen 1;clear hw1 hw2 hw3))
  have hm:=CpI.more (x:=x) (by have:=HPP.out;have:=HW3.out;omega) (Nat.le_refl _) HFB.out HWA.out HOA.out HN1.out HN2.out
  exact ⟨((KeepsOthers.alloc _ _).from _).trans hm.1,kpN_t HKA.out hm.2.1,hm.2.2.1,hm.2.2.2⟩
 case done=>
  intro D xs V W hD hS hI hg ho hdf
  obtain ⟨vn,h1,h2⟩:=hI.e
  obtain ⟨xo,xc,rfl,-⟩:=Sv.of_owns h2
  have HW:=Lib.hid h1;have HOW:=Lib.hid h2;have HFR:=Lib.hid hI.fr
  have HS2:Hid (SN w3.heap.size N0 xs W):=⟨hS.1,fun x hx=>owns_own (hS.2.1 x hx) hg (fun r e=>by cases e;exact ho),hS.2.2⟩
  have HDX:=Lib.hid hD;have HD2:=Lib.hid hdf
  have HZ4:=Lib.hid (HZ3.out.fr hI.fr (fun e=>by have:=HPG.out;omega))
  have HRO:=Lib.hid (owns_fr HO3.out hI.fr (fun k hk e=>by have:=HOP.out k hk;omega))
  have HLD:=Lib.hid (gram_ld h1)
  have HONE:Hid ((#[.slice va R.length vc,.slice xo xs.length xc]:Array Value).all (·.oneCell')=true):=by unfold Hid;simp [Value.oneCell']
  clear h1 h2 hI hS hg ho hdf hD hef
  have HBW4:=Lib.hid (HBW3.out.trans (HFR.out.below (by have:=HBW3.out.size;exact this) (fun k hk e=>by have:=HPG.out;have:=HG.out;omega)))
  go_wp2_with (first | (refine load_gram rfl (.tmp 3) rfl P rfl _ HW.out rfl ?_) | (refine store_gram rfl (.tmp 2) (.tmp 19) rfl (g+1) #[.slice va R.length vc,.slice xo xs.length xc] _ rfl rfl HZ4.out rfl rfl HONE.out ?_))
  have hfs:=Fr.setRow W (g+1) #[.slice va R.length vc,.slice xo xs.length xc]
  have hR5:=setRow_heap _ _ _ #[.slice va R.length vc,.slice xo xs.length xc] _ _ HZ4.out
  have hD5:(W.setRow (g+1) #[.slice va R.length vc,.slice xo xs.length xc]).heap[D]?=some (.deferred (some [])):=(hfs.block D (Array.getElem?_eq_some_iff.1 HD2.out).1 (fun e=>by have:=HDX.out;have:=HPG.out;have:=HPP.out;have:=HW3.out;omega)).trans HD2.out
  have hgrow:=grownBy_putObj' (W.setRow (g+1) #[.slice va R.length vc,.slice xo xs.length xc]) D (.deferred none)
  have hnc:∀ r,some D=some r->∃ o:Obj,(W.setRow (g+1) #[.slice va R.length vc,.slice xo xs.length xc]).heap[r]?=some o/\o.isCells=false:=fun r e=>by cases e;exact ⟨_,hD5,rfl⟩
  have hR6:hrow ((W.setRow (g+1) #[.slice va R.length vc,.slice xo xs.length xc]).putObj D (.deferred none)) (g+1) #[.slice va R.length vc,.slice xo xs.length xc] 25:=hrow.own (B:=0) hR5 hgrow (fun r e=>⟨Nat.zero_le _,hnc r e⟩)
  have hGW:∀ k,w3.heap.size<=k->k ≠ g+1:=fun k hk=>by have:=HPG.out;have:=HPP.out;have:=HW3.out;omega
  refine ⟨by simp,.inl ⟨_,_,rfl,run_takeDeferred hD5,?_⟩⟩
  refine ⟨_,results_g1 rfl _ _ _ _ rfl (gram_ld hR6),_,_,xs,rfl,?_,?_,⟨HS2.out.1,fun x hx=>?_,HS2.out.2.2⟩,?_⟩
  ·have h1:=owns_own (owns_fr HRO.out hfs (fun k hk e=>by have:=(HRO.out.lt k hk).1;have:=HZS.out;have e':k=g+1:=e;omega)) hgrow hnc
   exact own_mono h1 (fun k hk=>by have:=(h1.lt k hk).1;have:=HZS.out;have:=HG.out;omega)
  ·have h1:=owns_own (owns_fr HOW.out hfs (fun k hk=>hGW k (HOW.out.lt k hk).1)) hgrow hnc
   have hl:xs.length=N0.length:=by have:=congrArg List.length HS2.out.1;simpa using this
   rw [← hl]
   exact own_mono h1 (fun k hk=>by have:=(h1.lt k hk).1;have:=HBW3.out.size;omega)
  ·have h0:=HS2.out.2.1 x hx
   have h1:=owns_own (owns_fr h0 hfs (fun k hk=>hGW k (h0.lt k hk).1)) hgrow hnc
   exact own_mono h1 (fun k hk=>by have:=(h1.lt k hk).1;have:=HBW3.out.size;omega)
  ·exact HBW4.out.trans (((Fr.grown hgrow |> fun h=>Fr.trans (F:=fun k=>k=g+1∨k=D) (hfs.weak (fun _ e=>.inl e)) h (fun _ _ e=>.inr (by cases e;rfl)))).below HBW4.out.size (fun k hk e=>by have:=HG.out;have:=HDX.out;have:=HBW3.out.size;omega))
end Go.Proofs.YtgjhepblpdnkcaaGreatDoor
namespace Go.Proofs.YtgjhepblpdnkcaaGreatDoor
open Go.RowKit
set_option maxRecDepth 100000
set_option maxHeartbeats 4000000

/-- How many nodes a node has. -/
def sizN (G:Gr) (n:Nat):Nat:=match tabs G.nodes G.nodes.length with | some T=>(T.getD n (0,0)).1 | none=>0
theorem size_any (w:World) (ro:Option Addr) (rn rc:Nat) (no:Option Addr) (nn nc:Nat) (NK:List (Nd×(Option Addr×Nat))) (G:Gr) (hG:GrW w ro rn rc no nn nc NK G) (hR:rightP G=true) (n:Nat) (hn:n < nn):
 Calls Tryz.prog 171 #[grv ro rn rc no nn nc,.int .i64 n] w fun e w'=>e=.returned (.int .i64 (sizN G n))/\Below w.heap.size w w':=by
 have hnl:G.nodes.length=nn:=by rw [← hG.eq,List.length_map];exact hG.nod.sv.n_eq ndc_len (by decide)
 have HG:=Lib.hid hG;have HR:=Lib.hid hR;have HN:=Lib.hid hn;have HNL:=Lib.hid hnl
 have hb:=(Below.refl _ w).alloc (Nat.le_refl _) (.cells #[.slice ro rn rc,.slice no nn nc] 25)
 obtain ⟨z,hz⟩:∃ z,w.alloc (.cells #[.slice ro rn rc,.slice no nn nc] 25)=z:=⟨_,rfl⟩
 have hr:=hrow.new w #[.slice ro rn rc,.slice no nn nc] 25
 obtain ⟨g,hg⟩:∃ g,w.heap.size=g:=⟨_,rfl⟩
 rw [hz] at hb hr
 rw [hg] at hr
 have HW:=Lib.hid (whole_any z ro rn rc no nn nc NK G (hG.below hb))
 have HB:=Lib.hid hb;have HZ:=Lib.hid hz;have HGG:=Lib.hid hg;have HRW:=Lib.hid hr
 have h0I:¬ (n:Int) < 0:=by omega
 have hnI:¬ (nn:Int)<=n:=by omega
 have hnI2:(n:Int) < nn:=by omega
 have hbd:=hG.nod.sv.bound
 clear hG hR hb hz hr hg hnl
 rw [HR.out] at HW
 unfold grv at HW ⊢
 go_enter Tryz.func171,Tryz.ntmps171
 go_upto_region 1 with (fail)
 rw [HZ.out,HGG.out]
 go_wp2_with (refine load_gram rfl (.tmp 2) rfl g rfl _ HRW.out rfl ?_)
 refine HW.out.mono ?_
 rintro e w2 ⟨p,q,m,rfl,hb2,hs⟩
 obtain ⟨hm,a1,S,T,rfl,hS,hT,hST⟩:=hs rfl
 obtain rfl:m=nn:=by have:=HNL.out;omega
 have hal:=(Below.refl _ w2).alloc (Nat.le_refl _) (.cells #[.slice (some ⟨a1,0,none⟩) m m,.slice q m m] 104)
 have HT:=Lib.hid (hrow.new w2 #[.slice (some ⟨a1,0,none⟩) m m,.slice q m m] 104)
 have HS:=Lib.hid (hS.below hal);have HB2:=Lib.hid (HB.out.trans ((hb2.trans (hal.mono hb2.size)).mono HB.out.size))
 have HR2:=Lib.hid (HRW.out.below (hb2.trans (hal.mono hb2.size)))
 have HE:Hid (S n=sizN G n):=by unfold Hid sizN;rw [hT];exact hST n HN.out
 clear hb2 hs hm hS hT hST hal HW HRW
 go_upto_region 2 with (fail)
 revert HT HS HB2 HR2
 generalize w2.alloc (.cells #[.slice (some ⟨a1,0,none⟩) m m,.slice q m m] 104)=w3
 generalize w2.heap.size=g3
 intro HT HS HB2 HR2
 have k0:=HT.out.cell 0
 have k1:=HR2.out.cell 1
 have k2:w3.cell? ⟨a1,n,none⟩=some (.int .i64 (S n)):=(HS.out.cell n).trans (rngs_get _ _ _ HN.out)
 go_wp2_with fail
 go_ret
 exact ⟨by rw [HE.out];rfl,HB2.out⟩
end Go.Proofs.YtgjhepblpdnkcaaGreatDoor
