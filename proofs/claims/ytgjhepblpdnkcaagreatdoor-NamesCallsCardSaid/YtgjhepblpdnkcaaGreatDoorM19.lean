/- Walks and plain laws: Gp Go Gq Gr. -/
import Derived.Test.YtgjhepblpdnkcaaGreatDoorM18
namespace Go.Proofs.YtgjhepblpdnkcaaGreatDoor
open Go.RowKit Go.Shelf
attribute [local go_sem] Oper.semAt_some
set_option maxRecDepth 100000
set_option maxHeartbeats 4000000

/-- What a round over the calls keeps: all cells, but of rows of bools that are newly laid. -/
def KpG (B:Nat) (W W':World):Prop:=W.heap.size<=W'.heap.size/\∀ (k:Nat) (cs:Array Value) (t:TypeId) (fr:Nat×Nat),(k < B∨t ≠ 4)->W.heap[k]?=some (.cells cs t fr)->W'.heap[k]?=some (.cells cs t fr)
theorem kpG_refl (B:Nat) (W:World):KpG B W W:=⟨Nat.le_refl _,fun _ _ _ _ _ h=>h⟩
theorem kpG_t {B:Nat} {X Y Z:World} (h:KpG B X Y) (k:KpG B Y Z):KpG B X Z:=⟨Nat.le_trans h.1 k.1,fun i cs t fr ht hc=>k.2 i cs t fr ht (h.2 i cs t fr ht hc)⟩
theorem kpG_below {B:Nat} {W W':World} (h:Below W.heap.size W W'):KpG B W W':=⟨h.size,fun k _ _ _ _ hc=>(h.block k (Array.getElem?_eq_some_iff.1 hc).1).trans hc⟩
theorem kpG_b {B:Nat} (W:World) (l:Nat) (o o':Obj) (h:W.heap[l]?=some o) (hc:o.isCells=false):KpG B W (W.putObj l o'):=by
 have hg:=grownBy_putObj' W l o'
 refine ⟨hg.size,fun k cs t fr _ hk=>(hg.block k (Array.getElem?_eq_some_iff.1 hk).1 (fun e=>?_)).trans hk⟩
 cases e
 rw [hk] at h;cases h;cases hc
theorem kpG_own {β:Type} (B:Nat) (w0:World) (B':Nat):OwnFrom B' (fun (_:β) W=>KpG B w0 W):=by
 intro s X Y row hs hg hr
 refine ⟨Nat.le_trans hs.1 hg.size,fun k cs t fr ht hc=>?_⟩
 have h1:=hs.2 k cs t fr ht hc
 refine (hg.block k (Array.getElem?_eq_some_iff.1 h1).1 (fun e=>?_)).trans h1
 obtain ⟨-,o,ho,hoc⟩:=hr k e.symm
 rw [h1] at ho;cases ho;cases hoc
theorem KpG.row {B:Nat} {W W':World} (h:KpG B W W') {g:Nat} {cs:Array Value} {t:TypeId} (hr:hrow W g cs t) (ht:t ≠ 4):hrow W' g cs t:=h.2 _ _ _ _ (.inr ht) hr.h
/-- What lay ahead of B lies there still. -/
def Low (w0 W:World):Prop:=w0.heap.size<=W.heap.size/\∀ (k:Nat) (cs:Array Value) (t:TypeId) (fr:Nat×Nat),w0.heap[k]?=some (.cells cs t fr)->W.heap[k]?=some (.cells cs t fr)
theorem Low.of {w0 w:World} (h:Below w0.heap.size w0 w):Low w0 w:=⟨h.size,fun k _ _ _ hc=>(h.block k (Array.getElem?_eq_some_iff.1 hc).1).trans hc⟩
theorem Low.kp {w0 w W:World} (h:Low w0 w) (k:KpG w0.heap.size w W):Low w0 W:=⟨Nat.le_trans h.1 k.1,fun i cs t fr hc=>k.2 i cs t fr (.inl (Array.getElem?_eq_some_iff.1 hc).1) (h.2 i cs t fr hc)⟩
theorem Low.cell {w0 W:World} (h:Low w0 W) {a:Addr} {v:Value} (hc:w0.cell? a=some v):W.cell? a=some v:=by
 have hx:∃ cs t fr,w0.heap[a.block]?=some (.cells cs t fr):=by
  unfold World.cell? at hc
  cases hk:w0.heap[a.block]? with
  | none=>simp [hk] at hc
  | some ob=>cases ob <;> simp_all
 obtain ⟨cs,t,fr,hk⟩:=hx
 exact (World.cell?_of_block ((h.2 _ cs t fr hk).trans hk.symm)).trans hc
theorem Low.sv {w0 W:World} (h:Low w0 W) {ao:Option Addr} {n cap size:Nat} {xs:List Value} (hs:Sv w0 ao n cap size xs):Sv W ao n cap size xs:=by
 refine ⟨hs.len,hs.le,hs.cm,hs.nn,fun j hj=>?_⟩
 obtain ⟨a,e,hc⟩:=hs.cell j hj
 rw [List.getElem?_eq_getElem hj] at hc ⊢
 exact ⟨a,e,h.cell hc⟩
theorem Low.gr {w0 W:World} (h:Low w0 W) {ro:Option Addr} {rn rc:Nat} {no:Option Addr} {nn nc:Nat} {NK:List Nk} {G:Gr} (hG:GrW w0 ro rn rc no nn nc NK G):GrW W ro rn rc no nn nc NK G:=
 ⟨h.sv hG.rul,hG.nam,⟨h.sv hG.nod.sv,fun p hp=>h.sv (hG.nod.kids p hp),hG.nod.txt⟩,hG.eq⟩
def ndAt (G:Gr) (i:Nat):Nd:=G.nodes.getD i ⟨0,0,0,0,0,⟨#[]⟩,0,0,[]⟩
def encW (y:Nat×Nk):Array Value:=#[.int .i64 y.1,.agg (nkA y.2)]
def walkL (G:Gr) (n:Nat):List (Nat×Nd):=(List.range (sizN G n)).map fun k=>(n+k,ndAt G (n+k))
theorem walk_any (w:World) (v:Value) (n:Int) (cs:Array Value) (hv:v=.agg cs):Calls Tryz.prog 138 #[v,.int .i64 n] w fun e w'=>e=.returned (.func (.func 170) #[] #[.pointer (some ⟨w.heap.size,0,none⟩),.pointer (some ⟨w.heap.size+1,0,none⟩)])/\w'=(w.alloc (.cells cs 25)).alloc (.cells #[.int .i64 n] 3):=by
 subst hv
 have hmf:∀ (fn:Fn) (first cap:Array Value) (w:World),(Instr.makeFunc fn first cap).run Tryz.prog w=.ok (.func fn first cap) w:=fun _ _ _ _=>rfl
 go_enter Tryz.func138,Tryz.ntmps138
 go_wp2_with fail
 go_ret
 exact ⟨rfl,rfl⟩
theorem walk1_seq (w0:World) (ro:Option Addr) (rn rc:Nat) (no:Option Addr) (nc:Nat) (NK:List Nk) (G:Gr) (hG:GrW w0 ro rn rc no NK.length nc NK G) (hR:rightP G=true) (k0 n b1 b2:Nat) (hk0:k0 < NK.length) (w:World) (hlow:Low w0 w)
  (h1:hrow w b1 #[.slice ro rn rc,.slice no NK.length nc] 25) (h2:hrow w b2 #[.int .i64 k0] 3) (hsz:k0+sizN G k0<=NK.length) (hkl:∀ x ∈ NK,x.1.kids.length<=1000000) (hnl:NK.length<=1000000):
  SeqX Fence.wide (n+2) Tryz.prog 170 #[.pointer (some ⟨b1,0,none⟩),.pointer (some ⟨b2,0,none⟩)] encW (KpG w0.heap.size) (fun y _=>y.1 < NK.length/\y.2.1=ndAt G y.1) (fun xs _=>xs.map (fun y=>(y.1,y.2.1))=walkL G k0) (sizN G k0) w:=fun l J W hW hJ hY h0=>by
 have HGR:=Lib.hid hG;have HRT:=Lib.hid hR;have HLW:=Lib.hid (hlow.kp (kpG_below hW))
 have HB1:=Lib.hid (h1.below hW);have HB2:=Lib.hid (h2.below hW);have HKS:=Lib.hid hsz;have HKL:=Lib.hid hkl;have HNL:=Lib.hid hnl;have HY:=Lib.hid hY;have H0:=Lib.hid h0;have HJ:=Lib.hid hJ
 have HSZ:=Lib.hid (size_any W ro rn rc no NK.length nc NK G (HLW.out.gr hG) hR k0 hk0)
 clear hG hR hlow hW h1 h2 hsz hkl hnl hY h0 hJ hk0
 refine callsIn_of_wp Tryz.func170 rfl trivial ?_ rfl
 simp only [Tryz.ntmps170,List.size_toArray,List.length_cons,List.length_nil,Nat.reduceAdd,Nat.reduceSub,Array.replicate_succ,Array.replicate_zero,List.push_toArray,List.append_toArray,List.nil_append,List.cons_append]
 have hc2:=HB2.out.cell 0
 have HLG:=Lib.hid (gram_ld HB1.out)
 unfold grv at HSZ
 gi_wp2_with (refine wpListIn_load_part rfl 25 (.tmp 1) rfl ⟨b1,0,none⟩ rfl _ HLG.out ?_)
 refine ⟨trivial,(callsIn_wide.2 HSZ.out).mono ?_⟩
 rintro e W2 ⟨rfl,hb2⟩
 have HJ0:=Lib.hid (own_below HJ.out H0.out hb2)
 have HLW2:=Lib.hid (HLW.out.kp (kpG_below hb2));have HB12:=Lib.hid (HB1.out.below hb2);have HB22:=Lib.hid (HB2.out.below hb2)
 obtain ⟨sz,hsz⟩:∃ z,sizN G k0=z:=⟨_,rfl⟩
 have HKZ:=Lib.hid hsz
 rw [hsz] at HKS HY ⊢
 clear hsz hb2 HSZ HLG HB1 HB2 hc2 HLW H0
 gi_wp2
 gi_loopw [4,9] (fun _ p wr=>∃ (m:Nat) (xs:List (Nat×Nk)),m<=sz/\p=.int .i64 m/\Hid (xs.length=m)/\Hid (xs.map (fun y=>(y.1,y.2.1))=(List.range m).map fun k=>(k0+k,ndAt G (k0+k)))/\Hid (J xs wr)/\Hid (KpG w0.heap.size W2 wr)) (fun _ p _=>sz - (intOf p).toNat)
 case atStart=>exact ⟨0,[],Nat.zero_le _,rfl,rfl,rfl,HJ0.out,kpG_refl _ _⟩
 case round=>
  clear HJ0
  obtain ⟨m,xs,hm,rfl,HXL,HXM,HJ1,HK⟩:=hrel
  by_cases hlt:m < sz
  ·have hltI:(m:Int) < sz:=by omega
   have HLT:=Lib.hid hlt
   have hin:k0+m < NK.length:=by have:=HKS.out;omega
   have hG:=(HLW2.out.kp HK.out).gr HGR.out
   obtain ⟨a,rfl,hp⟩:=Sv.at ndc_len hG.nod.sv (by decide) (k0+m) hin
   obtain ⟨x,hx⟩:∃ x,NK[k0+m]'hin=x:=⟨_,rfl⟩
   have hxm:x ∈ NK:=by rw [← hx];exact List.getElem_mem hin
   have HXN:Hid (ndAt G (k0+m)=x.1):=by
    unfold Hid ndAt
    rw [← HGR.out.eq,List.getD_eq_getElem?_getD,List.getElem?_map,List.getElem?_eq_getElem hin,hx]
    rfl
   rw [hx] at hp
   have HPW:Hid ((loadVar 45 (a.add ((k0+m) * 9))).run Tryz.prog wr=.ok (.agg #[.int .i64 x.1.kind,.int .u64 x.1.c0,.int .u64 x.1.c1,.int .u64 x.1.c2,.int .u64 x.1.c3,.string x.1.text,.int .i64 x.1.rule,.int .i64 x.1.lev,.slice x.2.1 x.1.kids.length x.2.2]) wr):=
    run_loadVar_part wr (a.add ((k0+m) * 9)) _ _ _ hp Tryz.underlying45 rfl nd_sz9
   have hks:Sv wr x.2.1 x.1.kids.length x.2.2 1 (inc x.1.kids):=hG.nod.kids x hxm
   have hbl:=(Below.refl wr.heap.size wr).alloc (Nat.le_refl _) (.cells #[.int .i64 x.1.kind,.int .u64 x.1.c0,.int .u64 x.1.c1,.int .u64 x.1.c2,.int .u64 x.1.c3,.string x.1.text,.int .i64 x.1.rule,.int .i64 x.1.lev,.slice x.2.1 x.1.kids.length x.2.2] 45)
   have HCL:=Lib.hid (iclone_any (wr.alloc (.cells #[.int .i64 x.1.kind,.int .u64 x.1.c0,.int .u64 x.1.c1,.int .u64 x.1.c2,.int .u64 x.1.c3,.string x.1.text,.int .i64 x.1.rule,.int .i64 x.1.lev,.slice x.2.1 x.1.kids.length x.2.2] 45)) x.2.1 x.2.2 x.1.kids (hks.below hbl) (HKL.out x hxm))
   have HNR:=Lib.hid (hrow.new wr #[.int .i64 x.1.kind,.int .u64 x.1.c0,.int .u64 x.1.c1,.int .u64 x.1.c2,.int .u64 x.1.c3,.string x.1.text,.int .i64 x.1.rule,.int .i64 x.1.lev,.slice x.2.1 x.1.kids.length x.2.2] 45)
   have HBL:=Lib.hid hbl
   have hcr:NK.length<=1000000:=HNL.out
   have hbd:=hG.nod.sv.bound
   have hr1:=HK.out.row HB12.out (by decide)
   have hr2:=HK.out.row HB22.out (by decide)
   have c1:=hr1.cell 1
   have c2:=hr2.cell 0
   have hinI:(k0:Int)+m < NK.length:=by omega
   have HR1:=Lib.hid hr1;have HR2:=Lib.hid hr2;have HIN:=Lib.hid hin
   clear hxm hx hp hks hbl hlt hm hG hr1 hr2 hin
   gi_wp2_with (refine wpListIn_load_part rfl 45 (.tmp 17) rfl (a.add ((k0+m) * 9)) rfl _ HPW.out ?_)
   refine ⟨trivial,(callsIn_wide.2 HCL.out).mono ?_⟩
   rintro e w2 ⟨v',rfl,ho⟩
   obtain ⟨ko,kc,rfl,-⟩:=ho.sv
   have HRX:=Lib.hid (HNR.out.below ho.2)
   have HBX:=Lib.hid (HBL.out.trans (ho.2.mono HBL.out.size))
   have hks8:=HRX.out.cell 8
   have hfz8:=HRX.out.frozen 8
   have hr1:=Lib.hid (HR1.out.below HBX.out)
   have hr2:=HR2.out.below HBX.out
   have HR22:=Lib.hid hr2
   clear ho HCL HNR HPW HBL c1 c2
   revert HRX HBX hks8 hfz8
   obtain ⟨gx,hgx⟩:∃ g,wr.heap.size=g:=⟨_,rfl⟩
   rw [hgx]
   intro HRX HBX hks8 hfz8
   have HGX:=Lib.hid hgx
   have HR2L:Hid (b2 < gx):=by rw [← hgx];exact HR2.out.lt
   clear hgx
   have hfs:=Fr.setCell w2 ⟨gx,8,none⟩ (.slice ko x.1.kids.length kc)
   have hR3:hrow (w2.setCell ⟨gx,8,none⟩ (.slice ko x.1.kids.length kc)) gx #[.int .i64 x.1.kind,.int .u64 x.1.c0,.int .u64 x.1.c1,.int .u64 x.1.c2,.int .u64 x.1.c3,.string x.1.text,.int .i64 x.1.rule,.int .i64 x.1.lev,.slice ko x.1.kids.length kc] 45:=HRX.out.setCell 8 _
   have HP3:Hid ((loadVar 45 ⟨gx,0,none⟩).run Tryz.prog (w2.setCell ⟨gx,8,none⟩ (.slice ko x.1.kids.length kc))=.ok (.agg #[.int .i64 x.1.kind,.int .u64 x.1.c0,.int .u64 x.1.c1,.int .u64 x.1.c2,.int .u64 x.1.c3,.string x.1.text,.int .i64 x.1.rule,.int .i64 x.1.lev,.slice ko x.1.kids.length kc]) (w2.setCell ⟨gx,8,none⟩ (.slice ko x.1.kids.length kc))):=
    run_loadVar_row (P:=Tryz.prog) _ gx _ _ #[.int .i64 x.1.kind,.int .u64 x.1.c0,.int .u64 x.1.c1,.int .u64 x.1.c2,.int .u64 x.1.c3,.string x.1.text,.int .i64 x.1.rule,.int .i64 x.1.lev,.slice ko x.1.kids.length kc] _ _ hR3.h Tryz.underlying45 rfl nd_sz9
   have HB3:Hid (Below gx wr (w2.setCell ⟨gx,8,none⟩ (.slice ko x.1.kids.length kc))):=HBX.out.trans (hfs.below (by have:=HBX.out.size;have:=HGX.out;omega) (fun k hk e=>by have e':k=gx:=e;omega))
   have HJ3:=Lib.hid (own_below HJ.out HJ1.out (by rw [HGX.out];exact HB3.out))
   have d2:=(HR22.out.fr hfs (fun e=>by have e':b2=gx:=e;have:=HR2L.out;omega)).cell 0
   have hc2:=hr2.cell 0
   clear hfs hR3 HBX
   obtain ⟨fn,tmps,assign,body,hy,hR⟩:=HY.out xs (k0+m,(x.1,(ko,kc))) _ HJ3.out ⟨HIN.out,HXN.out.symm⟩ (by rw [HXL.out];exact HLT.out)
   have hy2:(Instr.yield l #[.int .i64 ((k0:Int)+m),.agg #[.int .i64 x.1.kind,.int .u64 x.1.c0,.int .u64 x.1.c1,.int .u64 x.1.c2,.int .u64 x.1.c3,.string x.1.text,.int .i64 x.1.rule,.int .i64 x.1.lev,.slice ko x.1.kids.length kc]]).run Tryz.prog (w2.setCell ⟨gx,8,none⟩ (.slice ko x.1.kids.length kc))=.ok (.round l fn tmps assign body) (w2.setCell ⟨gx,8,none⟩ (.slice ko x.1.kids.length kc)):=by rw [← Int.natCast_add];exact hy
   have HRo:=Lib.hid hR
   clear hy hR
   gi_wp2_with (refine wpListIn_load_part rfl 45 (.tmp 5) rfl ⟨gx,0,none⟩ rfl _ HP3.out ?_)
   refine HRo.out.mono ?_
   rintro e V ⟨rfl,hJ',hkp,-⟩
   have HJ4:=Lib.hid hJ'
   have HK3:Hid (KpG w0.heap.size wr V):=kpG_t (kpG_below (by rw [HGX.out];exact HB3.out)) hkp
   clear hJ' hkp HRo hy2 HP3 HB3 HJ3 d2
   gi_wp2
   go_roundw
   case rel=>
    refine ⟨m+1,xs ++ [(k0+m,(x.1,(ko,kc)))],by have:=HLT.out;omega,by go_num,by unfold Hid;rw [List.length_append,HXL.out];rfl,?_,HJ4.out,kpG_t HK.out HK3.out⟩
    unfold Hid
    rw [List.map_append,HXM.out,List.range_succ,List.map_append]
    simp only [List.map_cons,List.map_nil,HXN.out]
   case measure=>have:=HLT.out;simp [intOf];omega
  ·have hltI:¬ (m:Int) < sz:=by omega
   obtain rfl:m=sz:=by omega
   clear hlt hm
   gi_wp2
   go_end0
   exact ⟨⟨_,rfl⟩,xs,by rw [HXM.out];unfold walkL;rw [HKZ.out],HJ1.out⟩
end Go.Proofs.YtgjhepblpdnkcaaGreatDoor
namespace Go.Proofs.YtgjhepblpdnkcaaGreatDoor
set_option maxRecDepth 100000
set_option maxHeartbeats 4000000

variable {G:Gr}
theorem rulPf_le (T:List (Nat×Nat)):∀ (l:List Ru) (k next e:Nat),rulPf G T l k next=some e->next<=e
 | [],_,next,e,h=>by simp only [rulPf,Option.some.injEq] at h;omega
 | r :: rs,k,next,e,h=>by
  unfold rulPf at h
  split at h
  ·have:=rulPf_le T rs _ _ _ h;omega
  ·cases h
theorem rulPf_span (T:List (Nat×Nat)):∀ (l:List Ru) (k next e:Nat),rulPf G T l k next=some e->∀ (i:Nat) (h:i < l.length),∃ b:Nat,l[i].body=b/\next<=b/\b < G.nodes.length/\b+(T.getD b (0,0)).1<=e/\(if h2:i+1 < l.length then l[i+1].body=((b+(T.getD b (0,0)).1:Nat):Int) else b+(T.getD b (0,0)).1=e)
 | [],_,_,_,_,i,h=>by simp at h
 | r :: rs,k,next,e,h,i,hi=>by
  unfold rulPf at h
  split at h
  case isFalse=>cases h
  case isTrue hc=>
   have hle:=rulPf_le T rs _ _ _ h
   cases i with
   | zero=>
    refine ⟨next,hc.2.2.1,Nat.le_refl _,hc.2.2.2.1,hle,?_⟩
    split
    case isTrue h2=>
     cases rs with
     | nil=>simp at h2
     | cons r2 rs2=>
      unfold rulPf at h
      split at h
      case isFalse=>cases h
      case isTrue hc2=>exact hc2.2.2.1
    case isFalse h2=>
     cases rs with
     | nil=>simpa [rulPf] using h
     | cons r2 rs2=>simp at h2
   | succ i=>
    obtain ⟨b,h1,h2,h3,h4,h5⟩:=rulPf_span T rs _ _ _ h i (by simpa using hi)
    refine ⟨b,by simpa using h1,by omega,h3,h4,?_⟩
    simpa using h5
/-- Where a rule's nodes end. -/
def endI (G:Gr) (i:Nat):Nat:=if i+1 < G.rules.length then (ruAt G.rules (i+1)).body.toNat else G.nodes.length
theorem right_tab (hR:rightP G=true):∃ T,tabs G.nodes G.nodes.length=some T/\rulPf G T G.rules 0 0=some G.nodes.length:=by
 unfold rightP at hR
 cases hT:tabs G.nodes G.nodes.length with
 | none=>rw [hT] at hR;simp at hR
 | some T=>
  rw [hT] at hR
  simp only [Bool.and_eq_true,beq_iff_eq] at hR
  exact ⟨T,rfl,hR.2⟩
theorem right_sizes (hR:rightP G=true):1<=G.rules.length/\G.rules.length<=32/\G.nodes.length<=2048:=by
 unfold rightP sizB at hR
 simp only [Bool.and_eq_true,decide_eq_true_eq] at hR
 exact ⟨hR.1.1.1.1,hR.1.1.1.2,hR.1.1.2⟩
theorem right_node (hR:rightP G=true) {i:Nat} (hi:i < G.nodes.length):nodeB G.rules.length (ndAt G i)=true:=by
 unfold rightP at hR
 simp only [Bool.and_eq_true,List.all_eq_true] at hR
 refine hR.1.2 _ ?_
 unfold ndAt
 rw [List.getD_eq_getElem?_getD,List.getElem?_eq_getElem hi]
 exact List.getElem_mem hi
theorem right_call (hR:rightP G=true) {i:Nat} (hi:i < G.nodes.length) (hk:(ndAt G i).kind=5):0<=(ndAt G i).rule/\(ndAt G i).rule < G.rules.length:=by
 have h:=right_node hR hi
 unfold nodeB at h
 rw [hk] at h
 simp only [show ¬ ((5:Int)=1∨(5:Int)=2) by decide,show ¬ ((5:Int)=3) by decide,show ¬ ((5:Int)=4) by decide,if_false,if_true,Bool.and_eq_true,decide_eq_true_eq] at h
 omega
/-- A rule's nodes, in a right grammar. -/
theorem right_rule (hR:rightP G=true) {i:Nat} (hi:i < G.rules.length):∃ b:Nat,(ruAt G.rules i).body=b/\b < G.nodes.length/\b+sizN G b=endI G i/\endI G i<=G.nodes.length:=by
 obtain ⟨T,hT,hr⟩:=right_tab hR
 obtain ⟨b,h1,h2,h3,h4,h5⟩:=rulPf_span T _ _ _ _ hr i hi
 have hs:sizN G b=(T.getD b (0,0)).1:=by unfold sizN;rw [hT]
 refine ⟨b,by rw [ruAt_in hi];exact h1,h3,?_,?_⟩
 ·rw [hs]
  unfold endI
  split at h5
  case isTrue h6=>rw [if_pos h6,ruAt_in h6,h5];rfl
  case isFalse h6=>rw [if_neg h6];exact h5
 ·unfold endI
  split at h5
  case isTrue h6=>rw [if_pos h6,ruAt_in h6,h5,Int.toNat_natCast];exact h4
  case isFalse h6=>rw [if_neg h6];exact Nat.le_refl _
end Go.Proofs.YtgjhepblpdnkcaaGreatDoor
namespace Go.Proofs.YtgjhepblpdnkcaaGreatDoor
variable {G:Gr}
open Go.RowKit Go.Shelf
attribute [local go_sem] Oper.semAt_some
set_option maxRecDepth 100000
set_option maxHeartbeats 4000000

/-- The calls of a rule: who, whom. -/
def edgI (G:Gr) (i:Nat):List (Nat×Int):=((walkL G (ruAt G.rules i).body.toNat).filter fun y=>decide (y.2.kind=5)).map fun y=>(i,y.2.rule)
def edgL (G:Gr) (m:Nat):List (Nat×Int):=(List.range m).flatMap (edgI G)
theorem edgL_len (hR:rightP G=true):∀ m,m<=G.rules.length->(edgL G m).length<=m * 2048
 | 0,_=>by simp [edgL]
 | m+1,h=>by
  have h1:=edgL_len hR m (by omega)
  obtain ⟨b,e1,e2,e3,e4⟩:=right_rule hR (i:=m) (by omega)
  have h2:(edgI G m).length<=sizN G b:=by
   unfold edgI
   rw [e1,List.length_map]
   refine Nat.le_trans (List.length_filter_le _ _) ?_
   simp [walkL]
  have h3:=(right_sizes hR).2.2
  have h4:(edgL G (m+1)).length=(edgL G m).length+(edgI G m).length:=by simp [edgL,List.range_succ]
  omega
theorem edgL_succ (G:Gr) (m:Nat):edgL G (m+1)=edgL G m ++ edgI G m:=by simp [edgL,List.range_succ]
/-- The calls among a rule's nodes. -/
def flC (m:Nat) (xs:List (Nat×Nk)):List (Nat×Int):=((xs.map fun y=>(y.1,y.2.1)).filter fun y=>decide (y.2.kind=5)).map fun y=>(m,y.2.rule)
theorem flC_snoc (m:Nat) (xs:List (Nat×Nk)) (y:Nat×Nk):flC m (xs ++ [y])=if y.2.1.kind=5 then flC m xs ++ [(m,y.2.1.rule)] else flC m xs:=by
 unfold flC
 rw [List.map_append,List.filter_append,List.map_append]
 by_cases h:y.2.1.kind=5 <;> simp [h]
theorem flC_len (m:Nat) (xs:List (Nat×Nk)):(flC m xs).length<=xs.length:=by
 unfold flC
 rw [List.length_map]
 exact Nat.le_trans (List.length_filter_le _ _) (by simp)
def encC (y:Nat×Int):Array Value:=#[.int .i64 y.1,.int .i64 y.2]
/-- The marks of ranges that are through. -/
def marks (ds:List Nat):List Deferred:=ds.map fun D=>{ target:=.collected D,args:=#[] }
theorem roundIn_any {n m:Nat} {P:Program} {l l':Nat} {f:FuncId} {tmps:Array Value} {assign body:Code} {w:World} {R:Ending->World->Prop} (h:RoundIn Fence.wide n P l f tmps assign body w R):RoundIn (Fence.wide.inRound l') m P l f tmps assign body w R:=
 ⟨h.1,fun c cs _=>h.2 c cs (room_wide _)⟩
theorem gcalls_any (w:World) (v:Value) (cs:Array Value) (hv:v=.agg cs):Calls Tryz.prog 99 #[v] w fun e w'=>e=.returned (.func (.func 137) #[] #[.pointer (some ⟨w.heap.size,0,none⟩)])/\w'=w.alloc (.cells cs 25):=by
 subst hv
 have hmf:∀ (fn:Fn) (first cap:Array Value) (w:World),(Instr.makeFunc fn first cap).run Tryz.prog w=.ok (.func fn first cap) w:=fun _ _ _ _=>rfl
 go_enter Tryz.func99,Tryz.ntmps99
 go_wp2_with fail
 go_ret
 exact ⟨rfl,rfl⟩
theorem marks_leave {P:Program} {n:Nat} {fn:Func} {tmps:Array Value} {R:Ending->World->Prop} (hres:fn.results=#[]) {β:Type} {B:Nat} {J:β->World->Prop} (hJ:OwnFrom B J) (s:β) (hR:∀ w,J s w->R (.returned (.tuple #[])) w):
  ∀ (ds:List Nat) (w:World),J s w->ds.Nodup->(∀ D ∈ ds,B<=D/\w.heap[D]?=some (.deferred (some [])))->LeavesInM Fence.wide n P fn tmps R (marks ds) .returning w
 | [],w,hs,_,_=>by
  show LeavesIn _ _ _ _ _ _ [] _ _
  refine ⟨.tuple #[],?_,hR w hs⟩
  simp [results,hres]
 | D :: ds,w,hs,hn,hd=>by
  have h1:=hd D (List.mem_cons_self ..)
  refine ⟨by simp,.inl ⟨D,_,rfl,run_takeDeferred h1.2,?_⟩⟩
  refine marks_leave hres hJ s hR ds _ (hJ.putObj _ hs h1.1 h1.2 rfl) (List.nodup_cons.1 hn).2 (fun E hE=>⟨(hd E (List.mem_cons_of_mem _ hE)).1,?_⟩)
  exact (World.putObj_heap_other (fun e=>(List.nodup_cons.1 hn).1 (by rw [← e];exact hE))).trans (hd E (List.mem_cons_of_mem _ hE)).2
theorem calls1_seq (w0:World) (ro:Option Addr) (rc:Nat) (no:Option Addr) (nc:Nat) (NK:List Nk) (G:Gr) (hG:GrW w0 ro G.rules.length rc no NK.length nc NK G) (hR:rightP G=true) (n b1:Nat) (w:World) (hlow:Low w0 w)
  (h1:hrow w b1 #[.slice ro G.rules.length rc,.slice no NK.length nc] 25) (hkl:∀ x ∈ NK,x.1.kids.length<=1000000) (hnl:NK.length<=1000000) (N:Nat) (hN:G.rules.length * 2048<=N):
  SeqX Fence.wide (n+4) Tryz.prog 137 #[.pointer (some ⟨b1,0,none⟩)] encC (KpG w0.heap.size) (fun y _=>y.1 < G.rules.length/\0<=y.2/\y.2 < G.rules.length) (fun xs _=>xs=edgL G G.rules.length) N w:=fun l J W hW hJ hY h0=>by
 have HGR:=Lib.hid hG;have HRT:=Lib.hid hR;have HLW:=Lib.hid (hlow.kp (kpG_below hW))
 have HB1:=Lib.hid (h1.below hW);have HKL:=Lib.hid hkl;have HNL:=Lib.hid hnl;have HY:=Lib.hid hY;have H0:=Lib.hid h0;have HJ:=Lib.hid hJ;have HNN:=Lib.hid hN
 have HWW:=Lib.hid hW.size
 clear hG hR hlow hW h1 hkl hnl hY h0 hJ hN
 obtain ⟨rn,hrn⟩:∃ n,G.rules.length=n:=⟨_,rfl⟩
 rw [hrn] at HGR HB1 HNN ⊢
 have HRN:=Lib.hid hrn
 clear hrn
 refine callsIn_of_wp_marks Tryz.func137 rfl trivial ?_ rfl
 simp only [Tryz.ntmps137,List.size_toArray,List.length_cons,List.length_nil,Nat.reduceAdd,Nat.reduceSub,Array.replicate_succ,Array.replicate_zero,List.push_toArray,List.append_toArray,List.nil_append,List.cons_append]
 have hal:=(Below.refl _ W).alloc (Nat.le_refl _) (.cells #[.func (.yield l) #[] #[]] 200)
 have hc0:=(HB1.out.below hal).cell 0
 have HW2:=Lib.hid hal
 clear hal
 have HF0:=Lib.hid (hrow.new W #[.func (.yield l) #[] #[]] 200)
 have HJ1:=Lib.hid (own_below HJ.out H0.out HW2.out)
 gi_wp2
 revert HW2 HF0 HJ1 hc0
 generalize W.alloc (.cells #[.func (.yield l) #[] #[]] 200)=W1
 intro hc0 HW2 HF0 HJ1
 clear H0 hc0
 refine wpIn_loop (fun a wr=>∃ (m:Nat) (ds:List Nat) (u3 u4 u11 u12 u13 u14 u15 u16 u17 u18 u32:Value),a={ tmps:=#[.func (.yield l) #[] #[],.pointer (some ⟨b1,0,none⟩),.pointer (some ⟨W.heap.size,0,none⟩),u3,u4,undef,undef,.pointer (some ⟨b1,0,none⟩),.slice ro rn rc,.int .i64 rn,.int .i64 m,u11,u12,u13,u14,u15,u16,u17,u18,undef,undef,undef,undef,undef,undef,undef,undef,undef,undef,undef,undef,undef,u32],defers:=marks ds }/\m<=rn/\Hid (J (edgL G m) wr)/\Hid (KpG w0.heap.size W1 wr)/\Hid (ds.Nodup/\∀ D ∈ ds,W.heap.size<=D/\D < wr.heap.size/\wr.heap[D]?=some (.deferred (some []))))
  (fun a _=>rn - (intOf (a.tmps.getD 10 undef)).toNat) ⟨0,[],undef,undef,undef,undef,undef,undef,undef,undef,undef,undef,undef,rfl,Nat.zero_le _,HJ1.out,kpG_refl _ _,List.nodup_nil,fun D h=>by simp at h⟩ ?_
 rintro a wr ⟨m,ds,u3,u4,u11,u12,u13,u14,u15,u16,u17,u18,u32,rfl,hm,HJ2,HK,HD⟩
 clear HJ1
 by_cases hlt:m < rn
 ·have hltI:(m:Int) < rn:=by omega
  have HLT:=Lib.hid hlt
  have hin:m < G.rules.length:=by rw [HRN.out];exact hlt
  have hG:=((HLW.out.kp (kpG_below HW2.out)).kp HK.out).gr HGR.out
  obtain ⟨a,rfl,hp⟩:=Sv.at ruc_len hG.rul (by decide) m hin
  obtain ⟨r,hr⟩:∃ r,G.rules[m]'hin=r:=⟨_,rfl⟩
  obtain ⟨b,hb1,hb2,hb3,hb4⟩:=right_rule HRT.out hin
  rw [ruAt_in hin,hr] at hb1
  rw [hr] at hp
  have HPW:Hid ((loadVar 49 (a.add (m * 2))).run Tryz.prog wr=.ok (.agg #[.string r.name,.int .i64 r.body]) wr):=
   run_loadVar_part wr (a.add (m * 2)) _ _ _ hp Tryz.underlying49 rfl (by show _=some 2;decide +kernel)
  have HEI:Hid (edgI G m=((walkL G b).filter fun y=>decide (y.2.kind=5)).map fun y=>(m,y.2.rule)):=by unfold Hid edgI;rw [ruAt_in hin,hr,hb1];rfl
  have HBB:Hid (b < NK.length/\b+sizN G b<=NK.length):=by
   have:G.nodes.length=NK.length:=by rw [← HGR.out.eq,List.length_map]
   rw [← this];exact ⟨hb2,by rw [hb3];exact hb4⟩
  have hbd:=hG.rul.bound
  obtain ⟨z,hz,z1,z2,zb⟩:=three0 wr wr.heap.size rfl #[.int .i64 m] #[.string r.name,.int .i64 r.body] 3 49
  rw [hb1] at hz z2 HPW
  have HZ:=Lib.hid hz;have HZ1:=Lib.hid z1;have HZ2:=Lib.hid z2;have HZB:=Lib.hid zb
  have hB1:=(HK.out.row (HB1.out.below HW2.out) (by decide)).below zb
  have HGL:=Lib.hid (gram_ld hB1)
  have hF0:=(HK.out.row HF0.out (by decide)).below zb
  have HF1:=Lib.hid hF0
  have c4:=z2.cell 1
  clear hp hr hb1 hb2 hb3 hb4 z1 z2 zb hB1 hF0 hin hG hlt hm HZ
  subst hz
  gi_wp2_with (first | (refine wpListIn_load_part rfl 49 (.tmp 13) rfl (a.add (m * 2)) rfl _ HPW.out ?_) | (refine wpListIn_load_part rfl 25 (.tmp 1) rfl ⟨b1,0,none⟩ rfl _ HGL.out ?_))
  refine ⟨trivial,(callsIn_wide.2 (walk_any _ _ _ _ rfl)).mono ?_⟩
  rintro e w5 ⟨rfl,hw5⟩
  revert HZ1 HZ2 HZB HGL HF1 hw5 c4
  generalize (wr.alloc (.cells #[.int .i64 m] 3)).alloc (.cells #[.string r.name,.int .i64 b] 49)=w4
  intro HZ1 HZ2 HZB HGL HF1 c4 hw5
  clear c4 HGL HPW
  obtain ⟨z,hz,z1,z2,zb⟩:=three0 w4 w4.heap.size rfl #[.slice (some a) rn rc,.slice no NK.length nc] #[.int .i64 b] 25 3
  obtain rfl:w5=z:=hw5.trans hz
  clear hz hw5
  have HZB5:=Lib.hid (HZB.out.trans (zb.mono HZB.out.size))
  have HK5:=Lib.hid (kpG_t HK.out (kpG_below (B:=w0.heap.size) HZB5.out))
  have HLW5:=Lib.hid ((HLW.out.kp (kpG_below HW2.out)).kp HK5.out)
  have HS5:Hid (SeqX Fence.wide (n+4 - 1) Tryz.prog 170 #[.pointer (some ⟨w4.heap.size,0,none⟩),.pointer (some ⟨w4.heap.size+1,0,none⟩)] encW (KpG w0.heap.size) (fun y _=>y.1 < NK.length/\y.2.1=ndAt G y.1) (fun xs _=>xs.map (fun y=>(y.1,y.2.1))=walkL G b) (sizN G b) w5):=
   walk1_seq w0 (some a) rn rc no nc NK G HGR.out HRT.out b (n+1) w4.heap.size (w4.heap.size+1) HBB.out.1 w5 HLW5.out z1 z2 HBB.out.2 HKL.out HNL.out
  have HZ15:=Lib.hid (HZ1.out.below zb);have HF5:=Lib.hid (HF1.out.below zb)
  have HJ5:=Lib.hid (own_below HJ.out HJ2.out HZB5.out)
  have HD5:Hid (ds.Nodup/\∀ D ∈ ds,W.heap.size<=D/\D < w5.heap.size/\w5.heap[D]?=some (.deferred (some []))):=⟨HD.out.1,fun D hD=>by
   obtain ⟨h1,h2,h3⟩:=HD.out.2 D hD
   have:=HZB5.out.size
   exact ⟨h1,by omega,(HZB5.out.block D h2).trans h3⟩⟩
  have HWS:Hid (W.heap.size < w5.heap.size/\wr.heap.size < w5.heap.size):=by
   have h1:=HF5.out.lt
   have h2:=HZ15.out.lt
   exact ⟨h1,h2⟩
  clear z1 z2 zb HZ1 HZ2 HZB HF1 HD HJ2 HK
  have hef:=enters_of Tryz.func170 (by kernel_rfl) rfl
  gi_wp2
  refine wpIn_range_x rfl (by omega) rfl trivial hef HS5.out kpG_t (fun W l o o' _ h hc=>kpG_b W l o o' h hc) (fun _=>rfl)
   (fun pre V=>J (edgL G m ++ flC m pre) V/\KpG w0.heap.size w5 V/\∀ D ∈ ds,V.heap[D]?=some (.deferred (some []))) ?own ⟨by simpa [flC] using HJ5.out,kpG_refl _ _,fun D hD=>(HD5.out.2 D hD).2.2⟩
   (fun _ y a' V=>∃ Bx,w5.heap.size<=Bx/\hrow V Bx (nkA y.2) 45/\(y.1 < NK.length/\y.2.1=ndAt G y.1)/\a'={ tmps:=(((#[.func (.yield l) #[] #[],.pointer (some ⟨b1,0,none⟩),.pointer (some ⟨W.heap.size,0,none⟩),.pointer (some ⟨wr.heap.size,0,none⟩),.pointer (some ⟨wr.heap.size+1,0,none⟩),undef,undef,.pointer (some ⟨b1,0,none⟩),.slice (some a) rn rc,.int .i64 rn,.int .i64 m,.bool true,.int .i64 m,.pointer (some (a.add (m * 2))),.agg #[.string r.name,.int .i64 b],.agg #[.slice (some a) rn rc,.slice no NK.length nc],.pointer (some ⟨wr.heap.size+1,1,none⟩),.int .i64 b,.func (.func 170) #[] #[.pointer (some ⟨w4.heap.size,0,none⟩),.pointer (some ⟨w4.heap.size+1,0,none⟩)],undef,undef,undef,undef,undef,undef,undef,undef,undef,undef,undef,undef,undef,u32]:Array Value).setIfInBounds 19 (.int .i64 y.1)).setIfInBounds 20 (.agg (nkA y.2))).setIfInBounds 6 (.pointer (some ⟨Bx,0,none⟩)),defers:=[] }) ?hAx ?assign ?body ?done
  case own=>
   rintro pre X Y row ⟨h1,h2,h3⟩ hg hr
   refine ⟨HJ.out _ X Y row h1 hg (fun r e=>⟨Nat.le_trans (Nat.le_of_lt HWS.out.1) (hr r e).1,(hr r e).2⟩),kpG_own (β:=Unit) _ w5 w5.heap.size () X Y row h2 hg hr,fun D hD=>(hg.block D (Array.getElem?_eq_some_iff.1 (h3 D hD)).1 (fun e=>?_)).trans (h3 D hD)⟩
   have:=(hr D e.symm).1
   have:=(HD5.out.2 D hD).2.1
   omega
  case hAx=>
   rintro pre y a' _ X Y row ⟨Bx,h1,h2,h3,h4⟩ hg hr
   exact ⟨Bx,h1,h2.own hg hr,h3,h4⟩
  case assign=>
   intro l2 pre y V K hI hX hsz hK
   have HK2:=Lib.hid hK;have HI:=Lib.hid hI;have HX:=Lib.hid hX;have HSZ:=Lib.hid hsz
   clear hK hI hX hsz hef
   simp [encW]
   unfold nkA
   gi_wp2
   have hb:=(Below.refl _ V).alloc (Nat.le_refl _) (.cells (nkA y.2) 45)
   exact HK2.out _ _ ((KeepsOthers.alloc _ _).from _) (kpG_below hb) ⟨own_below HJ.out HI.out.1 hb,kpG_t HI.out.2.1 (kpG_below hb),fun D hD=>(hb.block D (Array.getElem?_eq_some_iff.1 (HI.out.2.2 D hD)).1).trans (HI.out.2.2 D hD)⟩ ⟨V.heap.size,HSZ.out,hrow.new _ _ _,HX.out,rfl⟩
  case body=>
   rintro l2 pre y a' V ⟨hJ,hK,hD⟩ ⟨Bx,hB,hX,⟨hx1,hx2⟩,rfl⟩ hlen
   have HJV:=Lib.hid hJ;have HKV:=Lib.hid hK;have HDV:=Lib.hid hD;have HXV:=Lib.hid hX;have HX1:=Lib.hid hx1;have HX2:=Lib.hid hx2
   have c0:V.cell? ⟨Bx,0,none⟩=some (.int .i64 y.2.1.kind):=hX.cell 0
   have c6:V.cell? ⟨Bx,6,none⟩=some (.int .i64 y.2.1.rule):=hX.cell 6
   have f0:=(hK.row HF5.out (by decide)).cell 0
   have w0':=(hK.row HZ15.out (by decide)).cell 0
   have HLN:Hid ((edgL G m ++ flC m pre).length < N):=by
    have h1:=edgL_len HRT.out m (by have:=HLT.out;have:=HRN.out;omega)
    have h2:=flC_len m pre
    have h3:=HBB.out.2
    have h4:=(right_sizes HRT.out).2.2
    have h5:NK.length=G.nodes.length:=by rw [← HGR.out.eq,List.length_map]
    have h6:=HNN.out
    have h7:=HLT.out
    unfold Hid
    rw [List.length_append]
    have h8:(m+1) * 2048<=rn * 2048:=Nat.mul_le_mul_right _ h7
    omega
   clear hJ hK hD hX hx1 hx2 hef hlen hB
   simp only [List.setIfInBounds_toArray,List.set_cons_succ,List.set_cons_zero]
   refine wpIn_block ?_
   by_cases hk:y.2.1.kind=5
   ·have hkq:(y.2.1.kind == 5)=true:=by rw [hk];rfl
    have HXR:Hid (m < rn/\0<=y.2.1.rule/\y.2.1.rule < rn):=by
     have h5:NK.length=G.nodes.length:=by rw [← HGR.out.eq,List.length_map]
     have h6:=right_call HRT.out (i:=y.1) (by rw [← h5];exact HX1.out) (by rw [← HX2.out];exact hk)
     rw [← HX2.out,HRN.out] at h6
     exact ⟨HLT.out,h6⟩
    obtain ⟨fn,tmps,assign,body,hy,hR⟩:=HY.out _ (m,y.2.1.rule) V HJV.out (by rw [HRN.out];exact HXR.out) HLN.out
    have hy2:(Instr.yield l #[.int .i64 m,.int .i64 y.2.1.rule]).run Tryz.prog V=.ok (.round l fn tmps assign body) V:=hy
    have HRo:=Lib.hid hR
    have HKD:=Lib.hid hk
    clear hy hR hk
    gi_wp2
    refine (roundIn_any HRo.out).mono ?_
    rintro e V' ⟨rfl,hJ',hkp,hkf⟩
    have HP1:=Lib.hid hJ';have HP2:=Lib.hid hkp;have HP3:=Lib.hid hkf
    clear hJ' hkp hkf HRo hy2 c0 c6 f0 w0'
    gi_wp2
    refine ⟨trivial,⟨by have:=HWS.out;exact HP3.out.size,fun k o hk ho hc=>HP3.out.same k o (by have:=HWW.out;have:=HWS.out.1;omega) ho hc⟩,HP2.out,?_,kpG_t HKV.out HP2.out,fun D hD=>HP3.out.same D _ (by have:=HWW.out;have:=(HD5.out.2 D hD).1;omega) (HDV.out D hD) rfl⟩
    rw [flC_snoc,if_pos HKD.out,← List.append_assoc]
    exact HP1.out
   ·have hkq:(y.2.1.kind == 5)=false:=by rw [beq_eq_false_iff_ne];exact hk
    have HKD:=Lib.hid hk
    clear hk
    gi_wp2
    refine ⟨fun _ h=>(by cases h),?_⟩
    gi_wp2
    refine ⟨trivial,KeepsFrom.refl _ _,kpG_refl _ _,?_,HKV.out,HDV.out⟩
    rw [flC_snoc,if_neg HKD.out]
    exact HJV.out
  case done=>
   rintro D xs V V2 hD hS ⟨hJ,hK,hDs⟩ hg ho hdf
   have HJV:=Lib.hid hJ;have HKV:=Lib.hid hK;have HDV:=Lib.hid hDs;have HDX:=Lib.hid hD;have HSX:=Lib.hid hS;have HDF:=Lib.hid hdf
   clear hD hS hJ hK hDs hg ho hdf hef
   gi_wp2
   refine ⟨⟨m+1,D :: ds,_,_,_,_,_,_,_,_,_,_,_,rfl,by have:=HLT.out;omega,?_,kpG_t HK5.out HKV.out,?_⟩,by have:=HLT.out;simp [intOf];omega⟩
   ·unfold Hid
    rw [edgL_succ,HEI.out,← HSX.out]
    exact HJV.out
   ·refine ⟨List.nodup_cons.2 ⟨fun h=>by have:=(HD5.out.2 D h).2.1;have:=HDX.out;omega,HD5.out.1⟩,fun E hE=>?_⟩
    rcases List.mem_cons.1 hE with rfl | hE
    ·exact ⟨by have:=HDX.out;have:=HWS.out.1;omega,(Array.getElem?_eq_some_iff.1 HDF.out).1,HDF.out⟩
    ·exact ⟨(HD5.out.2 E hE).1,(Array.getElem?_eq_some_iff.1 (HDV.out E hE)).1,HDV.out E hE⟩
 ·have hltI:¬ (m:Int) < rn:=by omega
  obtain rfl:m=rn:=by omega
  clear hlt hm
  gi_wp2
  exact marks_leave rfl HJ.out (edgL G m) (fun v hv=>⟨⟨_,rfl⟩,hv⟩) ds wr HJ2.out HD.out.1 (fun D hD=>⟨(HD.out.2 D hD).1,(HD.out.2 D hD).2.2⟩)
end Go.Proofs.YtgjhepblpdnkcaaGreatDoor
namespace Go.Proofs.YtgjhepblpdnkcaaGreatDoor
open Go.RowKit Go.Shelf
attribute [local go_sem] Oper.semAt_some
set_option maxRecDepth 100000
set_option maxHeartbeats 4000000

/-- A row by its number's function. -/
def arrF (n:Nat) (f:Nat->Value):Array Value:=((List.range n).map f).toArray
theorem arrF_get (n:Nat) (f:Nat->Value) (i:Nat) (h:i < n):(arrF n f)[i]?=some (f i):=by simp [arrF,h]
theorem arrF_set (n:Nat) (f:Nat->Value) (k:Nat) (v:Value):(arrF n f).setIfInBounds k v=arrF n (fun i=>if i=k then v else f i):=by
 apply Array.ext
 ·simp [arrF]
 ·intro i h1 h2
  simp only [arrF,List.setIfInBounds_toArray,List.getElem_toArray,List.getElem_set,List.getElem_map,List.getElem_range]
  by_cases h:k=i
  ·subst h;simp
  ·rw [if_neg h,if_neg (fun e=>h e.symm)]
theorem arrF_congr {n:Nat} {f g:Nat->Value} (h:∀ i,i < n->f i=g i):arrF n f=arrF n g:=by
 unfold arrF
 congr 1
 exact List.map_congr_left (fun i hi=>h i (List.mem_range.1 hi))
theorem made_arrF (v:Value) (n:Nat):madeCells #[v] n=arrF n (fun _=>v):=by
 apply Array.ext
 ·simp [madeCells,arrF]
 ·intro i h1 h2
  simp [madeCells,arrF,Nat.mod_one]
theorem infoBool:(Tryz.prog.info? 4).map (fun i=>(i.zero,i.size,i.bytes))=some (some (.bool false),1,1):=by kernel_rfl
theorem infoBools:(Tryz.prog.info? 112).map (fun i=>(i.zero,i.size,i.bytes))=some (some (.slice none 0 0),1,24):=by kernel_rfl
def bitF (p:Nat->Bool):Nat->Value:=fun j=>.bool (p j)
def rowF (n:Nat) (bs:Nat->Nat):Nat->Value:=fun i=>.slice (some ⟨bs i,0,none⟩) n n
/-- A graph, as it lies. -/
structure GphW (w:World) (B gb:Nat) (bs:Nat->Nat) (n:Nat) (E:Nat->Nat->Bool):Prop where
 row:hrow w gb (arrF n (rowF n bs)) 112
 bit:∀ i,i < n->hrow w (bs i) (arrF n (bitF (E i))) 4
 inj:∀ i j,i < n->j < n->bs i=bs j->i=j
 lo:B<=gb/\∀ i,i < n->B<=bs i
theorem GphW.below {w w':World} {B gb:Nat} {bs:Nat->Nat} {n:Nat} {E:Nat->Nat->Bool} (h:GphW w B gb bs n E) (hb:Below w.heap.size w w'):GphW w' B gb bs n E:=
 ⟨h.row.below hb,fun i hi=>(h.bit i hi).below hb,h.inj,h.lo⟩
theorem GphW.congr {w:World} {B gb:Nat} {bs:Nat->Nat} {n:Nat} {E E':Nat->Nat->Bool} (h:GphW w B gb bs n E) (he:∀ i j,i < n->j < n->E i j=E' i j):GphW w B gb bs n E':=
 ⟨h.row,fun i hi=>by have:=h.bit i hi;rwa [arrF_congr (g:=bitF (E' i)) (fun j hj=>by unfold bitF;rw [he i j hi hj])] at this,h.inj,h.lo⟩
theorem GphW.ne {w:World} {B gb:Nat} {bs:Nat->Nat} {n:Nat} {E:Nat->Nat->Bool} (h:GphW w B gb bs n E) {i:Nat} (hi:i < n):gb ≠ bs i:=fun e=>by
 have h1:=h.row.h
 have h2:=(h.bit i hi).h
 rw [e,h2] at h1
 simp only [Option.some.injEq,Obj.cells.injEq] at h1
 exact absurd h1.2.1 (by decide)
/-- An edge more. -/
theorem GphW.put {w:World} {B gb:Nat} {bs:Nat->Nat} {n:Nat} {E:Nat->Nat->Bool} (h:GphW w B gb bs n E) {a b:Nat} (ha:a < n):GphW (w.setCell ⟨bs a,b,none⟩ (.bool true)) B gb bs n (fun i j=>if i=a/\j=b then true else E i j):=by
 have hf:=Fr.setCell w ⟨bs a,b,none⟩ (.bool true)
 refine ⟨h.row.fr hf (fun e=>h.ne ha e),fun i hi=>?_,h.inj,h.lo⟩
 by_cases e:i=a
 ·subst e
  have h1:=(h.bit i hi).setCell b (.bool true)
  rw [arrF_set] at h1
  refine (arrF_congr (fun j hj=>?_):arrF n _=arrF n _) ▸ h1
  unfold bitF
  by_cases e2:j=b <;> simp [e2]
 ·have h1:=(h.bit i hi).fr hf (fun e2=>e (h.inj i a hi ha e2))
  refine (arrF_congr (fun j hj=>?_):arrF n _=arrF n _) ▸ h1
  unfold bitF
  simp [e]
/-- Who calls whom. -/
def edgB (G:Gr) (i j:Nat):Bool:=decide ((i,(j:Int)) ∈ edgL G G.rules.length)
def okR (G:Gr) (rule:Int):Bool:=rightP G && (decide (0<=rule) && decide (rule < G.rules.length))
def OfgP (w:World) (G:Gr) (rule:Int) (e:Ending) (w':World):Prop:=
 Below w.heap.size w w'/\if okR G rule then ∃ gb bs,e=.returned (.tuple #[.slice (some ⟨gb,0,none⟩) G.rules.length G.rules.length,.bool true])/\GphW w' w.heap.size gb bs G.rules.length (edgB G) else e=.returned (.tuple #[.slice none 0 0,.bool false])
/-- While the rows are made. -/
structure MkI (w2:World) (gt gb n m:Nat) (bs:Nat->Nat) (wr:World):Prop where
 box:hrow wr gt #[.slice (some ⟨gb,0,none⟩) n n] 108
 row:hrow wr gb (arrF n fun i=>if i < m then rowF n bs i else .slice none 0 0) 112
 bit:∀ i,i < m->hrow wr (bs i) (arrF n (bitF fun _=>false)) 4
 inj:∀ i j,i < m->j < m->bs i=bs j->i=j
 lo:w2.heap.size<=gt/\w2.heap.size<=gb/\∀ i,i < m->w2.heap.size<=bs i
 bel:Below w2.heap.size w2 wr
theorem MkI.next {w2 wr:World} {gt gb n m:Nat} {bs:Nat->Nat} (h:MkI w2 gt gb n m bs wr) (hm:m < n):
  MkI w2 gt gb n (m+1) (fun i=>if i=m then wr.heap.size else bs i) ((wr.setCell ⟨gb,m,none⟩ (.slice (some ⟨wr.heap.size,0,none⟩) n n)).alloc (.cells (arrF n (bitF fun _=>false)) 4)):=by
 have hf:=Fr.setCell wr ⟨gb,m,none⟩ (.slice (some ⟨wr.heap.size,0,none⟩) n n)
 have hal:=(Below.refl _ (wr.setCell ⟨gb,m,none⟩ (.slice (some ⟨wr.heap.size,0,none⟩) n n))).alloc (Nat.le_refl _) (.cells (arrF n (bitF fun _=>false)) 4)
 have hsz:(wr.setCell ⟨gb,m,none⟩ (.slice (some ⟨wr.heap.size,0,none⟩) n n)).heap.size=wr.heap.size:=by simp
 have hgb:=h.row.lt
 have hgt:gt ≠ gb:=fun e=>by
  have h1:=h.box.h;have h2:=h.row.h
  rw [e,h2] at h1
  simp only [Option.some.injEq,Obj.cells.injEq] at h1
  exact absurd h1.2.1 (by decide)
 have hbl:∀ i,i < m->bs i < wr.heap.size:=fun i hi=>(h.bit i hi).lt
 have hbn:∀ i,i < m->bs i ≠ gb:=fun i hi e=>by
  have h1:=(h.bit i hi).h;have h2:=h.row.h
  rw [e,h2] at h1
  simp only [Option.some.injEq,Obj.cells.injEq] at h1
  exact absurd h1.2.1 (by decide)
 refine ⟨(h.box.fr hf hgt).below hal,?_,fun i hi=>?_,fun i j hi hj e=>?_,⟨h.lo.1,h.lo.2.1,fun i hi=>?_⟩,(h.bel.trans (hf.below h.bel.size (fun k hk e=>by have:=h.lo.2.1;have e':k=gb:=e;omega))).trans (hal.mono (by rw [hsz];exact h.bel.size))⟩
 ·have h1:=(h.row.setCell m (.slice (some ⟨wr.heap.size,0,none⟩) n n)).below hal
  rw [arrF_set] at h1
  refine (congrArg (fun a=>hrow _ gb a _) (arrF_congr fun i hi=>?_)).mp h1
  by_cases e:i=m
  ·subst e;simp [rowF]
  ·by_cases e2:i < m
   ·rw [if_neg e,if_pos e2,if_pos (by omega)];unfold rowF;simp only [if_neg e]
   ·rw [if_neg e,if_neg e2,if_neg (by omega)]
 ·by_cases e:i=m
  ·rw [if_pos e]
   have h1:=hrow.new (wr.setCell ⟨gb,m,none⟩ (.slice (some ⟨wr.heap.size,0,none⟩) n n)) (arrF n (bitF fun _=>false)) 4
   rw [hsz] at h1
   exact h1
  ·rw [if_neg e]
   exact ((h.bit i (by omega)).fr hf (hbn i (by omega))).below hal
 ·by_cases e1:i=m <;> by_cases e2:j=m
  ·omega
  ·rw [if_pos e1,if_neg e2] at e;have:=hbl j (by omega);omega
  ·rw [if_neg e1,if_pos e2] at e;have:=hbl i (by omega);omega
  ·rw [if_neg e1,if_neg e2] at e;exact h.inj i j (by omega) (by omega) e
 ·by_cases e1:i=m
  ·rw [if_pos e1];exact h.bel.size
  ·rw [if_neg e1];exact h.lo.2.2 i (by omega)
theorem MkI.drew {w2 wr:World} {gt gb n m:Nat} {bs:Nat->Nat} (h:MkI w2 gt gb n m bs wr):MkI w2 gt gb n m bs wr.drew:=by
 have hb:=(Below.refl wr.heap.size wr).drew
 exact ⟨h.box.below hb,h.row.below hb,fun i hi=>(h.bit i hi).below hb,h.inj,h.lo,h.bel.trans (hb.mono h.bel.size)⟩
theorem kpG_set {B b:Nat} {V:World} {cs:Array Value} (h:hrow V b cs 4) (hB:B<=b) (j:Nat) (v:Value):KpG B V (V.setCell ⟨b,j,none⟩ v):=by
 have hf:=Fr.setCell V ⟨b,j,none⟩ v
 refine ⟨hf.size,fun k cs' t fr ht hc=>(hf.block k (Array.getElem?_eq_some_iff.1 hc).1 (fun e=>?_)).trans hc⟩
 have e':k=b:=e
 subst e'
 rcases ht with ht | ht
 ·omega
 ·rw [h.h] at hc;cases hc;exact ht rfl
/-- While the calls are gone through. -/
structure CgI (w2:World) (gt gb n:Nat) (bs:Nat->Nat) (pre:List (Nat×Int)) (V:World):Prop where
 box:hrow V gt #[.slice (some ⟨gb,0,none⟩) n n] 108
 g:GphW V w2.heap.size gb bs n (fun i j=>decide ((i,(j:Int)) ∈ pre))
 fr:Fr (fun k=>w2.heap.size<=k) w2 V
theorem CgI.own {w2:World} {gt gb n B:Nat} {bs:Nat->Nat} (hB:w2.heap.size<=B):OwnFrom B (fun pre V=>CgI w2 gt gb n bs pre V):=by
 rintro pre X Y row ⟨h1,h2,h3⟩ hg hr
 exact ⟨h1.own hg hr,⟨h2.row.own hg hr,fun i hi=>(h2.bit i hi).own hg hr,h2.inj,h2.lo⟩,h3.trans (Fr.grown hg) (fun k hk e=>by have:=(hr k e).1;omega)⟩
theorem CgI.put {w2 V:World} {gt gb n:Nat} {bs:Nat->Nat} {pre:List (Nat×Int)} (h:CgI w2 gt gb n bs pre V) {a b:Nat} (ha:a < n):CgI w2 gt gb n bs (pre ++ [(a,(b:Int))]) (V.setCell ⟨bs a,b,none⟩ (.bool true)):=by
 have hf:=Fr.setCell V ⟨bs a,b,none⟩ (.bool true)
 refine ⟨h.box.fr hf (fun e=>?_),(h.g.put ha).congr (fun i j _ _=>?_),h.fr.trans hf (fun k _ e=>by have e':k=bs a:=e;rw [e'];exact h.g.lo.2 a ha)⟩
 ·have e':gt=bs a:=e
  have h1:=h.box.h;have h2:=(h.g.bit a ha).h
  rw [e',h2] at h1
  simp only [Option.some.injEq,Obj.cells.injEq] at h1
  exact absurd h1.2.1 (by decide)
 ·by_cases e:i=a/\j=b
  ·obtain ⟨rfl,rfl⟩:=e
   simp
  ·rw [if_neg e]
   congr 1
   simp only [List.mem_append,List.mem_singleton,Prod.mk.injEq,eq_iff_iff]
   constructor
   ·exact .inl
   ·rintro (h | ⟨h1,h2⟩)
    ·exact h
    ·exact absurd ⟨h1,by omega⟩ e
theorem MkI.done {w2 wr:World} {gt gb n:Nat} {bs:Nat->Nat} (h:MkI w2 gt gb n n bs wr):GphW wr w2.heap.size gb bs n (fun _ _=>false):=by
 refine ⟨?_,h.bit,h.inj,h.lo.2⟩
 have h1:=h.row
 rwa [arrF_congr (g:=rowF n bs) (fun i hi=>if_pos hi)] at h1
/-- The same, by the number of rules. -/
def OfgQ (w:World) (G:Gr) (rn:Nat) (rule:Int) (e:Ending) (w':World):Prop:=
 Below w.heap.size w w'/\if okR G rule then ∃ gb bs,e=.returned (.tuple #[.slice (some ⟨gb,0,none⟩) rn rn,.bool true])/\GphW w' w.heap.size gb bs rn (edgB G) else e=.returned (.tuple #[.slice none 0 0,.bool false])
theorem ofg_any (w:World) (ro:Option Addr) (rc:Nat) (no:Option Addr) (nc:Nat) (NK:List Nk) (G:Gr) (hG:GrW w ro G.rules.length rc no NK.length nc NK G) (hkl:∀ x ∈ NK,x.1.kids.length<=1000000) (hnl:NK.length<=1000000) (rule:Int):
  Calls Tryz.prog 56 #[grv ro G.rules.length rc no NK.length nc,.int .i64 rule] w fun e w'=>OfgP w G rule e w':=by
 obtain ⟨g,hg⟩:∃ g,w.heap.size=g:=⟨_,rfl⟩
 have hb:=(Below.refl _ w).alloc (Nat.le_refl _) (.cells #[.slice ro G.rules.length rc,.slice no NK.length nc] 25)
 obtain ⟨z,hz⟩:∃ z,w.alloc (.cells #[.slice ro G.rules.length rc,.slice no NK.length nc] 25)=z:=⟨_,rfl⟩
 have hr:=hrow.new w #[.slice ro G.rules.length rc,.slice no NK.length nc] 25
 rw [hz] at hb hr
 rw [hg] at hr
 have HRI:=Lib.hid (gright_any z ro G.rules.length rc no NK.length nc NK G (hG.below hb))
 have HG:=Lib.hid hG;have HKL:=Lib.hid hkl;have HNL:=Lib.hid hnl;have HGG:=Lib.hid hg;have HZ:=Lib.hid hz;have HB:=Lib.hid hb;have H1:=Lib.hid hr
 obtain ⟨rn,hrn⟩:∃ n,G.rules.length=n:=⟨_,rfl⟩
 have hbd:=hG.rul.bound
 rw [hrn] at HRI HG HZ H1 hbd ⊢
 have HQP:(fun e w'=>OfgP w G rule e w')=fun e w'=>OfgQ w G rn rule e w':=by unfold OfgP OfgQ;rw [hrn]
 rw [HQP]
 clear HQP
 have HRN:=Lib.hid hrn
 clear hG hkl hnl hg hz hb hr hrn
 unfold grv at HRI ⊢
 refine (callsIn_wide (n:=5)).1 ?_
 refine callsIn_of_wp_marks Tryz.func56 rfl trivial ?_ rfl
 simp only [Tryz.ntmps56,List.size_toArray,List.length_cons,List.length_nil,Nat.reduceAdd,Nat.reduceSub,Array.replicate_succ,Array.replicate_zero,List.push_toArray,List.append_toArray,List.nil_append,List.cons_append]
 refine wpIn_wide.2 ?_
 go_upto_region 1 with (fail)
 rw [HZ.out,HGG.out]
 go_wp2_with (refine load_gram rfl (.tmp 2) rfl g rfl _ H1.out rfl ?_)
 refine HRI.out.mono ?_
 rintro e w2 ⟨rfl,hb2⟩
 have H2:=Lib.hid (H1.out.below hb2);have HB2:=Lib.hid (HB.out.trans (hb2.mono HB.out.size))
 have c0:=H2.out.cell 0
 clear hb2 HRI H1 HB HZ
 have HBAD:Hid (∀ z,okR G rule=false->Below w2.heap.size w2 z->OfgQ w G rn rule (.returned (.tuple #[.slice none 0 0,.bool false])) z):=fun z h hb=>by
  refine ⟨HB2.out.trans (hb.mono HB2.out.size),?_⟩
  rw [h];rfl
 cases hr:rightP G with
 | false=>
  have HOK:Hid (okR G rule=false):=by unfold Hid okR;rw [hr];rfl
  go_wp2_with fail
  show LeavesIn _ _ _ _ _ _ [] _ _
  refine ⟨.tuple #[.slice none 0 0,.bool false],?_,HBAD.out w2 HOK.out (Below.refl _ _)⟩
  simp [results,Tryz.results56,go_sem]
 | true=>
  by_cases h1:rule < 0
  ·have HOK:Hid (okR G rule=false):=by unfold Hid okR;rw [hr];simp;omega
   go_wp2_with fail
   show LeavesIn _ _ _ _ _ _ [] _ _
   refine ⟨.tuple #[.slice none 0 0,.bool false],?_,HBAD.out w2 HOK.out (Below.refl _ _)⟩
   simp [results,Tryz.results56,go_sem]
  ·by_cases h2:rule < rn
   ·have h2':¬ (rn:Int)<=rule:=by omega
    have HOK:Hid (okR G rule=true):=by unfold Hid okR;rw [hr,HRN.out];simp;omega
    have HRT:=Lib.hid hr
    have hsz:=right_sizes hr
    rw [HRN.out] at hsz
    have hmk1:=run_make_row' (P:=Tryz.prog) 108 112 (.slice none 0 0) 24 (by kernel_rfl) infoBools rfl .i64 .i64 rn (by omega) (by omega)
    have hmk2:=run_make_row' (P:=Tryz.prog) 112 4 (.bool false) 1 (by kernel_rfl) infoBool rfl .i64 .i64 rn (by omega) (by omega)
    rw [made_arrF] at hmk1 hmk2
    have HS1:=Lib.hid hsz
    clear hsz hr HBAD
    go_upto_region 4 with (fail)
    clear h1 h2
    obtain ⟨z,hz,z1,z2,zb⟩:=three0 w2 w2.heap.size rfl (arrF rn fun _=>.slice none 0 0) #[.slice (some ⟨w2.heap.size,0,none⟩) rn rn] 112 108
    have HM0:Hid (MkI w2 (w2.heap.size+1) w2.heap.size rn 0 (fun _=>0) z):=⟨z2,by simpa using z1,fun i hi=>by omega,fun i j hi=>by omega,⟨by omega,Nat.le_refl _,fun i hi=>by omega⟩,zb⟩
    rw [hz]
    have ct:=HM0.out.box.cell 0
    clear hz z1 z2 zb hmk1 c0
    obtain ⟨gb,hgb⟩:∃ g,w2.heap.size=g:=⟨_,rfl⟩
    rw [hgb] at HM0 ct ⊢
    have HGB:=Lib.hid hgb
    clear hgb
    go_upto_region 5 with (fail)
    go_loopw [7,30] (fun _ p wr=>∃ (m:Nat) (bs:Nat->Nat),m<=rn/\p=.int .i64 m/\Hid (MkI w2 (gb+1) gb rn m bs wr)) (fun _ p _=>rn - (intOf p).toNat)
    case atStart=>exact ⟨0,_,Nat.zero_le _,rfl,HM0.out⟩
    case round=>
     clear HM0 ct
     obtain ⟨m,bs,hm,rfl,HM⟩:=hrel
     have c0:=(H2.out.below HM.out.bel).cell 0
     have ct:=HM.out.box.cell 0
     by_cases hlt:m < rn
     ·have hltI:(m:Int) < rn:=by omega
      have HLT:=Lib.hid hlt
      have cm:=(HM.out.row.cell m).trans (arrF_get _ _ _ hlt)
      have fm:=HM.out.row.frozen m
      have l1:gb+1 < wr.heap.size:=HM.out.box.lt
      have l2:gb < wr.heap.size:=HM.out.row.lt
      have l3:g < wr.heap.size:=(H2.out.below HM.out.bel).lt
      simp only [Nat.lt_irrefl,if_false] at cm
      clear hm hlt
      go_upto_region 7 with (fail)
      go_region
      have HN:=Lib.hid (HM.out.next HLT.out).drew
      clear cm fm l1 l2 l3 c0 ct
      go_wp2_with fail
      go_roundw
      case rel=>exact ⟨m+1,_,by have:=HLT.out;omega,by go_num,HN.out⟩
      case measure=>have:=HLT.out;simp [intOf];omega
     ·have hltI:¬ (m:Int) < rn:=by omega
      obtain rfl:m=rn:=by omega
      have HE:=Lib.hid HM.out.done
      have H4:=Lib.hid (H2.out.below HM.out.bel)
      have HCG:Hid (CgI w2 (gb+1) gb m bs [] wr):=⟨HM.out.box,HE.out.congr (fun i j _ _=>by simp),Fr.of_below HM.out.bel⟩
      have HLW:=Lib.hid (Low.of (HB2.out.trans (HM.out.bel.mono HB2.out.size)))
      clear hmk2 hlt hm HM HE c0 ct H2
      go_upto_region 9 with (fail)
      go_wp2_with (refine load_gram rfl (.tmp 2) rfl g rfl _ H4.out rfl ?_)
      refine (gcalls_any _ _ _ rfl).mono ?_
      rintro e w5 ⟨rfl,hw5⟩
      have hb5:Below wr.heap.size wr w5:=by rw [hw5];exact (Below.refl _ _).alloc (Nat.le_refl _) _
      have hr5:hrow w5 wr.heap.size #[.slice ro m rc,.slice no NK.length nc] 25:=by rw [hw5];exact hrow.new _ _ _
      have HC5:Hid (CgI w2 (gb+1) gb m bs [] w5):=CgI.own (B:=w2.heap.size) (Nat.le_refl _) _ _ _ none HCG.out ⟨hb5.os,hb5.tape,hb5.output,hb5.size,fun k hk _=>hb5.block k hk⟩ (fun r e=>by cases e)
      have HSQ:=Lib.hid (calls1_seq w ro rc no nc NK G (by rw [HRN.out];exact HG.out) HRT.out 0 wr.heap.size w5 (HLW.out.kp (kpG_below hb5)) (by rw [HRN.out];exact hr5) HKL.out HNL.out (G.rules.length * 2048) (Nat.le_refl _))
      have HWS:Hid (w2.heap.size<=w5.heap.size):=HC5.out.fr.size
      have hef:=enters_of Tryz.func137 (by kernel_rfl) rfl
      clear hw5 hb5 hr5 HCG
      go_wp2_with fail
      refine (wpIn_wide (n:=5)).1 ?_
      refine wpIn_range_x rfl (by omega) rfl trivial hef HSQ.out kpG_t (fun W l o o' _ h hc=>kpG_b W l o o' h hc) (fun _=>rfl) (fun pre V=>CgI w2 (gb+1) gb m bs pre V) (CgI.own HWS.out) HC5.out
       (fun _ y a' _=>(y.1 < m/\0<=y.2/\y.2 < m)/\a'={ tmps:=((((#[.agg #[.slice ro m rc,.slice no NK.length nc],.int .i64 rule,.pointer (some ⟨g,0,none⟩),undef,.slice none 0 0,.bool false,.pointer (some ⟨gb+1,0,none⟩),u7,undef,undef,.agg #[.slice ro m rc,.slice no NK.length nc],.bool true,.bool false,.bool false,.int .i64 rule,.bool (decide (rule < 0)),.bool (decide (rule < 0)),.bool (decide (rule < 0)),.int .i64 rule,.pointer (some ⟨g,0,none⟩),.slice ro m rc,.int .i64 m,.bool (decide ((m:Int)<=rule)),.bool (decide (rule < 0) || decide ((m:Int)<=rule)),.pointer (some ⟨g,0,none⟩),.slice ro m rc,.int .i64 m,.slice (some ⟨gb,0,none⟩) m m,.slice (some ⟨gb,0,none⟩) m m,.int .i64 m,.int .i64 m,.bool false,u32,u33,u34,u35,u36,u37,u38,u39,u40,.agg #[.slice ro m rc,.slice no NK.length nc],.func (.func 137) #[] #[.pointer (some ⟨wr.heap.size,0,none⟩)],undef,undef,undef,undef,undef,undef,undef,undef,undef]:Array Value).setIfInBounds 43 (.int .i64 y.1)).setIfInBounds 44 (.int .i64 y.2)).setIfInBounds 8 (.int .i64 y.1)).setIfInBounds 9 (.int .i64 y.2),defers:=[] }) ?hAx ?assign ?body ?done
      case hAx=>exact fun _ _ _ _ _ _ _ h _ _=>h
      case assign=>
       intro l pre y V K hI hX hsz hK
       have HK2:=Lib.hid hK;have HI:=Lib.hid hI;have HX:=Lib.hid hX
       clear hK hI hX hsz hef
       simp [encC]
       gi_wp2
       exact HK2.out _ _ (KeepsFrom.refl _ _) (kpG_refl _ _) HI.out ⟨by rw [← HRN.out];exact HX.out,rfl⟩
      case body=>
       rintro l pre ⟨a,q⟩ a' V hI ⟨⟨hx1,hx2,hx3⟩,rfl⟩ hlen
       obtain ⟨b,rfl⟩:∃ b:Nat,q=(b:Int):=⟨q.toNat,by simp at hx2;omega⟩
       have hx1':a < m:=hx1
       have hx3':b < m:=by have:(b:Int) < m:=hx3;omega
       have haI:(a:Int) < m:=by omega
       have hbI:(b:Int) < m:=by omega
       have k0:=hI.box.cell 0
       have k1:V.cell? ⟨gb,a,none⟩=some (.slice (some ⟨bs a,0,none⟩) m m):=(hI.g.row.cell a).trans (arrF_get _ _ _ hx1')
       have k2:=(((hI.g.bit a hx1').cell b).trans (arrF_get _ _ _ hx3'))
       have k3:=(hI.g.bit a hx1').frozen b
       unfold bitF at k2
       have HI:=Lib.hid hI;have HXA:=Lib.hid hx1'
       clear hI hx1 hx2 hx3 hef hlen hx1' hx3'
       simp only [List.setIfInBounds_toArray,List.set_cons_succ,List.set_cons_zero]
       refine wpIn_block ?_
       gi_wp2
       exact ⟨(KeepsOthers.setCell _ _ _).from _,kpG_set (HI.out.g.bit a HXA.out) (by have:=HI.out.g.lo.2 a HXA.out;have:=HB2.out.size;omega) _ _,HI.out.put HXA.out⟩
      case done=>
       rintro D xs V V2 hD rfl hI hg ho hdf
       have HI:=Lib.hid hI;have HDX:=Lib.hid hD;have HDF:=Lib.hid hdf
       have ct:=hI.box.cell 0
       clear hD hI hg ho hdf hef
       go_wp2_with fail
       refine ⟨by simp,.inl ⟨_,_,rfl,run_takeDeferred HDF.out,?_⟩⟩
       have hI2:=(CgI.own (gt:=gb+1) (gb:=gb) (n:=m) (bs:=bs) HWS.out).putObj (.deferred none) HI.out HDX.out HDF.out rfl
       show LeavesIn _ _ _ _ _ _ [] _ _
       refine ⟨.tuple #[.slice (some ⟨gb,0,none⟩) m m,.bool true],?_,HB2.out.trans (hI2.fr.below HB2.out.size (fun k hk e=>by have:=HB2.out.size;omega)),?_⟩
       ·simp [results,Tryz.results56,go_sem]
       ·rw [HOK.out]
        exact ⟨gb,bs,rfl,hI2.g.row,hI2.g.bit,hI2.g.inj,by have:=HB2.out.size;have:=hI2.g.lo.1;omega,fun i hi=>by have:=HB2.out.size;have:=hI2.g.lo.2 i hi;omega⟩
   ·have h2':(rn:Int)<=rule:=by omega
    have HOK:Hid (okR G rule=false):=by unfold Hid okR;rw [hr,HRN.out];simp;omega
    go_wp2_with fail
    show LeavesIn _ _ _ _ _ _ [] _ _
    refine ⟨.tuple #[.slice none 0 0,.bool false],?_,HBAD.out w2 HOK.out (Below.refl _ _)⟩
    simp [results,Tryz.results56,go_sem]
end Go.Proofs.YtgjhepblpdnkcaaGreatDoor
