/- Walks and plain laws: Ja Ay Jb Jc Jd Je Ga Jf Jt. -/
import Derived.Test.YtgjhepblpdnkcaaGreatDoorM10
import Derived.Test.YtgjhepblpdnkcaaGreatDoorM07
import Derived.WalkLawsBesides
import Derived.Test.YtgjhepblpdnkcaaGreatDoorM08
import Derived.Test.YtgjhepblpdnkcaaGreatDoorM02
namespace Go.Proofs.YtgjhepblpdnkcaaGreatDoor
open Go.RowKit

def ptr (b:Nat):Value:=.pointer (some ⟨b,0,none⟩)
/-- A part's twelve cells. -/
def ptC (k:Nat) (cl:List (UInt8×UInt8)) (t:List UInt8) (lv:Int) (a:Nat) (nm:List UInt8) (ao:Option Addr) (n cap:Nat):Array Value:=
 #[.int .i64 k,.int .u64 (clsW cl 0),.int .u64 (clsW cl 1),.int .u64 (clsW cl 2),.int .u64 (clsW cl 3),.string (tx t),.int .i64 0,.int .i64 lv,.slice none 0 0,.int .i64 a,.string (tx nm),.slice ao n cap]
mutual
/-- A part in memory, in blocks that are its own. -/
def PtW (w:World) (F:Nat->Prop):Pt->Nat->Prop
 | .mk k cl t lv a nm ks,b=>F b/\∃ (ao:Option Addr) (cap:Nat) (bs:List Nat),hrow w b (ptC k cl t lv a nm ao ks.length cap) 187/\Sv w ao ks.length cap 1 (bs.map ptr)/\(∀ x,ao=some x->ks ≠ []->F x.block)/\PtsW w F ks bs
def PtsW (w:World) (F:Nat->Prop):List Pt->List Nat->Prop
 | [],bs=>bs=[]
 | p :: ps,bs=>∃ b r,bs=b :: r/\PtW w F p b/\PtsW w F ps r
end
mutual
theorem PtW.fr {w w':World} {F G H:Nat->Prop} (hf:Fr G w w') (hn:∀ k,F k->¬ G k) (hi:∀ k,F k->H k):∀ (p:Pt) (b:Nat),PtW w F p b->PtW w' H p b
 | .mk k cl t lv a nm ks,b,h=>by
  unfold PtW at h ⊢
  obtain ⟨h1,ao,cap,bs,h2,h3,h4,h5⟩:=h
  exact ⟨hi _ h1,ao,cap,bs,h2.fr hf (hn _ h1),h3.fr hf (fun x hx hk=>hn _ (h4 x hx (by rintro rfl;simp at hk))),fun x hx hk=>hi _ (h4 x hx hk),PtsW.fr hf hn hi ks bs h5⟩
theorem PtsW.fr {w w':World} {F G H:Nat->Prop} (hf:Fr G w w') (hn:∀ k,F k->¬ G k) (hi:∀ k,F k->H k):∀ (ps:List Pt) (bs:List Nat),PtsW w F ps bs->PtsW w' H ps bs
 | [],bs,h=>by unfold PtsW at h ⊢;exact h
 | p :: ps,bs,h=>by
  unfold PtsW at h ⊢
  obtain ⟨b,r,h1,h2,h3⟩:=h
  exact ⟨b,r,h1,PtW.fr hf hn hi p b h2,PtsW.fr hf hn hi ps r h3⟩
end
mutual
theorem PtW.bound {w:World} {F:Nat->Prop}:∀ (p:Pt) (b:Nat),PtW w F p b->PtW w (fun k=>F k/\k < w.heap.size) p b
 | .mk k cl t lv a nm ks,b,h=>by
  unfold PtW at h ⊢
  obtain ⟨h1,ao,cap,bs,h2,h3,h4,h5⟩:=h
  refine ⟨⟨h1,h2.lt⟩,ao,cap,bs,h2,h3,fun x hx hk=>⟨h4 x hx hk,?_⟩,PtsW.bound ks bs h5⟩
  have hl:=h3.len
  have hp:0 < ks.length:=List.length_pos_iff.2 hk
  obtain ⟨a',ha,hc⟩:=h3.cell 0 (by omega)
  rw [hx] at ha;cases ha
  have:=World.block_lt_of_cell? w _ (hc.trans (List.getElem?_eq_getElem (by omega)))
  rwa [show x.add 0=x by unfold Addr.add;simp] at this
theorem PtsW.bound {w:World} {F:Nat->Prop}:∀ (ps:List Pt) (bs:List Nat),PtsW w F ps bs->PtsW w (fun k=>F k/\k < w.heap.size) ps bs
 | [],bs,h=>by unfold PtsW at h ⊢;exact h
 | p :: ps,bs,h=>by
  unfold PtsW at h ⊢
  obtain ⟨b,r,h1,h2,h3⟩:=h
  exact ⟨b,r,h1,PtW.bound p b h2,PtsW.bound ps r h3⟩
end
theorem PtsW.len {w:World} {F:Nat->Prop}:∀ {ps:List Pt} {bs:List Nat},PtsW w F ps bs->bs.length=ps.length
 | [],bs,h=>by unfold PtsW at h;subst h;rfl
 | p :: ps,bs,h=>by
  unfold PtsW at h
  obtain ⟨b,r,rfl,_,h3⟩:=h
  simp [PtsW.len h3]
theorem PtsW.snoc {w:World} {F:Nat->Prop}:∀ {ps:List Pt} {bs:List Nat} {p:Pt} {b:Nat},PtsW w F ps bs->PtW w F p b->PtsW w F (ps ++ [p]) (bs ++ [b])
 | [],bs,p,b,h,hp=>by
  unfold PtsW at h;subst h
  show PtsW w F [p] [b]
  unfold PtsW
  exact ⟨b,[],rfl,hp,by unfold PtsW;rfl⟩
 | q :: ps,bs,p,b,h,hp=>by
  unfold PtsW at h
  obtain ⟨c,r,rfl,h2,h3⟩:=h
  show PtsW w F (q :: (ps ++ [p])) (c :: (r ++ [b]))
  unfold PtsW
  exact ⟨c,_,rfl,h2,PtsW.snoc h3 hp⟩
theorem PtW.lt {w:World} {F:Nat->Prop}:∀ {p:Pt} {b:Nat},PtW w F p b->b < w.heap.size/\F b
 | .mk ..,b,h=>by unfold PtW at h;obtain ⟨h1,ao,cap,bs,h2,_⟩:=h;exact ⟨h2.lt,h1⟩
/-- The reader: the words, where it is, how deep. -/
structure RdW (L:List Wd) (B gr i:Nat) (d:Int) (w:World):Prop where
 row:∃ ao cap,hrow w gr #[.slice ao L.length cap,.int .i64 i,.int .i64 d] 77/\Sv w ao L.length cap 9 (L.flatMap fun x=>(wdD x).toList)/\∀ a,ao=some a->a.block < gr
 lt:gr < B
 le:B<=w.heap.size
theorem RdW.below {L:List Wd} {B gr i:Nat} {d:Int} {w w':World} (h:RdW L B gr i d w) (hb:Below w.heap.size w w'):RdW L B gr i d w':=by
 obtain ⟨⟨ao,cap,h1,h2,h3⟩,h4,h5⟩:=h
 exact ⟨⟨ao,cap,h1.below hb,h2.below hb,h3⟩,h4,Nat.le_trans h5 hb.size⟩
/-- What touches later blocks alone keeps it. -/
theorem RdW.fr {L:List Wd} {B gr i:Nat} {d:Int} {w w':World} {G:Nat->Prop} (h:RdW L B gr i d w) (hf:Fr G w w') (hG:∀ k,G k->B<=k):RdW L B gr i d w':=by
 obtain ⟨⟨ao,cap,h1,h2,h3⟩,h4,h5⟩:=h
 exact ⟨⟨ao,cap,h1.fr hf (fun e=>by have:=hG _ e;omega),h2.fr hf (fun a ha _ e=>by have:=hG _ e;have:=h3 a ha;omega),h3⟩,h4,Nat.le_trans h5 hf.size⟩
theorem RdW.base {L:List Wd} {B B' gr i:Nat} {d:Int} {w:World} (h:RdW L B gr i d w) (h1:gr < B') (h2:B'<=w.heap.size):RdW L B' gr i d w:=⟨h.row,h1,h2⟩
end Go.Proofs.YtgjhepblpdnkcaaGreatDoor
namespace Go.Proofs.YtgjhepblpdnkcaaGreatDoor
open Go.RowKit
set_option maxRecDepth 100000
set_option maxHeartbeats 4000000


theorem wd_sz9:(Tryz.prog.info? 82).map (·.size)=some 9:=by decide +kernel
theorem part_later {wx:World} {p:Addr} {x0 x1 x2 x3 x4 x5 x6 x7 x8:Value} (h:∀ j v,(#[x0,x1,x2,x3,x4,x5,x6,x7,x8]:Array Value).toList[j]?=some v->wx.cell? (p.add j)=some v):
  (∀ x:Later wx,(loadVar 82 p).run Tryz.prog x.val=.ok (.agg #[x0,x1,x2,x3,x4,x5,x6,x7,x8]) x.val)/\(∀ x:Later wx,(loadCells p 9).run Tryz.prog x.val=.ok #[x0,x1,x2,x3,x4,x5,x6,x7,x8] x.val):=by
 have H:∀ (x:Later wx) j v,(#[x0,x1,x2,x3,x4,x5,x6,x7,x8]:Array Value).toList[j]?=some v->x.val.cell? (p.add j)=some v:=fun x j v hj=>(x.ok.cell (World.block_lt_of_cell? wx _ (h j v hj))).trans (h j v hj)
 exact ⟨fun x=>run_loadVar_part x.val p _ _ _ (H x) Tryz.underlying82 rfl wd_sz9,fun x=>run_loadCells_list (P:=Tryz.prog) x.val p _ (H x)⟩
/-- A load of several cells at a step of a drawn region. -/
theorem wpQuiet_load_part {P:Program} {ops:Array Oper} {C:World->Prop} {rest:List Oper} {o:Oper} {a:Act} {Q:Act->Prop} (hw:Region.wanted o (yielded ops a.tmps)=true) (ty:TypeId) (x:Operand) (ho:o.op=.load ty x)
  (p:Addr) (hx:a.eval x=.pointer (some p)) (cs:Array Value) (hl:∀ w,C w->(loadVar ty p).run P w=.ok (.agg cs) w)
  (h:wpQuiet P ops C Q rest (a.put o.dst (.agg cs))):wpQuiet P ops C Q (o :: rest) a:=
 wpQuiet_step fun K hK=>by
  rw [if_pos hw]
  refine ⟨_,fun w hc=>?_,hK _ h⟩
  unfold Oper.quietAt execOp
  simp only [ho,hx,Instr.loadAt,Instr.sureAddr,Sem.run_bind,Sem.run_pure,Result.andThen_ok,hl w hc]
  exact ⟨rfl,rfl⟩
theorem later_all {wx:World} {p:Addr} {ty:TypeId} {P:Program} {v:Value} (h:∀ x:Later wx,(loadVar ty p).run P x.val=.ok v x.val):∀ w,(∃ x:Later wx,w=x.val)->(loadVar ty p).run P w=.ok v w:=fun w ⟨x,e⟩=>by subst e;exact h x
end Go.Proofs.YtgjhepblpdnkcaaGreatDoor
namespace Go.Proofs.YtgjhepblpdnkcaaGreatDoor
open Go.RowKit
set_option maxRecDepth 100000
set_option maxHeartbeats 4000000

theorem results_w1 {fn:Func} {p:Tmp} (h:fn.results=#[.cell p 82]) (tmps:Array Value) (w:World) (g:Nat) (cs:Array Value)
  (hp:tmps.getD p undef=.pointer (some ⟨g,0,none⟩)) (hg:hrow w g wd0 82) (hs:cs.size=9):(results fn tmps).run Tryz.prog (w.setRow g cs)=.ok (.agg cs) (w.setRow g cs):=by
 have hp':tmps[p]?.getD undef=.pointer (some ⟨g,0,none⟩):=by simpa using hp
 simp [results,h,hp',asAddr,run_loadVar_row (P:=Tryz.prog) (w.setRow g cs) g _ _ cs _ _ (setRow_heap _ _ _ _ _ _ hg) Tryz.underlying82 rfl (wd_sz hs)]
/-- The reader's cells and its word, at any later world. -/
theorem RdW.at {L:List Wd} {B gr i:Nat} {d:Int} {w:World} (h:RdW L B gr i d w) (hi:i < L.length):
  ∃ ao cap a,hrow w gr #[.slice ao L.length cap,.int .i64 i,.int .i64 d] 77/\ao=some a/\(∀ j v,(wdD (wdAt L i)).toList[j]?=some v->w.cell? ((a.add (i * 9)).add j)=some v)/\a.block ≠ gr:=by
 obtain ⟨⟨ao,cap,h1,h2,h3⟩,h4,h5⟩:=h
 obtain ⟨a,ha,hc⟩:=Sv.at wdD_len h2 (by decide) i hi
 refine ⟨ao,cap,a,h1,ha,?_,Nat.ne_of_lt (h3 a ha)⟩
 rw [wdAt_in hi]
 exact hc
theorem word_any2 (L:List Wd) (B gr i:Nat) (d:Int) (w:World) (h:RdW L B gr i d w) (hi:i < L.length):
  Calls Tryz.prog 37 #[ptr gr] w fun e w'=>e=.returned (.agg (wdD (wdAt L i)))/\Below w.heap.size w w':=by
 obtain ⟨ao,cap,a,hr,rfl,hc,hna⟩:=h.at hi
 have hiI:(i:Int) < L.length:=by omega
 unfold ptr wdD wdA at *
 generalize wdAt L i=x at *
 have HC:=Lib.hid hc;have HR:=Lib.hid hr
 clear hc hr h hi
 go_enter Tryz.func37,Tryz.ntmps37
 go_wp2_with fail
 have hb:=(Below.refl _ w).alloc (Nat.le_refl _) (.cells #[.int .i64 0,.int .i64 0,.int .i64 0,.string ⟨#[]⟩,.int .i64 0,.int .u64 0,.int .u64 0,.int .u64 0,.int .u64 0] 82)
 have HW:=Lib.hid (show hrow (w.alloc (.cells #[.int .i64 0,.int .i64 0,.int .i64 0,.string ⟨#[]⟩,.int .i64 0,.int .u64 0,.int .u64 0,.int .u64 0,.int .u64 0] 82)) w.heap.size wd0 82 from hrow.new _ _ _)
 have HB:=Lib.hid hb
 have HR1:=Lib.hid (HR.out.below hb)
 have HP:=Lib.hid (later_all (part_later (fun j v hj=>(hb.cell (World.block_lt_of_cell? w _ (HC.out j v hj))).trans (HC.out j v hj))).1)
 clear hb HR HC
 revert HB HW HR1 HP
 generalize w.alloc (.cells #[.int .i64 0,.int .i64 0,.int .i64 0,.string ⟨#[]⟩,.int .i64 0,.int .u64 0,.int .u64 0,.int .u64 0,.int .u64 0] 82)=wb
 intro HW HB HR1 HP
 have c0:∀ x:Later wb,x.val.cell? ⟨gr,0,none⟩=some (.slice (some a) L.length cap):=fun x=>(HR1.out.below x.ok).cell 0
 have c1:∀ x:Later wb,x.val.cell? ⟨gr,1,none⟩=some (.int .i64 i):=fun x=>(HR1.out.below x.ok).cell 1
 refine wp_region_later_tail 10 (by kernel_rfl) (by kernel_rfl) ?_
 simp only [List.take_succ_cons,List.take_zero,List.drop_succ_cons,List.drop_zero]
 repeat (first | go_big_quiet_step (fail) | (refine wpQuiet_load_part rfl 82 (.tmp 11) rfl (a.add (i * 9)) rfl _ HP.out ?_;simp only [Act.put,List.setIfInBounds_toArray,List.set_cons_succ,List.set_cons_zero]))
 refine wpQuiet_nil ?_
 intro w5 hw5
 obtain ⟨y,rfl⟩:=hw5
 have HW5:=Lib.hid (HW.out.below y.ok)
 have HB5:=Lib.hid (HB.out.trans (y.ok.mono HB.out.size))
 clear c0 c1 HP HW HB HR1
 generalize y.val=w5 at *
 clear y
 go_wp2_with (with_reducible refine store_word rfl (.tmp 2) (.tmp 12) rfl w.heap.size _ _ _ _ _ _ _ _ _ rfl rfl HW5.out ?_)
 refine bodyPost_ret (results_w1 rfl _ _ w.heap.size _ rfl HW5.out rfl) rfl ?_
 exact ⟨rfl,below_setRow HB5.out (Nat.le_refl _) _⟩
theorem add_block (a:Addr) (k:Nat):(a.add k).block=a.block:=by unfold Addr.add;split <;> rfl
/-- The reader goes to another word. -/
theorem RdW.moved {L:List Wd} {B gr i j:Nat} {d d':Int} {w w':World} (h:RdW L B gr i d w) (hf:Fr (fun k=>k=gr) w w') {x0:Value} (hr:hrow w gr #[x0,.int .i64 i,.int .i64 d] 77) (hr':hrow w' gr #[x0,.int .i64 j,.int .i64 d'] 77):RdW L B gr j d' w':=by
 obtain ⟨⟨ao,cap,h1,h2,h3⟩,h4,h5⟩:=h
 have e:=h1.h.symm.trans hr.h
 simp only [Option.some.injEq,Obj.cells.injEq,Array.mk.injEq,List.cons.injEq,and_true] at e
 obtain ⟨rfl,_⟩:=e
 exact ⟨⟨ao,cap,hr',h2.fr hf (fun a ha _ e=>Nat.ne_of_lt (h3 a ha) e),h3⟩,h4,Nat.le_trans h5 hf.size⟩
theorem take_any (L:List Wd) (B gr i:Nat) (d:Int) (w:World) (h:RdW L B gr i d w) (hi:i < L.length) (hL:L.length<=100000):
  Calls Tryz.prog 76 #[ptr gr] w fun e w'=>e=.returned (.agg (wdD (wdAt L i)))/\RdW L B gr (i+1) d w'/\Fr (fun k=>k=gr) w w':=by
 have HH:=Lib.hid h
 obtain ⟨ao,cap,a,hr,rfl,hc,hna⟩:=h.at hi
 have hiI:(i:Int) < L.length:=by omega
 unfold ptr wdD wdA at *
 generalize wdAt L i=x at *
 have HC:=Lib.hid hc;have HR:=Lib.hid hr;have HI:=Lib.hid hi;have HL:=Lib.hid hL
 have HNA:=Lib.hid hna
 clear hc hr h hi hL hna
 go_enter Tryz.func76,Tryz.ntmps76
 go_upto_region 1 with (fail)
 have hb:=(Below.refl _ w).alloc (Nat.le_refl _) (.cells #[.int .i64 0,.int .i64 0,.int .i64 0,.string ⟨#[]⟩,.int .i64 0,.int .u64 0,.int .u64 0,.int .u64 0,.int .u64 0] 82)
 have HW:=Lib.hid (show hrow (w.alloc (.cells #[.int .i64 0,.int .i64 0,.int .i64 0,.string ⟨#[]⟩,.int .i64 0,.int .u64 0,.int .u64 0,.int .u64 0,.int .u64 0] 82)) w.heap.size wd0 82 from hrow.new _ _ _)
 have HB:=Lib.hid hb
 have HR1:=Lib.hid (HR.out.below hb)
 have HP:=Lib.hid (fun j v hj=>(hb.cell (World.block_lt_of_cell? w _ (HC.out j v hj))).trans (HC.out j v hj))
 have HNE:Hid (gr < w.heap.size):=HR.out.lt
 clear hb HC
 revert HB HW HR1 HP
 generalize w.alloc (.cells #[.int .i64 0,.int .i64 0,.int .i64 0,.string ⟨#[]⟩,.int .i64 0,.int .u64 0,.int .u64 0,.int .u64 0,.int .u64 0] 82)=wb
 intro HW HB HR1 HP
 obtain ⟨c0,c1,_⟩:=HR1.out.c3
 obtain ⟨f0,f1,_⟩:=HR1.out.f3
 have hLI:(i:Int)+1<=100000:=by have:=HI.out;have:=HL.out;omega
 have HC1:Hid (∀ j v,(#[.int .i64 x.kind,.int .i64 x.at_,.int .i64 x.nx,.string (tx x.tx),.int .i64 x.lv,.int .u64 (clsW x.cl 0),.int .u64 (clsW x.cl 1),.int .u64 (clsW x.cl 2),.int .u64 (clsW x.cl 3)]:Array Value).toList[j]?=some v->wb.cell? ((a.add (i * 9)).add j)=some v):=HP.out
 go_wp2_with fail
 have hf:=Fr.setCell wb ⟨gr,1,none⟩ (.int .i64 ((i:Int)+1))
 have HR2:=Lib.hid (show hrow (wb.setCell ⟨gr,1,none⟩ (.int .i64 ((i:Int)+1))) gr #[.slice (some a) L.length cap,.int .i64 ((i:Int)+1),.int .i64 d] 77 from HR1.out.setCell 1 _)
 have HW2:=Lib.hid (HW.out.fr hf (fun e=>Nat.ne_of_gt HNE.out e))
 have HP2:=Lib.hid (later_all (part_later (wx:=wb.setCell ⟨gr,1,none⟩ (.int .i64 ((i:Int)+1))) (fun j v hj=>(World.cell?_of_block (hf.block _ (World.block_lt_of_cell? wb _ (HC1.out j v hj)) (by simp only [add_block];exact HNA.out))).trans (HC1.out j v hj))).1)
 have HF2:Hid (Fr (fun k=>k=gr) w (wb.setCell ⟨gr,1,none⟩ (.int .i64 ((i:Int)+1)))):=(Fr.of_below HB.out).trans hf (fun _ _ h=>h)
 clear hf HW HB HR1 HP HC1 c0 c1 f0 f1
 revert HR2 HW2 HP2 HF2
 generalize wb.setCell ⟨gr,1,none⟩ (.int .i64 ((i:Int)+1))=wc
 intro HR2 HW2 HP2 HF2
 have c0:∀ x:Later wc,x.val.cell? ⟨gr,0,none⟩=some (.slice (some a) L.length cap):=fun x=>(HR2.out.below x.ok).cell 0
 have c1:∀ x:Later wc,x.val.cell? ⟨gr,1,none⟩=some (.int .i64 ((i:Int)+1)):=fun x=>(HR2.out.below x.ok).cell 1
 refine wp_region_later_tail 11 (by kernel_rfl) (by kernel_rfl) ?_
 simp only [List.take_succ_cons,List.take_zero,List.drop_succ_cons,List.drop_zero]
 repeat (first | go_big_quiet_step (fail) | (refine wpQuiet_load_part rfl 82 (.tmp 19) rfl (a.add (i * 9)) rfl _ HP2.out ?_;simp only [Act.put,List.setIfInBounds_toArray,List.set_cons_succ,List.set_cons_zero]))
 refine wpQuiet_nil ?_
 intro w5 hw5
 obtain ⟨y,rfl⟩:=hw5
 have HW5:=Lib.hid (HW2.out.below y.ok)
 have HF5:=Lib.hid (HF2.out.trans (Fr.of_below (F:=fun k=>k=gr) y.ok) (fun _ _ h=>h))
 have HR5:=Lib.hid (HR2.out.below y.ok)
 clear c0 c1 HP2 HW2 HF2 HR2
 generalize y.val=w5 at *
 clear y
 go_wp2_with (with_reducible refine store_word rfl (.tmp 2) (.tmp 20) rfl w.heap.size _ _ _ _ _ _ _ _ _ rfl rfl HW5.out ?_)
 refine bodyPost_ret (results_w1 rfl _ _ w.heap.size _ rfl HW5.out rfl) rfl ?_
 have hF:=HF5.out.trans (Fr.setRow w5 w.heap.size #[.int .i64 x.kind,.int .i64 x.at_,.int .i64 x.nx,.string (tx x.tx),.int .i64 x.lv,.int .u64 (clsW x.cl 0),.int .u64 (clsW x.cl 1),.int .u64 (clsW x.cl 2),.int .u64 (clsW x.cl 3)]) (fun k hk e=>absurd hk (by omega))
 exact ⟨rfl,HH.out.moved hF HR.out (by have h1:=HR5.out.setOther (cs':=#[.int .i64 x.kind,.int .i64 x.at_,.int .i64 x.nx,.string (tx x.tx),.int .i64 x.lv,.int .u64 (clsW x.cl 0),.int .u64 (clsW x.cl 1),.int .u64 (clsW x.cl 2),.int .u64 (clsW x.cl 3)]) (show gr ≠ w.heap.size by have:=HNE.out;omega);exact h1),hF⟩
/-- A panic of the reader's. -/
def badE (e a:Nat):Ending:=.panicked [{ v:=.iface 34 (.agg #[.int .i64 e,.int .i64 a]),recovered:=false }]
theorem wfld (x0 x1 x2 x3 x4 x5 x6 x7 x8:Value) (w:World):(Instr.field 82 (.agg #[x0,x1,x2,x3,x4,x5,x6,x7,x8]) 1).run Tryz.prog w=.ok x1 w:=by kernel_rfl
theorem fail_any (L:List Wd) (B gr i:Nat) (d:Int) (w:World) (h:RdW L B gr i d w) (hi:i < L.length) (e0:Nat):
  Calls Tryz.prog 75 #[ptr gr,.int .i64 e0] w fun e w'=>e=badE e0 (wdAt L i).at_/\Below w.heap.size w w':=by
 have HW:=Lib.hid (word_any2 L B gr i d w h hi)
 clear h hi
 unfold ptr wdD wdA badE at *
 go_enter Tryz.func75,Tryz.ntmps75
 go_wp2_with fail
 refine HW.out.mono ?_
 rintro e w1 ⟨rfl,hb⟩
 have HB:=Lib.hid hb;clear hb HW
 have hfd:=wfld
 go_wp2_with fail
 exact ⟨rfl,rfl,HB.out⟩
end Go.Proofs.YtgjhepblpdnkcaaGreatDoor
namespace Go.Proofs.YtgjhepblpdnkcaaGreatDoor
open Go.RowKit
set_option maxRecDepth 100000
set_option maxHeartbeats 4000000

theorem Sv.str {w:World} {ao:Option Addr} {n cap:Nat} {S:List ByteArray} (h:Sv w ao n cap 1 (S.map Value.string)) (k:Nat) (hk:k < S.length):∃ a,ao=some a/\w.cell? (a.add k)=some (.string S[k]):=by
 obtain ⟨a,ha,hc⟩:=h.cell k (by simpa using hk)
 exact ⟨a,ha,by rw [hc];simp [hk]⟩
theorem Sv.str_len {w:World} {ao:Option Addr} {n cap:Nat} {S:List ByteArray} (h:Sv w ao n cap 1 (S.map Value.string)):S.length=n:=by
 have:=h.len;simpa using this
theorem ba_beq (x y:ByteArray):(x.toList == y.toList)=decide (x=y):=by
 by_cases h:x=y
 ·subst h;simp
 ·have:x.toList ≠ y.toList:=fun e=>h (by rw [ba_toList,ba_toList] at e;cases x;cases y;simp at e;simp [e])
  simp [this,h]
theorem index_any (w:World) (ao:Option Addr) (n cap:Nat) (S:List ByteArray) (v:ByteArray) (hs:Sv w ao n cap 1 (S.map Value.string)):
  Calls Tryz.prog 187 #[.slice ao n cap,.string v] w fun e w'=>∃ r:Int,e=.returned (.int .i64 r)/\(decide (0<=r)=S.any (fun s=>decide (v=s)))/\Below w.heap.size w w':=by
 obtain ⟨h1,h2⟩:=hs.bound
 have hl:=hs.str_len
 have HA:=Lib.hid hs;have HL:=Lib.hid hl
 clear hs hl
 go_enter Tryz.func187,Tryz.ntmps187
 go_wp2_with fail
 go_loopw [8] (fun i wr=>∃ k:Nat,k<=n/\i=.int .i64 k/\Hid (Below w.heap.size w wr)/\Hid (v ∉ S.take k)) (fun i _=>n - (intOf i).toNat)
 case atStart=>exact ⟨0,by omega,rfl,Below.refl _ _,by unfold Hid;simp⟩
 case round=>
  obtain ⟨k,hk,rfl,HBr,HN⟩:=hrel
  by_cases hlt:k < n
  ·have hlt':(k:Int) < n:=by omega
   have hkl:k < S.length:=by have:=HL.out;omega
   obtain ⟨a,rfl,a0⟩:=(HA.out.below HBr.out).str k hkl
   have HT:Hid (S.take (k+1)=S.take k ++ [S[k]]):=by unfold Hid;rw [List.take_append_getElem hkl]
   have HM:Hid (S[k] ∈ S):=List.getElem_mem hkl
   generalize S[k]=x at *
   clear hkl
   have hq:=ba_beq v x
   by_cases hv:v=x
   ·have hqt:(v.toList == x.toList)=true:=by rw [hq];simpa using hv
    have HV:=Lib.hid hv;clear hv hq
    go_wp2_with fail
    go_ret
    exact ⟨k,rfl,by rw [show S.any (fun s=>decide (v=s))=true from List.any_eq_true.2 ⟨x,HM.out,by simpa using HV.out⟩];simp,HBr.out⟩
   ·have hqt:(v.toList == x.toList)=false:=by rw [hq];simpa using hv
    have HV:=Lib.hid hv;clear hv hq
    go_wp2_with fail
    go_roundw
    case rel=>exact ⟨k+1,by omega,by go_num,HBr.out,by unfold Hid;rw [HT.out];have:=HN.out;have:=HV.out;simp [*]⟩
    case measure=>simp [intOf];omega
  ·have hge:(n:Int)<=k:=by omega
   have hkn:k=n:=by omega
   go_wp2_with fail
   go_ret
   exact ⟨-1,rfl,by have h:=HN.out;rw [hkn,List.take_of_length_le (by have:=HL.out;omega)] at h;rw [show S.any (fun s=>decide (v=s))=false from by rw [List.any_eq_false];intro y hy e;exact h ((show v=y by simpa using e) ▸ hy)];rfl,HBr.out⟩
theorem contains_any (w:World) (ao:Option Addr) (n cap:Nat) (S:List ByteArray) (v:ByteArray) (hs:Sv w ao n cap 1 (S.map Value.string)):
  Calls Tryz.prog 157 #[.slice ao n cap,.string v] w fun e w'=>e=.returned (.bool (S.any (fun s=>decide (v=s))))/\Below w.heap.size w w':=by
 have HX:=Lib.hid (index_any w ao n cap S v hs)
 clear hs
 go_enter Tryz.func157,Tryz.ntmps157
 go_wp2_with fail
 refine HX.out.mono ?_
 rintro e w1 ⟨r,rfl,hr,hb⟩
 have HR:=Lib.hid hr;have HB:=Lib.hid hb;clear hr hb HX
 go_wp2_with fail
 go_ret
 exact ⟨ret_bool HR.out,HB.out⟩
theorem tx_inj {a b:List UInt8} (h:tx a=tx b):a=b:=by
 have:=congrArg (fun x=>x.data.toList) h
 simpa [tx_list] using this
theorem rhere_any (L:List Wd) (B gr i:Nat) (d:Int) (w:World) (h:RdW L B gr i d w) (hi:i < L.length) (S:List (List UInt8)) (ao:Option Addr) (n cap:Nat) (hs:Sv w ao n cap 1 ((S.map tx).map Value.string)):
  Calls Tryz.prog 120 #[ptr gr,.slice ao n cap] w fun e w'=>e=.returned (.bool (S.any fun s=>hereW L i s))/\Below w.heap.size w w':=by
 have HW:=Lib.hid (word_any2 L B gr i d w h hi)
 have HR:Hid ((S.any fun s=>hereW L i s)=((wdAt L i).kind == 5 && (S.map tx).any (fun s=>decide (tx (wdAt L i).tx=s)))):=by
  unfold Hid hereW
  by_cases hk:(wdAt L i).kind=5
  ·rw [hk]
   simp only [beq_self_eq_true,Bool.true_and]
   rw [Bool.eq_iff_iff,List.any_eq_true,List.any_eq_true]
   constructor
   ·rintro ⟨s,h1,h2⟩;exact ⟨tx s,List.mem_map_of_mem h1,by rw [beq_iff_eq.1 h2];simp⟩
   ·rintro ⟨s,h1,h2⟩
    obtain ⟨t,h3,rfl⟩:=List.mem_map.1 h1
    exact ⟨t,h3,beq_iff_eq.2 (tx_inj (of_decide_eq_true h2))⟩
  ·have:((wdAt L i).kind == 5)=false:=by simpa using hk
   simp only [this,Bool.false_and]
   simp
 have HC:=Lib.hid (fun (x:World) (hx:Below w.heap.size w x)=>contains_any x ao n cap (S.map tx) (tx (wdAt L i).tx) (hs.below hx))
 generalize (S.any fun s=>hereW L i s)=bb at *
 clear h hi hs
 unfold ptr wdD wdA at *
 generalize wdAt L i=x at *
 generalize hcc:(S.map tx).any (fun s=>decide (tx x.tx=s))=cc at *
 have HR0:=HR
 clear hcc HR
 go_enter Tryz.func120,Tryz.ntmps120
 go_wp2_with fail
 refine HW.out.mono ?_
 rintro e w1 ⟨rfl,hb⟩
 have hb2:=hb.alloc hb.size (.cells #[.int .i64 x.kind,.int .i64 x.at_,.int .i64 x.nx,.string (tx x.tx),.int .i64 x.lv,.int .u64 (clsW x.cl 0),.int .u64 (clsW x.cl 1),.int .u64 (clsW x.cl 2),.int .u64 (clsW x.cl 3)] 82)
 have HR:=Lib.hid (hrow.new w1 #[.int .i64 x.kind,.int .i64 x.at_,.int .i64 x.nx,.string (tx x.tx),.int .i64 x.lv,.int .u64 (clsW x.cl 0),.int .u64 (clsW x.cl 1),.int .u64 (clsW x.cl 2),.int .u64 (clsW x.cl 3)] 82)
 have HB:=Lib.hid hb2
 clear hb hb2 HW
 go_upto_region 2 with (fail)
 revert HR HB
 generalize w1.alloc (.cells #[.int .i64 x.kind,.int .i64 x.at_,.int .i64 x.nx,.string (tx x.tx),.int .i64 x.lv,.int .u64 (clsW x.cl 0),.int .u64 (clsW x.cl 1),.int .u64 (clsW x.cl 2),.int .u64 (clsW x.cl 3)] 82)=w2
 generalize w1.heap.size=g2
 intro HR HB
 obtain ⟨c0,_,_,c3,_⟩:=HR.out.c9
 by_cases hk:x.kind=5
 ·have hkI:((x.kind:Int) == 5)=true:=by rw [hk];rfl
  have HCx:=Lib.hid (HC.out w2 HB.out)
  have HBB:Hid (bb=cc):=by unfold Hid;rw [HR0.out,hk];rfl
  clear hk HC HR0
  go_wp2_with fail
  refine HCx.out.mono ?_
  rintro e w3 ⟨rfl,hb3⟩
  have HB3:=Lib.hid (HB.out.trans (hb3.mono HB.out.size))
  clear hb3 HCx
  go_wp2_with fail
  go_ret
  exact ⟨ret_bool HBB.out.symm,HB3.out⟩
 ·have hkI:((x.kind:Int) == 5)=false:=by simpa using (by omega:¬ (x.kind:Int)=5)
  have HBB:Hid (bb=false):=by unfold Hid;rw [HR0.out,show (x.kind == 5)=false by simpa using hk];rfl
  clear hk HC HR0
  go_wp2_with fail
  go_ret
  exact ⟨ret_bool HBB.out.symm,HB.out⟩
end Go.Proofs.YtgjhepblpdnkcaaGreatDoor
namespace Go.Proofs.YtgjhepblpdnkcaaGreatDoor
open Go.RowKit
set_option maxRecDepth 100000
set_option maxHeartbeats 4000000

theorem here_lit (L:List Wd) (B gr i:Nat) (d:Int) (w:World) (h:RdW L B gr i d w) (hi:i < L.length) (S:List (List UInt8)) (n:Nat) (cs:Array Value) (hcs:cs.toList=(S.map tx).map Value.string) (hn:cs.size=n) (hm:n<=100):
  Calls Tryz.prog 120 #[.pointer (some ⟨gr,0,none⟩),.slice (some ⟨w.heap.size,0,none⟩) n n] (w.alloc (.cells cs 9)) fun e w'=>e=.returned (.bool (S.any fun s=>hereW L i s))/\Below w.heap.size w w':=by
 have hb:=(Below.refl _ w).alloc (Nat.le_refl _) (.cells cs 9)
 have hs:=Sv.lit w 9 cs n 1 (by unfold maxLen;omega) (by omega)
 rw [hcs] at hs
 refine (rhere_any L B gr i d _ (h.below hb) hi S _ n n hs).mono ?_
 rintro e w' ⟨h1,h2⟩
 exact ⟨h1,hb.trans (h2.mono hb.size)⟩
def WantP (L:List Wd) (B gr i:Nat) (d:Int) (s:List UInt8) (w:World) (e:Ending) (w':World):Prop:=
 if hereW L i s then e=.returned (.tuple #[])/\RdW L B gr (i+1) d w'/\Fr (fun k=>k=gr) w w' else e=badE 7 (wdAt L i).at_/\Fr (fun k=>k=gr) w w'
theorem want_any (L:List Wd) (B gr i:Nat) (d:Int) (w:World) (h:RdW L B gr i d w) (hi:i < L.length) (hL:L.length<=100000) (s:List UInt8):
  Calls Tryz.prog 77 #[ptr gr,.string (tx s)] w fun e w'=>WantP L B gr i d s w e w':=by
 have HH:=Lib.hid (here_lit L B gr i d w h hi [s] 1 #[.string (tx s)] rfl rfl (by decide))
 have HF:=Lib.hid (fun x (hx:Below w.heap.size w x)=>fail_any L B gr i d x (h.below hx) hi 7)
 have HT:=Lib.hid (fun x (hx:Below w.heap.size w x)=>take_any L B gr i d x (h.below hx) hi hL)
 clear h hi hL
 simp only [List.any_cons,List.any_nil,Bool.or_false] at HH
 unfold WantP
 generalize hereW L i s=bb at *
 unfold ptr wdD wdA badE at *
 go_enter Tryz.func77,Tryz.ntmps77
 go_wp2_with fail
 refine HH.out.mono ?_
 rintro e w1 ⟨rfl,hb⟩
 have HB:=Lib.hid hb;clear hb HH
 cases bb with
 | true=>
  have HT1:=Lib.hid (HT.out w1 HB.out)
  clear HT HF
  go_wp2_with fail
  refine HT1.out.mono ?_
  rintro e w2 ⟨rfl,h1,h2⟩
  have H1:=Lib.hid h1;have H2:=Lib.hid ((Fr.of_below (F:=fun k=>k=gr) HB.out).trans h2 (fun _ _ h=>h))
  clear h1 h2 HT1
  go_wp2_with fail
  go_end0
  exact ⟨rfl,H1.out,H2.out⟩
 | false=>
  have HF1:=Lib.hid (HF.out w1 HB.out)
  clear HT HF
  go_wp2_with fail
  refine HF1.out.mono ?_
  rintro e w2 ⟨rfl,h2⟩
  have H2:=Lib.hid (Fr.of_below (F:=fun k=>k=gr) (HB.out.trans (h2.mono HB.out.size)))
  clear h2 HF1
  go_wp2_with fail
  exact ⟨rfl,rfl,H2.out⟩
theorem PtW.cell9 {w:World} {F:Nat->Prop}:∀ {p:Pt} {b:Nat},PtW w F p b->w.cell? ⟨b,9,none⟩=some (.int .i64 p.at_)
 | .mk ..,b,h=>by unfold PtW at h;obtain ⟨_,ao,cap,bs,h2,_⟩:=h;exact h2.cell 9
theorem group_any (B k:Nat) (ao:Option Addr) (cap:Nat) (ps:List Pt) (bs:List Nat) (w:World) (hs:Sv w ao ps.length cap 1 (bs.map ptr)) (hp:PtsW w (fun k=>B<=k) ps bs) (hao:∀ x,ao=some x->B<=x.block) (hB:B<=w.heap.size) (hne:ps ≠ []):
  Calls Tryz.prog 122 #[.int .i64 k,.slice ao ps.length cap] w fun e w'=>∃ b',e=.returned (ptr b')/\PtW w' (fun k=>B<=k) (grp k ps) b'/\Below w.heap.size w w':=by
 obtain ⟨q1,q2⟩:=hs.bound
 match ps,hne with
 | [p],_=>
  unfold PtsW at hp
  obtain ⟨b,r,rfl,hp1,hp2⟩:=hp
  unfold PtsW at hp2
  subst hp2
  obtain ⟨a,rfl,hc⟩:=hs.cell 0 (by simp)
  simp only [List.map_cons,List.map_nil,List.getElem?_cons_zero] at hc
  rw [show a.add 0=a by unfold Addr.add;simp] at hc
  unfold ptr at hc
  have HP:=Lib.hid hp1;clear hp1 hs
  go_enter Tryz.func122,Tryz.ntmps122
  go_wp2_with fail
  go_ret
  exact ⟨b,rfl,HP.out,Below.refl _ _⟩
 | p :: q :: r,_=>
  have hpp:=hp
  unfold PtsW at hp
  obtain ⟨b,r',rfl,hp1,hp2⟩:=hp
  obtain ⟨a,rfl,hc⟩:=hs.cell 0 (by simp)
  simp only [List.map_cons,List.getElem?_cons_zero] at hc
  rw [show a.add 0=a by unfold Addr.add;simp] at hc
  unfold ptr at hc
  have h9:=hp1.cell9
  have HP:Hid (PtW (w.alloc (.cells (ptC k [] [] 0 p.at_ [] (some a) (p :: q :: r).length cap) 187)) (fun k=>B<=k) (grp k (p :: q :: r)) w.heap.size):=by
   have hb:=(Below.refl _ w).alloc (Nat.le_refl _) (.cells (ptC k [] [] 0 p.at_ [] (some a) (p :: q :: r).length cap) 187)
   show PtW _ _ (.mk k [] [] 0 p.at_ [] (p :: q :: r)) _
   unfold PtW
   exact ⟨hB,some a,cap,b :: r',hrow.new _ _ _,hs.below hb,fun x hx _=>hao x hx,PtsW.fr (G:=fun _=>False) (Fr.of_below hb) (fun _ _=>id) (fun _ h=>h) _ _ hpp⟩
  have hn1:(((p :: q :: r).length:Nat):Int) ≠ 1:=by simp only [List.length_cons];omega
  have hn0:(0:Int) < (((p :: q :: r).length:Nat):Int):=by simp only [List.length_cons];omega
  generalize (p :: q :: r).length=n at *
  generalize grp k (p :: q :: r)=G at *
  generalize p.at_=at0 at *
  clear hs hpp hp1 hp2 hao hne
  go_enter Tryz.func122,Tryz.ntmps122
  go_wp2_with fail
  go_ret
  exact ⟨w.heap.size,rfl,HP.out,al1 (Below.refl _ _) _⟩
end Go.Proofs.YtgjhepblpdnkcaaGreatDoor
namespace Go.Proofs.YtgjhepblpdnkcaaGreatDoor
open Go.RowKit Go.ChangeMaps
set_option maxRecDepth 100000
set_option maxHeartbeats 4000000

theorem ba_eqq (a b:ByteArray):(a == b)=decide (a=b):=by
 obtain ⟨x⟩:=a
 obtain ⟨y⟩:=b
 have h:((ByteArray.mk x) == (ByteArray.mk y))=(x == y):=rfl
 rw [h]
 by_cases e:x=y
 ·subst e;simp
 ·have h2:ByteArray.mk x ≠ ByteArray.mk y:=fun h=>e (by injection h)
  simp [e,h2]
theorem findNow_str:∀ (es:List MapEntry) (a:ByteArray) (i:Nat),(∀ x ∈ es,∃ b,x.key=.string b)->Instr.findNow .string (.string a) es i=some (findV (.string a) es i)
 | [],_,_,_=>rfl
 | x :: es,a,i,h=>by
  obtain ⟨b,hb⟩:=h x (by simp)
  by_cases hab:a=b
  ·subst hab
   unfold findV
   rw [if_pos hb]
   simp [Instr.findNow,hb,Instr.sameNow,ba_eqq]
  ·have h1:(a == b)=false:=by rw [ba_eqq];simpa using hab
   have h2:¬ (x.key=Value.string a):=by rw [hb];intro e;cases e;exact hab rfl
   unfold findV
   rw [if_neg h2]
   simp only [Instr.findNow,hb,Instr.sameNow,h1]
   exact findNow_str es a (i+1) fun y hy=>h y (by simp [hy])
theorem keyStr {P:Program} {kt:TypeId} (hu:P.underlying kt=some .string):KeyT P kt (fun v=>∃ a,v=.string a):=by
 refine ⟨fun e w k hk=>?_,fun w k es hk hes=>?_,fun w k hk=>?_⟩
 ·obtain ⟨a,rfl⟩:=hk
  rw [show (10000:Nat)=9999+1 from rfl]
  unfold Instr.checkKey
  simp only [Sem.run_bind,run_underlying hu,Result.andThen_ok]
  rfl
 ·obtain ⟨a,rfl⟩:=hk
  exact MapKept.run_findKey hu (findNow_str es a 0 hes)
 ·obtain ⟨a,rfl⟩:=hk
  unfold Instr.keyThatStays
  have:Instr.sameBits 10000 (.string a) (.string a)=true:=by
   rw [show (10000:Nat)=9999+1 from rfl]
   simp [Instr.sameBits,ba_eqq]
  rw [if_pos this]
  rfl
theorem strU:Tryz.prog.underlying 9=some .string:=by kernel_rfl
theorem mk_und:Tryz.prog.underlying 265=some (.map 9 40):=by kernel_rfl
theorem mkUp (w:World) (es:Array MapEntry) (clock:Nat) (n:ByteArray) (v:Value) (h1:∀ x ∈ es.toList,∃ a,x.key=.string a) (h2:∀ x ∈ es.toList,x.key ≠ .string n):
  (Instr.mapUpdate 265 (.map (some w.heap.size)) (.string n) v).run Tryz.prog (w.alloc (.map es clock))=.ok () (w.alloc (.map (es.push ⟨.string n,v,clock⟩) (clock+1))):=by
 rw [run_map_new (keyStr strU) mk_und (heap_alloc_new _ _) h1 ⟨n,rfl⟩ h2,setBlock_new]
def bhE:Array MapEntry:=#[⟨.string ⟨#[42]⟩,.int .i64 8,0⟩,⟨.string ⟨#[43]⟩,.int .i64 9,1⟩,⟨.string ⟨#[63]⟩,.int .i64 10,2⟩]
def ahE:Array MapEntry:=#[⟨.string ⟨#[33]⟩,.int .i64 11,0⟩,⟨.string ⟨#[38]⟩,.int .i64 12,1⟩]
theorem behind_any (w:World):Calls Tryz.prog 190 #[] w fun e w'=>e=.returned (.map (some w.heap.size))/\w'=w.alloc (.map bhE 3):=by
 have hmm:=@run_makeMap Tryz.prog
 have hmu:=mkUp
 go_enter Tryz.func190,Tryz.ntmps190
 go_wp2_with fail
 go_ret
 exact ⟨rfl,rfl⟩
theorem ahead_any (w:World):Calls Tryz.prog 192 #[] w fun e w'=>e=.returned (.map (some w.heap.size))/\w'=w.alloc (.map ahE 2):=by
 have hmm:=@run_makeMap Tryz.prog
 have hmu:=mkUp
 go_enter Tryz.func192,Tryz.ntmps192
 go_wp2_with fail
 go_ret
 exact ⟨rfl,rfl⟩
theorem look_bh {w:World} {g:Nat} (hb:w.heap[g]?=some (.map bhE 3)) (s:ByteArray) (k:Nat) (h:(s=⟨#[42]⟩/\k=8)∨(s=⟨#[43]⟩/\k=9)∨(s=⟨#[63]⟩/\k=10)):
  (Instr.lookup 265 (.map (some g)) (.string s) false).run Tryz.prog w=.ok (.int .i64 k) w:=by
 have hes:∀ x ∈ bhE.toList,∃ a,x.key=.string a:=by simp [bhE]
 rcases h with ⟨rfl,rfl⟩ | ⟨rfl,rfl⟩ | ⟨rfl,rfl⟩
 ·exact run_look_yes (keyStr strU) mk_und hb hes ⟨_,rfl⟩ (i:=0) (x:=⟨.string ⟨#[42]⟩,.int .i64 8,0⟩) rfl rfl (fun m hm=>absurd hm (by omega)) false
 ·refine run_look_yes (keyStr strU) mk_und hb hes ⟨_,rfl⟩ (i:=1) (x:=⟨.string ⟨#[43]⟩,.int .i64 9,1⟩) rfl rfl (fun m hm y hy=>?_) false
  have:m=0:=by omega
  subst this;simp [bhE] at hy;subst hy;simp
 ·refine run_look_yes (keyStr strU) mk_und hb hes ⟨_,rfl⟩ (i:=2) (x:=⟨.string ⟨#[63]⟩,.int .i64 10,2⟩) rfl rfl (fun m hm y hy=>?_) false
  have:m=0∨m=1:=by omega
  rcases this with rfl | rfl <;> (simp [bhE] at hy;subst hy;simp)
theorem look_ah {w:World} {g:Nat} (hb:w.heap[g]?=some (.map ahE 2)) (s:ByteArray) (k:Nat) (h:(s=⟨#[33]⟩/\k=11)∨(s=⟨#[38]⟩/\k=12)):
  (Instr.lookup 265 (.map (some g)) (.string s) false).run Tryz.prog w=.ok (.int .i64 k) w:=by
 have hes:∀ x ∈ ahE.toList,∃ a,x.key=.string a:=by simp [ahE]
 rcases h with ⟨rfl,rfl⟩ | ⟨rfl,rfl⟩
 ·exact run_look_yes (keyStr strU) mk_und hb hes ⟨_,rfl⟩ (i:=0) (x:=⟨.string ⟨#[33]⟩,.int .i64 11,0⟩) rfl rfl (fun m hm=>absurd hm (by omega)) false
 ·refine run_look_yes (keyStr strU) mk_und hb hes ⟨_,rfl⟩ (i:=1) (x:=⟨.string ⟨#[38]⟩,.int .i64 12,1⟩) rfl rfl (fun m hm y hy=>?_) false
  have:m=0:=by omega
  subst this;simp [ahE] at hy;subst hy;simp
end Go.Proofs.YtgjhepblpdnkcaaGreatDoor
namespace Go.Proofs.YtgjhepblpdnkcaaGreatDoor
open Go.RowKit Go.ChangeMaps
set_option maxRecDepth 100000
set_option maxHeartbeats 4000000

/-- The first rule of a name, from a place on. -/
def fixF:List Ru->ByteArray->Nat->Option Nat
 | [],_,_=>none
 | r :: R,s,i=>if r.name=s then some i else fixF R s (i+1)
theorem fixF_some:∀ (R:List Ru) (s:ByteArray) (i k:Nat),fixF R s i=some k->i<=k/\k < i+R.length/\(∀ h:k - i < R.length,R[k - i].name=s)/\∀ j,j < k - i->∀ h:j < R.length,R[j].name ≠ s
 | [],s,i,k,h=>by simp [fixF] at h
 | r :: R,s,i,k,h=>by
  unfold fixF at h
  split at h
  ·rename_i hr
   cases h
   exact ⟨Nat.le_refl _,by simp,fun h=>by simpa using hr,fun j hj=>by omega⟩
  ·rename_i hr
   obtain ⟨h1,h2,h3,h4⟩:=fixF_some R s (i+1) k h
   refine ⟨by omega,by simp only [List.length_cons];omega,fun hh=>?_,fun j hj hh=>?_⟩
   ·have e:k - i=(k - (i+1))+1:=by omega
    have:=h3 (by simp only [List.length_cons] at hh;omega)
    simp only [e,List.getElem_cons_succ]
    exact this
   ·cases j with
    | zero=>simpa using hr
    | succ j=>simp only [List.getElem_cons_succ];exact h4 j (by omega) (by simpa using hh)
theorem fixF_none:∀ (R:List Ru) (s:ByteArray) (i:Nat),fixF R s i=none->∀ r ∈ R,r.name ≠ s
 | [],s,i,h,r,hr=>by simp at hr
 | x :: R,s,i,h,r,hr=>by
  unfold fixF at h
  split at h
  ·cases h
  ·rename_i hx
   rcases List.mem_cons.1 hr with rfl | hr
   ·exact hx
   ·exact fixF_none R s (i+1) h r hr
theorem fixF_self (R:List Ru) (i k:Nat) (hk:k < R.length):∃ j,fixF R R[k].name i=some j/\j<=i+k:=by
 cases h:fixF R R[k].name i with
 | none=>exact absurd rfl (fixF_none R _ i h R[k] (List.getElem_mem hk))
 | some j=>
  obtain ⟨h1,h2,h3,h4⟩:=fixF_some R _ i j h
  refine ⟨j,rfl,?_⟩
  rcases Nat.lt_or_ge (i+k) j with hlt | hge
  ·exact absurd rfl (h4 k (by omega) hk)
  ·omega
theorem fixF_drop (R:List Ru) (s:ByteArray) (k:Nat) (hk:k < R.length):fixF (R.drop k) s k=if R[k].name=s then some k else fixF (R.drop (k+1)) s (k+1):=by
 rw [List.drop_eq_getElem_cons hk]
 rfl
theorem modify_app {α:Type} (f:α->α) (x:α) (post:List α):∀ pre:List α,(pre ++ x :: post).modify pre.length f=pre ++ f x :: post
 | []=>rfl
 | a :: pre=>by
  show a :: (pre ++ x :: post).modify pre.length f=_
  rw [modify_app f x post pre];rfl
/-! ### What is found behind a change -/
theorem findV_app (k:Value):∀ (es fs:List MapEntry) (i:Nat),findV k (es ++ fs) i=match findV k es i with | some r=>some r | none=>findV k fs (i+es.length)
 | [],fs,i=>by simp [findV]
 | e :: es,fs,i=>by
  by_cases h:e.key=k
  ·simp [findV,h]
  ·simp only [List.cons_append,findV,if_neg h,List.length_cons]
   rw [findV_app k es fs (i+1),show i+1+es.length=i+(es.length+1) by omega]
theorem findV_split {k:Value}:∀ (es:List MapEntry) (i j:Nat) (v:Value),findV k es i=some (j,v)->∃ pre e post,es=pre ++ e :: post/\j=i+pre.length/\e.key=k/\e.val=v/\∀ x ∈ pre,x.key ≠ k
 | [],i,j,v,h=>by simp [findV] at h
 | e :: es,i,j,v,h=>by
  by_cases hk:e.key=k
  ·simp only [findV,if_pos hk,Option.some.injEq,Prod.mk.injEq] at h
   exact ⟨[],e,es,rfl,by simp [h.1],hk,h.2,fun x hx=>by simp at hx⟩
  ·simp only [findV,if_neg hk] at h
   obtain ⟨pre,x,post,h1,h2,h3,h4,h5⟩:=findV_split es (i+1) j v h
   refine ⟨e :: pre,x,post,by rw [h1];rfl,by simp only [List.length_cons];omega,h3,h4,fun y hy=>?_⟩
   rcases List.mem_cons.1 hy with rfl | hy
   ·exact hk
   ·exact h5 y hy
theorem findV_none {k:Value} {es:List MapEntry} {i:Nat} (h:∀ x ∈ es,x.key ≠ k):findV k es i=none:=findV_no es i h
theorem findV_miss {k:Value}:∀ (es:List MapEntry) (i:Nat),findV k es i=none->∀ x ∈ es,x.key ≠ k
 | [],_,_,x,hx=>by simp at hx
 | e :: es,i,h,x,hx=>by
  by_cases hk:e.key=k
  ·simp [findV,hk] at h
  ·simp only [findV,if_neg hk] at h
   rcases List.mem_cons.1 hx with rfl | hx
   ·exact hk
   ·exact findV_miss es (i+1) h x hx
/-- A map of texts that holds numbers: of each text what is found. -/
def MapS (w:World) (g:Nat) (F:ByteArray->Option Nat):Prop:=∃ es clock,w.heap[g]?=some (.map es clock)/\(∀ x ∈ es.toList,∃ a,x.key=.string a)/\∀ s,(findV (.string s) es.toList 0).map (·.2)=(F s).map fun (i:Nat)=>Value.int .i64 i
theorem MapS.block {w w':World} {g:Nat} {F:ByteArray->Option Nat} (h:MapS w g F) (hb:w'.heap[g]?=w.heap[g]?):MapS w' g F:=by
 obtain ⟨es,clock,h1,h2,h3⟩:=h
 exact ⟨es,clock,hb.trans h1,h2,h3⟩
theorem MapS.lt {w:World} {g:Nat} {F:ByteArray->Option Nat} (h:MapS w g F):g < w.heap.size:=by
 obtain ⟨es,clock,h1,_⟩:=h
 exact (Array.getElem?_eq_some_iff.1 h1).1
theorem MapS.below {w w':World} {g:Nat} {F:ByteArray->Option Nat} (h:MapS w g F) (hb:Below w.heap.size w w'):MapS w' g F:=h.block (hb.block _ h.lt)
theorem MapS.look {P:Program} {t kt e:TypeId} {w:World} {g:Nat} {F:ByteArray->Option Nat} (h:MapS w g F) (hu:P.underlying kt=some .string) (ht:P.underlying t=some (.map kt e)) (hz:(zeroValue e).run P w=.ok (.int .i64 0) w) (s:ByteArray) (c:Bool):
  (Instr.lookup t (.map (some g)) (.string s) c).run P w=.ok (match F s with | some i=>if c then .tuple #[.int .i64 i,.bool true] else .int .i64 i | none=>if c then .tuple #[.int .i64 0,.bool false] else .int .i64 0) w:=by
 obtain ⟨es,clock,h1,h2,h3⟩:=h
 have h4:=h3 s
 have hK:=keyStr (P:=P) hu
 have hk:∃ a,Value.string s=.string a:=⟨s,rfl⟩
 unfold Instr.lookup
 simp only [Sem.run_bind,run_underlying ht,Result.andThen_ok,getM h1,Sem.run_pure,hK.check _ _ _ hk,hK.find _ _ _ hk h2]
 cases hf:findV (.string s) es.toList 0 with
 | none=>
  rw [hf] at h4
  cases hF:F s with
  | some i=>rw [hF] at h4;simp at h4
  | none=>cases c <;> simp [hz]
 | some r=>
  obtain ⟨j,v⟩:=r
  rw [hf] at h4
  cases hF:F s with
  | none=>rw [hF] at h4;simp at h4
  | some i=>
   rw [hF] at h4
   simp only [Option.map_some,Option.some.injEq] at h4
   subst h4
   cases c <;> simp
theorem MapS.put {P:Program} {t kt e:TypeId} {w:World} {g:Nat} {F:ByteArray->Option Nat} (h:MapS w g F) (hu:P.underlying kt=some .string) (ht:P.underlying t=some (.map kt e)) (s:ByteArray) (i:Nat):
  ∃ w',(Instr.mapUpdate t (.map (some g)) (.string s) (.int .i64 i)).run P w=.ok () w'/\(∃ es clock,w'=setBlock w g (.map es clock))/\MapS w' g (fun u=>if s=u then some i else F u):=by
 obtain ⟨es,clock,h1,h2,h3⟩:=h
 have hK:=keyStr (P:=P) hu
 have hg:g < w.heap.size:=(Array.getElem?_eq_some_iff.1 h1).1
 have hset:∀ o:Obj,(setBlock w g o).heap[g]?=some o:=fun o=>by unfold setBlock;simp [hg]
 have hkey:∀ (u:ByteArray),Value.string s=Value.string u ↔ s=u:=fun u=>⟨fun h=>by cases h;rfl,fun h=>by rw [h]⟩
 cases hf:findV (.string s) es.toList 0 with
 | none=>
  have hn:=findV_miss _ _ hf
  refine ⟨_,run_map_new hK ht h1 h2 ⟨s,rfl⟩ hn,⟨_,_,rfl⟩,es.push ⟨.string s,.int .i64 i,clock⟩,clock+1,hset _,fun x hx=>?_,fun u=>?_⟩
  ·rw [Array.toList_push] at hx
   rcases List.mem_append.1 hx with hx | hx
   ·exact h2 x hx
   ·simp only [List.mem_singleton] at hx;subst hx;exact ⟨s,rfl⟩
  ·show Option.map _ _=Option.map _ (if s=u then some i else F u)
   rw [Array.toList_push,findV_app]
   by_cases hs:s=u
   ·subst hs
    rw [hf,if_pos rfl]
    simp [findV]
   ·rw [if_neg hs,← h3 u]
    cases findV (.string u) es.toList 0 with
    | some r=>rfl
    | none=>simp [findV,hkey,hs]
 | some r=>
  obtain ⟨j,v⟩:=r
  obtain ⟨pre,x,post,he,hj,hx,hv,hp⟩:=findV_split _ _ _ _ hf
  rw [Nat.zero_add] at hj
  have hej:es[j]?=some x:=by rw [← Array.getElem?_toList,he,hj];simp
  have hpre:∀ m,m < j->∀ y,es[m]?=some y->y.key ≠ .string s:=fun m hm y hy=>by
   rw [← Array.getElem?_toList,he,List.getElem?_append_left (by omega)] at hy
   exact hp y (List.mem_of_getElem? hy)
  have hmod:(es.modify j fun e=>{ e with key:=.string s,val:=.int .i64 i }).toList=pre ++ { x with key:=.string s,val:=.int .i64 i } :: post:=by
   rw [Array.toList_modify,he,hj]
   exact modify_app _ x post pre
  refine ⟨_,run_map_old hK ht h1 h2 ⟨s,rfl⟩ hej hx hpre,⟨_,_,rfl⟩,_,clock,hset _,fun y hy=>?_,fun u=>?_⟩
  ·rw [hmod] at hy
   rcases List.mem_append.1 hy with hy | hy
   ·exact h2 y (by rw [he];exact List.mem_append_left _ hy)
   ·rcases List.mem_cons.1 hy with rfl | hy
    ·exact ⟨s,rfl⟩
    ·exact h2 y (by rw [he];exact List.mem_append_right _ (List.mem_cons_of_mem _ hy))
  ·show Option.map _ _=Option.map _ (if s=u then some i else F u)
   rw [hmod,findV_app]
   have hu3:=h3 u
   rw [he,findV_app] at hu3
   by_cases hs:s=u
   ·subst hs
    rw [if_pos rfl,findV_none hp]
    simp [findV]
   ·rw [if_neg hs,← hu3]
    cases findV (.string u) pre 0 with
    | some r=>rfl
    | none=>
     have hxu:¬ x.key=Value.string u:=by rw [hx,hkey];exact hs
     simp only [findV,if_neg hxu,hkey,if_neg hs]
end Go.Proofs.YtgjhepblpdnkcaaGreatDoor
namespace Go.Proofs.YtgjhepblpdnkcaaGreatDoor
open Go.RowKit
set_option maxRecDepth 100000
set_option maxHeartbeats 4000000

theorem ptW_leaf (B k:Nat) (cl:List (UInt8×UInt8)) (t:List UInt8) (lv:Int) (a:Nat) (nm:List UInt8) (w:World) (hB:B<=w.heap.size):
  PtW (w.alloc (.cells (ptC k cl t lv a nm none 0 0) 187)) (fun k=>B<=k) (.mk k cl t lv a nm []) w.heap.size:=by
 unfold PtW
 exact ⟨hB,none,0,[],hrow.new _ _ _,Sv.nil _ _,(fun _ h _=>by cases h),(by unfold PtsW;rfl)⟩
/-- What a word's making gives. -/
def LeafP (B:Nat) (p:Pt) (w:World) (e:Ending) (w':World):Prop:=∃ b',e=.returned (ptr b')/\PtW w' (fun k=>B<=k) p b'/\Below w.heap.size w w'
theorem call_any (B gr:Nat) (x:Wd) (w:World) (hB:B<=w.heap.size):
  Calls Tryz.prog 206 #[ptr gr,.agg (wdD x)] w fun e w'=>LeafP B (.mk 5 [] [] (max x.lv 0) x.at_ x.tx []) w e w':=by
 have hb:=(Below.refl _ w).alloc (Nat.le_refl _) (.cells (wdD x) 82)
 have HP:=Lib.hid (ptW_leaf B 5 [] [] (max x.lv 0) x.at_ x.tx (w.alloc (.cells (wdD x) 82)) (Nat.le_trans hB hb.size))
 have HR:=Lib.hid (hrow.new w (wdD x) 82)
 have HB:=Lib.hid hb;clear hb hB
 unfold LeafP ptr wdD wdA at *
 go_enter Tryz.func206,Tryz.ntmps206
 go_upto_region 1 with (fail)
 revert HP HR HB
 generalize w.alloc (.cells #[.int .i64 x.kind,.int .i64 x.at_,.int .i64 x.nx,.string (tx x.tx),.int .i64 x.lv,.int .u64 (clsW x.cl 0),.int .u64 (clsW x.cl 1),.int .u64 (clsW x.cl 2),.int .u64 (clsW x.cl 3)] 82)=w1
 intro HP HR HB
 obtain ⟨c0,c1,c2,c3,c4,c5,c6,c7,c8⟩:=HR.out.c9
 go_wp2_with fail
 go_ret
 exact ⟨_,rfl,HP.out,HB.out.alloc HB.out.size _⟩
theorem text_any2 (B gr:Nat) (x:Wd) (w:World) (hB:B<=w.heap.size):
  Calls Tryz.prog 207 #[ptr gr,.agg (wdD x)] w fun e w'=>LeafP B (.mk 4 [] x.tx 0 x.at_ [] []) w e w':=by
 have hb:=(Below.refl _ w).alloc (Nat.le_refl _) (.cells (wdD x) 82)
 have HP:=Lib.hid (ptW_leaf B 4 [] x.tx 0 x.at_ [] (w.alloc (.cells (wdD x) 82)) (Nat.le_trans hB hb.size))
 have HR:=Lib.hid (hrow.new w (wdD x) 82)
 have HB:=Lib.hid hb;clear hb hB
 unfold LeafP ptr wdD wdA at *
 go_enter Tryz.func207,Tryz.ntmps207
 go_upto_region 1 with (fail)
 revert HP HR HB
 generalize w.alloc (.cells #[.int .i64 x.kind,.int .i64 x.at_,.int .i64 x.nx,.string (tx x.tx),.int .i64 x.lv,.int .u64 (clsW x.cl 0),.int .u64 (clsW x.cl 1),.int .u64 (clsW x.cl 2),.int .u64 (clsW x.cl 3)] 82)=w1
 intro HP HR HB
 obtain ⟨c0,c1,c2,c3,c4,c5,c6,c7,c8⟩:=HR.out.c9
 go_wp2_with fail
 go_ret
 exact ⟨_,rfl,HP.out,HB.out.alloc HB.out.size _⟩
theorem set_any2 (B gr:Nat) (x:Wd) (w:World) (hB:B<=w.heap.size):
  Calls Tryz.prog 208 #[ptr gr,.agg (wdD x)] w fun e w'=>LeafP B (.mk 3 x.cl [] 0 x.at_ [] []) w e w':=by
 have hb:=(Below.refl _ w).alloc (Nat.le_refl _) (.cells (wdD x) 82)
 have HP:=Lib.hid (ptW_leaf B 3 x.cl [] 0 x.at_ [] (w.alloc (.cells (wdD x) 82)) (Nat.le_trans hB hb.size))
 have HR:=Lib.hid (hrow.new w (wdD x) 82)
 have HB:=Lib.hid hb;clear hb hB
 unfold LeafP ptr wdD wdA at *
 go_enter Tryz.func208,Tryz.ntmps208
 go_upto_region 1 with (fail)
 revert HP HR HB
 generalize w.alloc (.cells #[.int .i64 x.kind,.int .i64 x.at_,.int .i64 x.nx,.string (tx x.tx),.int .i64 x.lv,.int .u64 (clsW x.cl 0),.int .u64 (clsW x.cl 1),.int .u64 (clsW x.cl 2),.int .u64 (clsW x.cl 3)] 82)=w1
 intro HP HR HB
 obtain ⟨c0,c1,c2,c3,c4,c5,c6,c7,c8⟩:=HR.out.c9
 go_wp2_with fail
 go_ret
 exact ⟨_,rfl,HP.out,HB.out.alloc HB.out.size _⟩
end Go.Proofs.YtgjhepblpdnkcaaGreatDoor
namespace Go.Proofs.YtgjhepblpdnkcaaGreatDoor
open Go.RowKit

theorem own_mono {w:World} {b c:Nat} {e:TypeId} {size:Nat} {v:Value} {n:Nat} {xs:List Value} (h:w.ownsRow b e size v n xs) (hc:∀ k,v.ownBlock=some k->c<=k):w.ownsRow c e size v n xs:=by
 refine ⟨h.1,?_⟩
 rcases h.2 with h2 | ⟨g,cap,cur,hv,hg,r⟩
 ·exact .inl h2
 ·subst hv;exact .inr ⟨g,cap,cur,rfl,hc g rfl,r⟩
/-- append(s, l...): the same block, or a new one. -/
theorem run_append_tag {P:Program} (w:World) (base:Nat) (t ty e:TypeId) (i:TypeInfo) (z:Value) (size bytes:Nat) (ht:P.underlying t=some (.slice e)) (hi:P.info? e=some i) (hz:i.zero=some z)
  (hsize:i.size=size) (hby:i.bytes=bytes) (hzs:z.cells.size=size) (hsz:0 < size)
  (v:Value) (n:Nat) (xs:List Value) (hown:w.ownsRow base e size v n xs)
  (a:Addr) (m c:Nat) (news:List Value) (hl:news.length=m * size) (hnews:∀ j u,news[j]?=some u->w.cell? (a.add j)=some u) (h1:∀ u ∈ news,u.oneCell'=true)
  (h63:n+m<=maxLen) (hbytes:(n+m) * bytes<=140737488355328) (hbase:base<=w.heap.size):
  ∃ v' w',(Builtin.append_ #[t,t] ty #[v,.slice (some a) m c]).run P w=.ok v' w'/\w'.ownsRow base e size v' (n+m) (xs ++ news)/\w.grownBy w' v.ownBlock/\(∀ k,v'.ownBlock=some k->v.ownBlock=some k∨w.heap.size<=k):=by
 obtain ⟨v',w',hr,h2,h3,_⟩:=run_append_own (P:=P) w base t ty e i z size bytes ht hi hz hsize hby hzs hsz v n xs hown a m c news hl hnews h1 h63 hbytes hbase
 refine ⟨v',w',hr,h2,h3,?_⟩
 rcases hown.2 with ⟨rfl,rfl⟩ | ⟨g,cap,cur,rfl,hbg,hg,hnc,hcm,hcs,htake⟩
 ·have hx:xs=[]:=List.eq_nil_of_length_eq_zero (by simpa using hown.1)
  subst hx
  obtain ⟨v2,w2,hr2,h4,_,_⟩:=run_append_own (P:=P) w w.heap.size t ty e i z size bytes ht hi hz hsize hby hzs hsz _ 0 [] (World.ownsRow_nil w w.heap.size e size) a m c news hl hnews h1 h63 hbytes (Nat.le_refl _)
  have hv:v'=v2:=by have:=hr.symm.trans hr2;cases this;rfl
  subst hv
  exact fun k hk=>.inr (h4.lt k hk).1
 ·by_cases hroom:n+m<=cap
  ·have hfit:n * i.size+news.length<=cur.size:=by rw [hl,hcs,hsize,← Nat.add_mul];exact Nat.mul_le_mul_right _ hroom
   have hr2:=run_append_room (P:=P) w t ty e i ht hi g n cap cur hg a m c news (by rw [hsize];exact hl) hnews h1 hroom hfit
   have:=hr.symm.trans hr2
   cases this
   exact fun k hk=>.inl hk
  ·subst hsize hby
   have hsmall:n+m<=9223372036854775807:=by simp only [maxLen] at h63;omega
   have holds:∀ j u,xs[j]?=some u->w.cell? ((⟨g,0,none⟩:Addr).add j)=some u:=hown.cells (g:=g) rfl
   have hr2:=run_append_grow (P:=P) w t ty e i z ht hi hz ⟨g,0,none⟩ n cap xs hown.1 holds a m c news hl hnews (by omega) (by omega) (growslice_fits (by omega) hbytes)
   have:=hr.symm.trans hr2
   cases this
   exact fun k hk=>.inr (by simp only [Value.ownBlock,Option.some.injEq] at hk;omega)
theorem wpList_append_tag {P:Program} (w:World) {ops:Array Oper} {rest:List Oper} {o:Oper} {a:Act} {Q:Exit->Act->World->Prop} (hgd:o.guard=none) (s x:Operand) (t e:TypeId) {size bytes:Nat} {z:Value}
  (ho:o.op=.call { callee:=.builtin .append,args:=#[s,x],argTypes:=#[t,t] }) (he:Elem P t e size bytes z)
  (base:Nat) (v:Value) (n:Nat) (xs:List Value) (hs:a.eval s=v) (hown:w.ownsRow base e size v n xs)
  (ad:Addr) (m c:Nat) (news:List Value) (hx:a.eval x=.slice (some ad) m c) (hsv:Sv w (some ad) m c size news) (h1:∀ u ∈ news,u.oneCell'=true)
  (hbytes:(n+m) * bytes<=140737488355328) (h63:n+m<=maxLen) (hbase:base<=w.heap.size)
  (h:∀ v' w',w'.ownsRow base e size v' (n+m) (xs ++ news)->w.grownBy w' v.ownBlock->(∀ k,v'.ownBlock=some k->v.ownBlock=some k∨w.heap.size<=k)->wpList P ops Q rest (a.put o.dst v') w'):wpList P ops Q (o :: rest) a w:=by
 obtain ⟨ht,hi,hzs,hpos⟩:=he
 obtain ⟨i,hi,hz0,hz1,hz2⟩:=info_parts hi
 have hnews:∀ j u,news[j]?=some u->w.cell? (ad.add j)=some u:=fun j u hj=>by
  obtain ⟨ad',h,hc⟩:=hsv.cell j (List.getElem?_eq_some_iff.1 hj).1
  obtain rfl:=Option.some.inj h
  exact hc.trans hj
 obtain ⟨v',w',hr,h2,h3,h4⟩:=run_append_tag (P:=P) w base t o.type e i z size bytes ht hi hz0 hz1 hz2 hzs hpos v n xs hown ad m c news hsv.len hnews h1 h63 hbytes hbase
 refine wpList_plain hgd fun _ hK=>?_
 unfold Oper.wp execOp
 simp only [ho,resolve,invoke,builtin,Sem.run_bind,Sem.run_pure,Result.andThen_ok,List.map_toArray,List.map_cons,List.map_nil,hs,hx,hr]
 exact hK _ _ (h v' w' h2 h3 h4)

/-! ### Tags -/
/-- A row of the family: its block has the tag g. -/
def RowT (w:World) (τ:Nat->Nat) (g:Nat) (e:TypeId) (size:Nat) (v:Value) (n:Nat) (xs:List Value):Prop:=w.ownsRow 0 e size v n xs/\∀ k,v.ownBlock=some k->τ k=g
/-- The blocks from m on, ahead of m', have the tag g. -/
def tagN (τ:Nat->Nat) (m m' g:Nat):Nat->Nat:=fun k=>if m<=k/\k < m' then g else τ k
theorem tagN_old {τ:Nat->Nat} {m m' g k:Nat} (h:k < m):tagN τ m m' g k=τ k:=by unfold tagN;rw [if_neg (by omega)]
theorem tagN_new {τ:Nat->Nat} {m m' g k:Nat} (h:m'<=k):tagN τ m m' g k=τ k:=by unfold tagN;rw [if_neg (by omega)]
theorem RowT.nil (w:World) (τ:Nat->Nat) (g:Nat) (e:TypeId) (size:Nat):RowT w τ g e size (.slice none 0 0) 0 []:=⟨World.ownsRow_nil _ _ _ _,fun k h=>by cases h⟩
theorem RowT.lt {w:World} {τ:Nat->Nat} {g:Nat} {e:TypeId} {size:Nat} {v:Value} {n:Nat} {xs:List Value} (h:RowT w τ g e size v n xs):∀ k,v.ownBlock=some k->k < w.heap.size:=fun k hk=>(h.1.lt k hk).2
theorem RowT.sv {w:World} {τ:Nat->Nat} {g:Nat} {e:TypeId} {size:Nat} {v:Value} {n:Nat} {xs:List Value} (h:RowT w τ g e size v n xs):∃ ao cap,v=.slice ao n cap/\Sv w ao n cap size xs:=Sv.of_owns h.1
/-- Another row's step keeps it. -/
theorem RowT.keep {w w':World} {τ τ':Nat->Nat} {g:Nat} {e:TypeId} {size:Nat} {v:Value} {n:Nat} {xs:List Value} {F:Nat->Prop} (h:RowT w τ g e size v n xs) (hf:Fr F w w') (hF:∀ k,k < w.heap.size->τ k=g->¬ F k) (ht:∀ k,k < w.heap.size->τ' k=τ k):RowT w' τ' g e size v n xs:=
 ⟨owns_fr h.1 hf (fun k hk=>hF k (h.lt k hk) (h.2 k hk)),fun k hk=>(ht k (h.lt k hk)).trans (h.2 k hk)⟩
/-- The row's own step. -/
theorem RowT.step {w w':World} {τ:Nat->Nat} {g:Nat} {e:TypeId} {size:Nat} {v v':Value} {n n':Nat} {xs xs':List Value} (h:RowT w τ g e size v n xs) (ho:w'.ownsRow 0 e size v' n' xs') (hb:∀ k,v'.ownBlock=some k->v.ownBlock=some k∨w.heap.size<=k):RowT w' (tagN τ w.heap.size w'.heap.size g) g e size v' n' xs':=
 ⟨ho,fun k hk=>by
  unfold tagN
  have:=(ho.lt k hk).2
  rcases hb k hk with h1 | h1
  ·rw [if_neg (by have:=h.lt k h1;omega)];exact h.2 k h1
  ·rw [if_pos ⟨h1,this⟩]⟩
/-- Rows, one of which takes a step. -/
theorem RowT.beside {w w':World} {τ:Nat->Nat} {g g2:Nat} {e e2:TypeId} {size size2:Nat} {v v2:Value} {n n2:Nat} {xs xs2:List Value} (h:RowT w τ g e size v n xs) (h2:RowT w τ g2 e2 size2 v2 n2 xs2) (hne:g ≠ g2) (hg:w.grownBy w' v2.ownBlock):RowT w' (tagN τ w.heap.size w'.heap.size g2) g e size v n xs:=
 h.keep (Fr.grown hg) (fun _ _ ht hv=>hne (ht.symm.trans (h2.2 _ hv))) (fun _ hk=>tagN_old hk)
end Go.Proofs.YtgjhepblpdnkcaaGreatDoor
