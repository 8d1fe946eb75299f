/- Walks and plain laws: Kf Gc Gd Ge Ju. -/
import Derived.Test.YtgjhepblpdnkcaaGreatDoorM14
import Derived.Test.YtgjhepblpdnkcaaGreatDoorM07
import Derived.Test.YtgjhepblpdnkcaaGreatDoorM08
import Derived.Deep.RegionHeld3
import Derived.Test.YtgjhepblpdnkcaaGreatDoorM11
import Derived.Test.YtgjhepblpdnkcaaGreatDoorM12
namespace Go.Proofs.YtgjhepblpdnkcaaGreatDoor
open Go.RowKit Go.Shelf
set_option maxRecDepth 100000
set_option maxHeartbeats 4000000

/-- While the signs ahead are gone through. -/
structure BkI (L:List Wd) (B gr d jf G:Nat) (w:World) (q:Pt) (pre:List (Nat×Wd)) (W:World):Prop where
 ex:∃ b,hrow W G #[ptr b] 139/\PtW W (fun k=>B<=k/\k ≠ G) (wrapF q pre) b
 rd:RdW L B gr jf d W
 fr:Fr (fun k=>k=gr) w W
theorem BkI.own {L:List Wd} {B gr d jf G B':Nat} {w:World} {q:Pt} (hB:B<=w.heap.size) (hw:w.heap.size<=B'):OwnFrom B' (fun pre W=>BkI L B gr d jf G w q pre W):=by
 rintro pre W W' row ⟨⟨b,h1,h2⟩,h3,h4⟩ hg hr
 have hf:=Fr.grown hg
 refine ⟨⟨b,h1.own hg hr,?_⟩,h3.fr hf (fun k e=>?_),h4.trans hf (fun k hk e=>?_)⟩
 ·refine PtW.fr hf (fun k hk e=>?_) (fun k hk=>hk.1) _ _ (PtW.cl _ _ h2)
  obtain ⟨cs,t,fr,hc⟩:=hk.2
  obtain ⟨o,ho,hno⟩:=(hr k e).2
  rw [hc] at ho;cases ho;cases hno
 ·have:=(hr k e).1;omega
 ·have:=(hr k e).1;omega
theorem BkI.below {L:List Wd} {B gr d jf G:Nat} {w W W':World} {q:Pt} {pre:List (Nat×Wd)} (h:BkI L B gr d jf G w q pre W) (hb:Below W.heap.size W W'):BkI L B gr d jf G w q pre W':=by
 obtain ⟨⟨b,h1,h2⟩,h3,h4⟩:=h
 exact ⟨⟨b,h1.below hb,PtW.fr (G:=fun _=>False) (Fr.of_below hb) (fun _ _=>id) (fun _ h=>h) _ _ h2⟩,h3.below hb,h4.trans (Fr.of_below (F:=fun _=>False) hb) (fun _ _ e=>e.elim)⟩
/-- A round. -/
theorem BkI.more {L:List Wd} {B gr d jf G B' b':Nat} {w W w2:World} {q:Pt} {pre:List (Nat×Wd)} {x:Nat×Wd} (h:BkI L B gr d jf G w q pre W) (hB:B<=w.heap.size) (hG:w.heap.size<=G) (hG2:G < B') (hb:Below W.heap.size W w2)
  (hp:PtW w2 (fun k=>B<=k/\k ≠ G) (ovr (ahT x.2.tx) x.2.at_ (wrapF q pre)) b'):
  KeepsFrom B' W (w2.setCell ⟨G,0,none⟩ (ptr b'))/\KpC G W (w2.setCell ⟨G,0,none⟩ (ptr b'))/\BkI L B gr d jf G w q (pre ++ [x]) (w2.setCell ⟨G,0,none⟩ (ptr b')):=by
 obtain ⟨⟨b,h1,h2⟩,h3,h4⟩:=h
 have hS:=Fr.setCell w2 ⟨G,0,none⟩ (ptr b')
 have hF:Fr (fun k=>k=G) W (w2.setCell ⟨G,0,none⟩ (ptr b')):=(Fr.of_below (F:=fun k=>k=G) hb).trans hS (fun _ _ e=>e)
 refine ⟨⟨hF.size,fun k o hk ho _=>(hF.block k (Array.getElem?_eq_some_iff.1 ho).1 (fun e=>by have:k=G:=e;omega)).trans ho⟩,kpC_fr hF (fun _ e=>e),⟨b',?_,?_⟩,h3.fr hF (fun k e=>by have:k=G:=e;omega),h4.trans hF (fun k hk e=>by have:k=G:=e;omega)⟩
 ·exact (h1.below hb).setCell 0 _
 ·rw [wrapF_snoc]
  exact PtW.fr hS (fun k hk e=>hk.2 e) (fun _ h=>h) _ _ hp
/-- The lookup of a sign ahead, whatever text it is. -/
theorem look_ah2 {w:World} {g:Nat} (hb:w.heap[g]?=some (.map ahE 2)) (t:List UInt8):
  (Instr.lookup 265 (.map (some g)) (.string (tx t)) false).run Tryz.prog w=.ok (.int .i64 (ahT t)) w:=by
 have hes:∀ x ∈ ahE.toList,∃ a,x.key=.string a:=by simp [ahE]
 unfold ahT
 by_cases h1:t=[33]
 ·subst h1
  exact look_ah hb _ 11 (.inl ⟨rfl,rfl⟩)
 ·rw [if_neg h1]
  by_cases h2:t=[38]
  ·subst h2
   exact look_ah hb _ 12 (.inr ⟨rfl,rfl⟩)
  ·rw [if_neg h2]
   have e1:tx t ≠ ⟨#[33]⟩:=fun e=>h1 (tx_inj (b:=[33]) e)
   have e2:tx t ≠ ⟨#[38]⟩:=fun e=>h2 (tx_inj (b:=[38]) e)
   have hz:(zeroValue 40).run Tryz.prog w=.ok (.int .i64 (0:Nat)) w:=by kernel_rfl
   refine run_look_no (keyStr strU) mk_und hb hes ⟨_,rfl⟩ (fun x hx e=>?_) hz false
   simp only [ahE,List.mem_cons,List.not_mem_nil,or_false] at hx
   rcases hx with rfl | rfl
   ·simp only [Value.string.injEq] at e;exact e1 e.symm
   ·simp only [Value.string.injEq] at e;exact e2 e.symm
/-- Where a round begins: the word in its own cells. -/
def AxB (A:Array Value) (B':Nat) (x:Nat×Wd) (a':Act) (W:World):Prop:=∃ Bx,B'<=Bx/\hrow W Bx (wdD x.2) 82/\a'={ tmps:=((A.setIfInBounds 41 (.int .i64 x.1)).setIfInBounds 42 (.agg (wdD x.2))).setIfInBounds 7 (.pointer (some ⟨Bx,0,none⟩)),defers:=[] }
/-- The range over the signs ahead, from behind. -/
theorem wpIn_back {g:Operand} {assign body:Code} {Q:Exit->Act->World->Prop} {A:Array Value} {xb:World} {lb:Array Value} {ws:List Wd} {N:Nat} {L:List Wd} {B gr d jf G:Nat} {w:World} {q:Pt}
  (hg:Act.eval { tmps:=A,defers:=[] } g=.func (.func 210) #[] lb)
  (hseq:SeqStopsK Fence.wide 2 Tryz.prog 210 lb enB (KpC G) (fun xs=>xs=backL ws) (fun _=>True) N xb)
  (hB:B<=w.heap.size) (hw:w.heap.size<=xb.heap.size) (h0:BkI L B gr d jf G w q [] xb)
  (hassign:∀ (l:Nat) (pre:List (Nat×Wd)) (x:Nat×Wd) (W:World) (K:Act->World->Prop),BkI L B gr d jf G w q pre W->(∀ Bx W',KeepsFrom xb.heap.size W W'->KpC G W W'->BkI L B gr d jf G w q pre W'->xb.heap.size<=Bx->hrow W' Bx (wdD x.2) 82->K { tmps:=((A.setIfInBounds 41 (.int .i64 x.1)).setIfInBounds 42 (.agg (wdD x.2))).setIfInBounds 7 (.pointer (some ⟨Bx,0,none⟩)),defers:=[] } W')->
   xb.heap.size<=W.heap.size->assign.wpIn (Fence.wide.inRound l) 1 Tryz.prog (Exit.then K (fun _ _ _=>False)) { tmps:=(A.setIfInBounds 41 (.int .i64 x.1)).setIfInBounds 42 (.agg (wdD x.2)),defers:=[] } W)
  (hbody:∀ (l:Nat) (pre:List (Nat×Wd)) (x:Nat×Wd) (Bx:Nat) (W:World),BkI L B gr d jf G w q pre W->xb.heap.size<=Bx->hrow W Bx (wdD x.2) 82->
   body.wpIn (Fence.wide.inRound l) 1 Tryz.prog (ownPostG xb.heap.size (KpC G) (fun pre W=>BkI L B gr d jf G w q pre W/\xb.heap.size<=W.heap.size) (fun _ _ _=>False) (pre ++ [x]) W) { tmps:=((A.setIfInBounds 41 (.int .i64 x.1)).setIfInBounds 42 (.agg (wdD x.2))).setIfInBounds 7 (.pointer (some ⟨Bx,0,none⟩)),defers:=[] } W)
  (hdone:∀ (D:Nat) (W:World),xb.heap.size<=D->BkI L B gr d jf G w q (backL ws) W->W.heap[D]?=some (.deferred (some []))->Q .normal { tmps:=A,defers:=[{ target:=.collected D,args:=#[] }] } W):
  (Code.rangeFunc g #[41,42] assign body).wpIn Fence.wide 3 Tryz.prog Q { tmps:=A,defers:=[] } xb:=by
 refine wpIn_rangeFunc_ownH rfl (by omega) hg trivial (enters_of Tryz.func210 (by kernel_rfl) rfl) hseq kpC_t (fun W l o o' _ h hc _=>kpC_b W l o o' h hc) (Below.refl _ _) (fun _=>rfl)
  (fun pre W=>BkI L B gr d jf G w q pre W/\xb.heap.size<=W.heap.size) (fun _ _ _=>False) ?own (fun _ _ _ _ _ h _ _=>h) ⟨h0,Nat.le_refl _⟩ (AxB A xb.heap.size) ?ax ?assign ?body ?done ?stop
 case own=>exact OwnFrom.and (BkI.own hB hw) (fun _ _ _ _ h hg _=>Nat.le_trans h hg.size)
 case ax=>
  rintro x a' _ W W' row ⟨Bx,h1,h2,h3⟩ hg hr
  exact ⟨Bx,h1,h2.own hg hr,h3⟩
 case assign=>
  intro l pre x W K hI hK
  have h:=hassign l pre x W K hI.1 (fun Bx W' h1 h2 h3 h4 h5=>hK _ W' h1 h2 ⟨h3,Nat.le_trans hI.2 h1.size⟩ ⟨Bx,h4,h5,rfl⟩) hI.2
  simp [enB]
  exact h
 case body=>
  rintro l pre x a' W _ _ hI ⟨Bx,h1,h2,rfl⟩ _
  exact hbody l pre x Bx W hI.1 h1 h2
 case done=>
  rintro D xs W hD rfl hI hK
  exact hdone D W hD hI.1 hK
 case stop=>
  rintro D c pre W hD _ h _
  exact h.elim
end Go.Proofs.YtgjhepblpdnkcaaGreatDoor
namespace Go.Proofs.YtgjhepblpdnkcaaGreatDoor
open Go.RowKit Go.Shelf Go.ChangeMaps
attribute [local go_sem] Oper.semAt_some
set_option maxRecDepth 100000
set_option maxHeartbeats 8000000

/-- While the rules are gone through from behind. -/
structure OpI (g1 g2 gm:Nat) (c1 c2:Array Value) (w0:World) (pre:List (Nat×Ru)) (W:World):Prop where
 a:hrow W g1 c1 29
 b:hrow W g2 c2 86
 m:MapS W gm (putF pre)
 fr:Fr (fun k=>k=gm) w0 W
theorem OpI.own {g1 g2 gm B':Nat} {c1 c2:Array Value} {w0:World} (hw:w0.heap.size<=B') (hgm:gm < B'):OwnFrom B' (fun pre W=>OpI g1 g2 gm c1 c2 w0 pre W):=by
 rintro pre W W' row ⟨h1,h2,h3,h4⟩ hg hr
 refine ⟨h1.own hg hr,h2.own hg hr,h3.block (hg.block gm h3.lt (fun e=>by have:=(hr _ e.symm).1;omega)),h4.trans (Fr.grown hg) (fun k hk e=>by have:=(hr k e).1;omega)⟩
theorem OpI.below {g1 g2 gm:Nat} {c1 c2:Array Value} {w0 W W':World} {pre:List (Nat×Ru)} (h:OpI g1 g2 gm c1 c2 w0 pre W) (hb:Below W.heap.size W W'):OpI g1 g2 gm c1 c2 w0 pre W':=
 ⟨h.a.below hb,h.b.below hb,h.m.below hb,h.fr.trans (Fr.of_below (F:=fun _=>False) hb) (fun _ _ e=>e.elim)⟩
/-- A rule is put. -/
theorem OpI.more {g1 g2 gm B':Nat} {c1 c2:Array Value} {w0 W:World} {pre:List (Nat×Ru)} {x:Nat×Ru} {es:Array MapEntry} {clock:Nat} (h:OpI g1 g2 gm c1 c2 w0 pre W) (hgm:gm < B') (hne1:g1 ≠ gm) (hne2:g2 ≠ gm) (hm:MapS (setBlock W gm (.map es clock)) gm (fun u=>if x.2.name=u then some x.1 else putF pre u)):
  KeepsFrom B' W (setBlock W gm (.map es clock))/\KpC gm W (setBlock W gm (.map es clock))/\OpI g1 g2 gm c1 c2 w0 (pre ++ [x]) (setBlock W gm (.map es clock)):=by
 have hsz:(setBlock W gm (.map es clock)).heap.size=W.heap.size:=by unfold setBlock;simp
 have hbk:∀ k,k ≠ gm->(setBlock W gm (.map es clock)).heap[k]?=W.heap[k]?:=fun k hk=>by unfold setBlock;simp [Ne.symm hk]
 have hF:Fr (fun k=>k=gm) W (setBlock W gm (.map es clock)):=⟨rfl,rfl,rfl,by omega,fun k _ hk=>hbk k hk⟩
 refine ⟨⟨hF.size,fun k o hk ho _=>(hbk k (by omega)).trans ho⟩,kpC_fr hF (fun _ e=>e),h.a.fr hF hne1,h.b.fr hF hne2,?_,h.fr.trans hF (fun _ _ e=>e)⟩
 rw [putF_snoc]
 exact hm
/-- Where a round begins: the rule in its own cells. -/
def AxR (A:Array Value) (B':Nat) (x:Nat×Ru) (a':Act) (W:World):Prop:=∃ Bx,B'<=Bx/\hrow W Bx (ruD x.2) 49/\a'={ tmps:=(((A.setIfInBounds 13 (.int .i64 x.1)).setIfInBounds 14 (.agg (ruD x.2))).setIfInBounds 4 (.int .i64 x.1)).setIfInBounds 5 (.pointer (some ⟨Bx,0,none⟩)),defers:=[] }
/-- The range over the rules, from behind. -/
theorem wpIn_backR {g:Operand} {assign body:Code} {Q:Exit->Act->World->Prop} {A:Array Value} {xb:World} {lb:Array Value} {R:List Ru} {N:Nat} {g1 g2 gm:Nat} {c1 c2:Array Value}
  (hg:Act.eval { tmps:=A,defers:=[] } g=.func (.func 123) #[] lb)
  (hseq:SeqStopsK Fence.wide 2 Tryz.prog 123 lb enR (KpC gm) (fun xs=>xs=backR R) (fun _=>True) N xb)
  (hgm:gm < xb.heap.size) (h0:OpI g1 g2 gm c1 c2 xb [] xb)
  (hassign:∀ (l:Nat) (pre:List (Nat×Ru)) (x:Nat×Ru) (W:World) (K:Act->World->Prop),OpI g1 g2 gm c1 c2 xb pre W->(∀ Bx W',KeepsFrom xb.heap.size W W'->KpC gm W W'->OpI g1 g2 gm c1 c2 xb pre W'->xb.heap.size<=Bx->hrow W' Bx (ruD x.2) 49->K { tmps:=(((A.setIfInBounds 13 (.int .i64 x.1)).setIfInBounds 14 (.agg (ruD x.2))).setIfInBounds 4 (.int .i64 x.1)).setIfInBounds 5 (.pointer (some ⟨Bx,0,none⟩)),defers:=[] } W')->
   xb.heap.size<=W.heap.size->assign.wpIn (Fence.wide.inRound l) 1 Tryz.prog (Exit.then K (fun _ _ _=>False)) { tmps:=(A.setIfInBounds 13 (.int .i64 x.1)).setIfInBounds 14 (.agg (ruD x.2)),defers:=[] } W)
  (hbody:∀ (l:Nat) (pre:List (Nat×Ru)) (x:Nat×Ru) (Bx:Nat) (W:World),OpI g1 g2 gm c1 c2 xb pre W->xb.heap.size<=Bx->hrow W Bx (ruD x.2) 49->
   body.wpIn (Fence.wide.inRound l) 1 Tryz.prog (ownPostG xb.heap.size (KpC gm) (fun pre W=>OpI g1 g2 gm c1 c2 xb pre W/\xb.heap.size<=W.heap.size) (fun _ _ _=>False) (pre ++ [x]) W) { tmps:=(((A.setIfInBounds 13 (.int .i64 x.1)).setIfInBounds 14 (.agg (ruD x.2))).setIfInBounds 4 (.int .i64 x.1)).setIfInBounds 5 (.pointer (some ⟨Bx,0,none⟩)),defers:=[] } W)
  (hdone:∀ (D:Nat) (W:World),xb.heap.size<=D->OpI g1 g2 gm c1 c2 xb (backR R) W->W.heap[D]?=some (.deferred (some []))->Q .normal { tmps:=A,defers:=[{ target:=.collected D,args:=#[] }] } W):
  (Code.rangeFunc g #[13,14] assign body).wpIn Fence.wide 3 Tryz.prog Q { tmps:=A,defers:=[] } xb:=by
 refine wpIn_rangeFunc_ownH rfl (by omega) hg trivial (enters_of Tryz.func123 (by kernel_rfl) rfl) hseq kpC_t (fun W l o o' _ h hc _=>kpC_b W l o o' h hc) (Below.refl _ _) (fun _=>rfl)
  (fun pre W=>OpI g1 g2 gm c1 c2 xb pre W/\xb.heap.size<=W.heap.size) (fun _ _ _=>False) ?own (fun _ _ _ _ _ h _ _=>h) ⟨h0,Nat.le_refl _⟩ (AxR A xb.heap.size) ?ax ?assign ?body ?done ?stop
 case own=>exact OwnFrom.and (OpI.own (Nat.le_refl _) hgm) (fun _ _ _ _ h hg _=>Nat.le_trans h hg.size)
 case ax=>
  rintro x a' _ W W' row ⟨Bx,h1,h2,h3⟩ hg hr
  exact ⟨Bx,h1,h2.own hg hr,h3⟩
 case assign=>
  intro l pre x W K hI hK
  have h:=hassign l pre x W K hI.1 (fun Bx W' h1 h2 h3 h4 h5=>hK _ W' h1 h2 ⟨h3,Nat.le_trans hI.2 h1.size⟩ ⟨Bx,h4,h5,rfl⟩) hI.2
  simp [enR]
  exact h
 case body=>
  rintro l pre x a' W _ _ hI ⟨Bx,h1,h2,rfl⟩ _
  exact hbody l pre x Bx W hI.1 h1 h2
 case done=>
  rintro D xs W hD rfl hI hK
  exact hdone D W hD hI.1 hK
 case stop=>
  rintro D c pre W hD _ h _
  exact h.elim
end Go.Proofs.YtgjhepblpdnkcaaGreatDoor
namespace Go.Proofs.YtgjhepblpdnkcaaGreatDoor
open Go.RowKit Go.Shelf Go.ChangeMaps
attribute [local go_sem] Oper.semAt_some
set_option maxRecDepth 100000
set_option maxHeartbeats 8000000

theorem ntr_info:(Tryz.prog.info? 86).map (·.size)=some 6:=by decide +kernel
theorem rtr_info:(Tryz.prog.info? 29).map (·.size)=some 5:=by decide +kernel
theorem ntree_ld {y:World} {g:Nat} {v1 v2 v3 v4 v5 v6:Value} (h:hrow y g #[v1,v2,v3,v4,v5,v6] 86):(loadVar 86 ⟨g,0,none⟩).run Tryz.prog y=.ok (.agg #[v1,v2,v3,v4,v5,v6]) y:=
 run_loadVar_row (P:=Tryz.prog) y g _ _ _ _ _ h Tryz.underlying86 rfl (by show _=some 6;decide +kernel)
theorem load_rtree {ops:Array Oper} {rest:List Oper} {o:Oper} {a:Act} {w:World} {Q:Exit->Act->World->Prop} (hgd:o.guard=none) (x:Operand) (ho:o.op=.load 29 x)
  (g:Nat) (hx:a.eval x=.pointer (some ⟨g,0,none⟩)) (cs:Array Value) (hg:hrow w g cs 29) (hs:cs.size=5)
  (h:wpList Tryz.prog ops Q rest (a.put o.dst (.agg cs)) w):wpList Tryz.prog ops Q (o :: rest) a w:=
 wpList_load_row hgd _ x ho g hx _ _ _ _ hg.h Tryz.underlying29 rfl (hs ▸ rtr_info) h
theorem store_ntree {ops:Array Oper} {rest:List Oper} {o:Oper} {a:Act} {w:World} {Q:Exit->Act->World->Prop} (hgd:o.guard=none) (x y:Operand) (ho:o.op=.store 86 x y)
  (g:Nat) (cs old:Array Value) (hx:a.eval x=.pointer (some ⟨g,0,none⟩)) (hy:a.eval y=.agg cs) (hg:hrow w g old 86) (hs:cs.size=6) (hs0:old.size=6) (h1:cs.all (·.oneCell')=true)
  (h:wpList Tryz.prog ops Q rest (a.put o.dst undef) (w.setRow g cs)):wpList Tryz.prog ops Q (o :: rest) a w:=
 wpList_store_row hgd _ x y ho g _ hx hy _ _ hg.h (hs ▸ ntr_info) (by rw [hs,hs0]) h1 h
theorem setRow_same {w:World} {g:Nat} {cs:Array Value} {t:TypeId} (h:hrow w g cs t):w.setRow g cs=w:=by
 have h0:=h.h
 cases w with
 | mk heap tape drawn os output=>
  simp only [World.setRow,World.mk.injEq,and_true]
  apply Array.ext_getElem?
  intro k
  rw [Array.getElem?_modify]
  by_cases hk:g=k
  ·subst hk
   rw [if_pos rfl]
   have h1:heap[g]?=some (Obj.cells cs t (0,0)):=h0
   rw [h1];rfl
  ·rw [if_neg hk]
/-- The store of what stands there already, at a step of a drawn region. -/
theorem wpQuiet_store_same {P:Program} {ops:Array Oper} {C:World->Prop} {rest:List Oper} {o:Oper} {a:Act} {Q:Act->Prop} (hw:Region.wanted o (yielded ops a.tmps)=true) (ty:TypeId) (x y:Operand) (ho:o.op=.store ty x y)
  (g:Nat) (cs:Array Value) (hx:a.eval x=.pointer (some ⟨g,0,none⟩)) (hy:a.eval y=.agg cs) (t:TypeId) (hC:∀ w,C w->hrow w g cs t) (hi:(P.info? ty).map (·.size)=some cs.size) (h1:cs.all (·.oneCell')=true)
  (h:wpQuiet P ops C Q rest (a.put o.dst undef)):wpQuiet P ops C Q (o :: rest) a:=
 wpQuiet_step fun K hK=>by
  rw [if_pos hw]
  refine ⟨_,fun w hc=>?_,hK _ h⟩
  have hr:=run_storeVar_row (P:=P) w g t ty cs cs (hC w hc).h hi rfl h1
  rw [setRow_same (hC w hc)] at hr
  unfold Oper.quietAt execOp
  simp only [ho,hx,hy,Instr.storeAt,Instr.sureAddr,Sem.run_bind,Sem.run_pure,Result.andThen_ok,hr]
  exact ⟨rfl,rfl⟩
theorem results_ct {P:Program} {fn:Func} {p q:Tmp} {tp:TypeId} (h:fn.results=#[.cell p tp,.tmp q]) (tmps:Array Value) (w:World) (a:Addr) (u:Value)
  (hp:tmps.getD p undef=.pointer (some a)) (h1:(loadVar tp a).run P w=.ok u w):(results fn tmps).run P w=.ok (.tuple #[u,tmps.getD q undef]) w:=by
 have hp':tmps[p]?.getD undef=.pointer (some a):=by simpa using hp
 simp [results,h,hp',asAddr,h1]
theorem three0 (y:World) (g:Nat) (hg:y.heap.size=g) (a b:Array Value) (ta tb:TypeId):∃ z,(y.alloc (.cells a ta)).alloc (.cells b tb)=z/\hrow z g a ta/\hrow z (g+1) b tb/\Below y.heap.size y z:=by
 subst hg
 have h2:=hrow.new (y.alloc (.cells a ta)) b tb
 rw [World.size_alloc] at h2
 exact ⟨_,rfl,(hrow.new y a ta).below ((Below.refl _ _).alloc (Nat.le_refl _) _),h2,al2 (Below.refl _ _) _ _⟩
/-- What a tree at work is. -/
def OpnP (w:World) (c:Array Value) (R:List Ru) (b:Bool) (e:Ending) (w':World):Prop:=∃ gm,e=.returned (.tuple #[.agg (c.push (.map (some gm))),.bool b])/\MapS w' gm (fun s=>fixF R s 0)/\Below w.heap.size w w'
theorem open_any (w:World) (ro no ao bo co:Option Addr) (rc nn nc an ac bn bc cn cc:Nat) (R:List Ru) (hR:Sv w ro R.length rc 2 (R.flatMap ruc)) (hL:R.length<=1000000):
  Calls Tryz.prog 38 #[.agg #[.slice ro R.length rc,.slice no nn nc,.slice ao an ac,.slice bo bn bc,.slice co cn cc]] w fun e w'=>OpnP w #[.slice ro R.length rc,.slice no nn nc,.slice ao an ac,.slice bo bn bc,.slice co cn cc] R (decide (an=R.length) && (decide (bn=nn) && decide (cn=bn))) e w':=by
 have hmm:=@run_makeMap Tryz.prog
 obtain ⟨g,hg⟩:∃ g,w.heap.size=g:=⟨_,rfl⟩
 obtain ⟨z,hz,z1,z2,zb⟩:=three0 w g hg #[.slice ro R.length rc,.slice no nn nc,.slice ao an ac,.slice bo bn bc,.slice co cn cc] #[.slice none 0 0,.slice none 0 0,.slice none 0 0,.slice none 0 0,.slice none 0 0,.map none] 29 86
 have HRS:=Lib.hid (hR.below zb);have HL:=Lib.hid hL
 have HZ:=Lib.hid hz;have HG:=Lib.hid hg;have H1:=Lib.hid z1;have H2:=Lib.hid z2;have HB:=Lib.hid zb
 have hlt:∀ a,ro=some a->0 < R.length->a.block < g:=fun a ha h0=>by
  obtain ⟨a',e,hc⟩:=Sv.at ruc_len hR (by decide) 0 h0
  rw [ha] at e;cases e
  have:=World.block_lt_of_cell? w _ (hc 0 _ rfl)
  rw [add_block,add_block] at this
  omega
 have HLT:=Lib.hid hlt
 clear hR hL hz hg z1 z2 zb hlt
 refine (callsIn_wide (n:=3)).1 ?_
 refine callsIn_of_wp_marks Tryz.func38 rfl trivial ?_ rfl
 simp only [Tryz.ntmps38,List.size_toArray,List.length_cons,List.length_nil,Nat.reduceAdd,Nat.reduceSub,Array.replicate_succ,Array.replicate_zero,List.push_toArray,List.append_toArray,List.nil_append,List.cons_append]
 refine wpIn_wide.2 ?_
 go_upto_region 1 with (fail)
 rw [HZ.out,HG.out]
 have HS2:Hid (hrow (z.alloc (.map #[] 0)) (g+1) #[.slice none 0 0,.slice none 0 0,.slice none 0 0,.slice none 0 0,.slice none 0 0,.map none] 86):=H2.out.below ((Below.refl _ _).alloc (Nat.le_refl _) _)
 have HONE:Hid ((#[.slice ro R.length rc,.slice no nn nc,.slice ao an ac,.slice bo bn bc,.slice co cn cc,.map (some z.heap.size)]:Array Value).all (·.oneCell')=true):=by unfold Hid;simp [Value.oneCell']
 go_upto_region 2 with (first | (refine load_rtree rfl (.tmp 1) rfl g rfl _ H1.out rfl ?_) | (refine store_ntree rfl (.tmp 2) (.tmp 8) rfl (g+1) #[.slice ro R.length rc,.slice no nn nc,.slice ao an ac,.slice bo bn bc,.slice co cn cc,.map (some z.heap.size)] _ rfl rfl HS2.out rfl rfl HONE.out ?_))
 have hal:=(Below.refl z.heap.size z).alloc (Nat.le_refl _) (.map #[] 0)
 have hfs:=Fr.setRow (z.alloc (.map #[] 0)) (g+1) #[.slice ro R.length rc,.slice no nn nc,.slice ao an ac,.slice bo bn bc,.slice co cn cc,.map (some z.heap.size)]
 have HZS:Hid (z.heap.size=g+2):=by rw [← HZ.out,World.size_alloc,World.size_alloc,HG.out];rfl
 have hA5:hrow ((z.alloc (.map #[] 0)).setRow (g+1) #[.slice ro R.length rc,.slice no nn nc,.slice ao an ac,.slice bo bn bc,.slice co cn cc,.map (some z.heap.size)]) g #[.slice ro R.length rc,.slice no nn nc,.slice ao an ac,.slice bo bn bc,.slice co cn cc] 29:=(H1.out.below hal).fr hfs (fun e=>by omega)
 have hB5:hrow ((z.alloc (.map #[] 0)).setRow (g+1) #[.slice ro R.length rc,.slice no nn nc,.slice ao an ac,.slice bo bn bc,.slice co cn cc,.map (some z.heap.size)]) (g+1) #[.slice ro R.length rc,.slice no nn nc,.slice ao an ac,.slice bo bn bc,.slice co cn cc,.map (some z.heap.size)] 86:=setRow_heap _ _ _ _ _ _ HS2.out
 have hM5:MapS ((z.alloc (.map #[] 0)).setRow (g+1) #[.slice ro R.length rc,.slice no nn nc,.slice ao an ac,.slice bo bn bc,.slice co cn cc,.map (some z.heap.size)]) z.heap.size (putF []):=by
  have h0:(z.alloc (.map #[] 0)).heap[z.heap.size]?=some (.map #[] 0):=heap_alloc_new _ _
  refine ⟨#[],0,(hfs.block _ (by rw [World.size_alloc];omega) (fun e=>by have:=HZS.out;omega)).trans h0,fun x hx=>by simp at hx,fun s=>rfl⟩
 have hBw:Below w.heap.size w ((z.alloc (.map #[] 0)).setRow (g+1) #[.slice ro R.length rc,.slice no nn nc,.slice ao an ac,.slice bo bn bc,.slice co cn cc,.map (some z.heap.size)]):=(HB.out.trans (hal.mono HB.out.size)).trans (hfs.below (by have:=HG.out;rw [World.size_alloc];have:=HZS.out;omega) (fun k hk e=>by have:=HG.out;omega))
 have hR5:=(HRS.out.below hal).fr hfs (fun a ha hn e=>by
  have hn0:0 < R.length:=by rcases Nat.eq_zero_or_pos R.length with h | h;simp [h] at hn;exact h
  have:=HLT.out a ha hn0;omega)
 have HA5:=Lib.hid hA5;have HB5:=Lib.hid hB5;have HM5:=Lib.hid hM5;have HBW:=Lib.hid hBw;have HR5:=Lib.hid hR5
 clear hal hfs hA5 hB5 hM5 hBw hR5 HS2 HONE H1 H2 HB HRS
 revert HA5 HB5 HM5 HBW HR5 HZS
 generalize (z.alloc (.map #[] 0)).setRow (g+1) #[.slice ro R.length rc,.slice no nn nc,.slice ao an ac,.slice bo bn bc,.slice co cn cc,.map (some z.heap.size)]=z5
 generalize z.heap.size=gm
 intro HZS HA5 HB5 HM5 HBW HR5
 have k0:=HA5.out.cell 0
 go_wp2_with fail
 refine (rback_any _ _ _ _).mono ?_
 rintro e xb ⟨rfl,hxb⟩
 have hbb:Below z5.heap.size z5 xb:=by rw [hxb];exact (Below.refl _ _).alloc (Nat.le_refl _) _
 have HBX:=Lib.hid (show hrow xb z5.heap.size #[.slice ro R.length rc] 22 by rw [hxb];exact hrow.new _ _ _)
 have HGX:Hid (gm < z5.heap.size):=HM5.out.lt
 have HSQ:=Lib.hid (rback1_stops R ro rc z5.heap.size gm 2 xb (HBX.out.cell 0) (HR5.out.below hbb) (by have:=HGX.out;omega) (fun a ha h0 e=>by have:=HLT.out a ha h0;have:=HZS.out;omega) HL.out)
 have HI0:Hid (OpI g (g+1) gm #[.slice ro R.length rc,.slice no nn nc,.slice ao an ac,.slice bo bn bc,.slice co cn cc] #[.slice ro R.length rc,.slice no nn nc,.slice ao an ac,.slice bo bn bc,.slice co cn cc,.map (some gm)] xb [] xb):=⟨HA5.out.below hbb,HB5.out.below hbb,HM5.out.below hbb,Fr.refl _ _⟩
 have HGB:Hid (gm < xb.heap.size):=by have:=hbb.size;have:=HGX.out;unfold Hid;omega
 have HBE:=Lib.hid (HBW.out.trans (hbb.mono HBW.out.size))
 clear hbb hxb HA5 HB5 HM5 HBW HR5 HBX HGX k0
 go_wp2_with fail
 refine (wpIn_wide (n:=3)).1 ?_
 refine wpIn_backR rfl HSQ.out HGB.out HI0.out ?assign ?body ?done
 case assign=>
  intro l pre x W K hI hK hW
  have HK:=Lib.hid hK;have HI':=Lib.hid hI
  clear hK hI
  simp only [List.setIfInBounds_toArray,List.set_cons_succ,List.set_cons_zero] at HK ⊢
  unfold ruD at *
  gi_wp2
  have hb:=(Below.refl _ W).alloc (Nat.le_refl _) (.cells #[.string x.2.name,.int .i64 x.2.body] 49)
  exact HK.out W.heap.size _ ((KeepsOthers.alloc _ _).from _) (kpC_fr (Fr.of_below (F:=fun _=>False) hb) (fun _ e=>e.elim)) (HI'.out.below hb) hW (hrow.new _ _ _)
 case body=>
  intro l pre x Bx W hI hBx hW
  have HI':=Lib.hid hI
  have k5:=hI.b.cell 5
  have k9:=hW.cell 0
  obtain ⟨W',hmu,⟨es,clock,rfl⟩,hm⟩:=hI.m.put (P:=Tryz.prog) (t:=84) (kt:=9) (e:=3) strU (by kernel_rfl) x.2.name x.1
  have HMO:=Lib.hid (hI.more HGB.out (by have:=HZS.out;omega) (by have:=HZS.out;omega) hm)
  have HXW:=Lib.hid (Nat.le_trans hBx (Nat.le_of_lt hW.lt))
  clear hI hm hBx hW
  unfold ruD at *
  simp only [List.setIfInBounds_toArray,List.set_cons_succ,List.set_cons_zero]
  refine wpIn_block ?_
  gi_wp2
  exact ⟨HMO.out.1,HMO.out.2.1,HMO.out.2.2,Nat.le_trans HXW.out HMO.out.1.size⟩
 case done=>
  intro D W hD hI hK
  have HI':=Lib.hid hI
  have HK:=Lib.hid hK
  have HM:=Lib.hid (show MapS W gm (fun s=>fixF R s 0) by have:=hI.m;rwa [putF_all] at this)
  have HDX:=Lib.hid hD
  have HGX:Hid (g+1 < xb.heap.size):=HI0.out.b.lt
  have HBF:=Lib.hid (HBE.out.trans (hI.fr.below HBE.out.size (fun k hk e=>by have:=HZS.out;have:=HG.out;omega)))
  have HB6:=Lib.hid hI.b
  have HA6:=Lib.hid hI.a
  clear hI hK hD HSQ HI0 HI' HL HLT HBE
  obtain ⟨rn,hrn⟩:∃ n,R.length=n:=⟨_,rfl⟩
  rw [hrn] at HB6 HA6 ⊢
  have HRN:=Lib.hid hrn
  clear hrn
  have c0:∀ y:Later W,y.val.cell? ⟨g,0,none⟩=some (.slice ro rn rc):=fun y=>(HA6.out.below y.ok).cell 0
  have c1:∀ y:Later W,y.val.cell? ⟨g,1,none⟩=some (.slice no nn nc):=fun y=>(HA6.out.below y.ok).cell 1
  have c2:∀ y:Later W,y.val.cell? ⟨g,2,none⟩=some (.slice ao an ac):=fun y=>(HA6.out.below y.ok).cell 2
  have c3:∀ y:Later W,y.val.cell? ⟨g,3,none⟩=some (.slice bo bn bc):=fun y=>(HA6.out.below y.ok).cell 3
  have c4:∀ y:Later W,y.val.cell? ⟨g,4,none⟩=some (.slice co cn cc):=fun y=>(HA6.out.below y.ok).cell 4
  have HPT:=Lib.hid (later_all (fun y:Later W=>ntree_ld (HB6.out.below y.ok)))
  have HST:Hid (∀ z,(∃ y:Later W,z=y.val)->hrow z (g+1) #[.slice ro rn rc,.slice no nn nc,.slice ao an ac,.slice bo bn bc,.slice co cn cc,.map (some gm)] 86):=fun z ⟨y,e⟩=>by subst e;exact HB6.out.below y.ok
  have HONE:Hid ((#[.slice ro rn rc,.slice no nn nc,.slice ao an ac,.slice bo bn bc,.slice co cn cc,.map (some gm)]:Array Value).all (·.oneCell')=true):=by unfold Hid;simp [Value.oneCell']
  by_cases h1:an=rn
  ·have b1:((an:Int) == (rn:Int))=true:=by rw [h1];simp
   by_cases h2:bn=nn
   ·have b2:((bn:Int) == (nn:Int))=true:=by rw [h2];simp
    by_cases h3:cn=bn
    ·have b3:((cn:Int) == (bn:Int))=true:=by rw [h3];simp
     have HBB:Hid ((decide (an=rn) && (decide (bn=nn) && decide (cn=bn)))=true):=by unfold Hid;simp [h1,h2,h3]
     clear h1 h2 h3
     go_upto_region 6 with (fail)
     refine wp_region_later (by kernel_rfl) (by kernel_rfl) ?_
     repeat (first | go_big_quiet_step (fail) | (refine wpQuiet_load_part rfl 86 (.tmp 2) rfl ⟨g+1,0,none⟩ rfl _ HPT.out ?_;simp only [Act.put,List.setIfInBounds_toArray,List.set_cons_succ,List.set_cons_zero]) | (refine wpQuiet_store_same rfl 86 (.tmp 2) (.tmp 20) rfl (g+1) #[.slice ro rn rc,.slice no nn nc,.slice ao an ac,.slice bo bn bc,.slice co cn cc,.map (some gm)] rfl rfl 86 HST.out ntr_info HONE.out ?_;simp only [Act.put]))
     refine wpQuiet_nil ?_
     intro w5 hw5
     obtain ⟨y,rfl⟩:=hw5
     have HB7:=Lib.hid (HB6.out.below y.ok)
     have HM7:=Lib.hid (HM.out.below y.ok)
     have HF7:=Lib.hid (HBF.out.trans (y.ok.mono HBF.out.size))
     have HK7:Hid (y.val.heap[D]?=some (.deferred (some []))):=(y.ok.block D (Array.getElem?_eq_some_iff.1 HK.out).1).trans HK.out
     clear c0 c1 c2 c3 c4 HPT HB6 HA6 HM HBF HK HST
     generalize y.val=w6 at *
     clear y
     go_wp2_with fail
     have hgrow:=grownBy_putObj' w6 D (.deferred none)
     have hB9:=HB7.out.fr (Fr.grown hgrow) (fun e=>by cases e;have:=HDX.out;have:=HGX.out;omega)
     have hM9:=HM7.out.block (hgrow.block gm HM7.out.lt (fun e=>by cases e;have:=HDX.out;have:=HGB.out;omega))
     have hbl:=HF7.out.trans ((Fr.grown hgrow).below HF7.out.size (fun k hk e=>by cases e;have:=HDX.out;have:=HGX.out;have:=HG.out;omega))
     refine ⟨by simp,.inl ⟨_,_,rfl,run_takeDeferred HK7.out,?_⟩⟩
     refine ⟨_,results_ct rfl _ _ _ _ rfl (ntree_ld hB9),?_⟩
     rw [HRN.out,HBB.out]
     exact ⟨gm,rfl,hM9,hbl⟩
    ·have b3:((cn:Int) == (bn:Int))=false:=by rw [beq_eq_false_iff_ne];omega
     have HBB:Hid ((decide (an=rn) && (decide (bn=nn) && decide (cn=bn)))=false):=by unfold Hid;simp [h3]
     clear h1 h2 h3
     go_upto_region 6 with (fail)
     refine wp_region_later (by kernel_rfl) (by kernel_rfl) ?_
     repeat (first | go_big_quiet_step (fail) | (refine wpQuiet_load_part rfl 86 (.tmp 2) rfl ⟨g+1,0,none⟩ rfl _ HPT.out ?_;simp only [Act.put,List.setIfInBounds_toArray,List.set_cons_succ,List.set_cons_zero]) | (refine wpQuiet_store_same rfl 86 (.tmp 2) (.tmp 20) rfl (g+1) #[.slice ro rn rc,.slice no nn nc,.slice ao an ac,.slice bo bn bc,.slice co cn cc,.map (some gm)] rfl rfl 86 HST.out ntr_info HONE.out ?_;simp only [Act.put]))
     refine wpQuiet_nil ?_
     intro w5 hw5
     obtain ⟨y,rfl⟩:=hw5
     have HB7:=Lib.hid (HB6.out.below y.ok)
     have HM7:=Lib.hid (HM.out.below y.ok)
     have HF7:=Lib.hid (HBF.out.trans (y.ok.mono HBF.out.size))
     have HK7:Hid (y.val.heap[D]?=some (.deferred (some []))):=(y.ok.block D (Array.getElem?_eq_some_iff.1 HK.out).1).trans HK.out
     clear c0 c1 c2 c3 c4 HPT HB6 HA6 HM HBF HK HST
     generalize y.val=w6 at *
     clear y
     go_wp2_with fail
     have hgrow:=grownBy_putObj' w6 D (.deferred none)
     have hB9:=HB7.out.fr (Fr.grown hgrow) (fun e=>by cases e;have:=HDX.out;have:=HGX.out;omega)
     have hM9:=HM7.out.block (hgrow.block gm HM7.out.lt (fun e=>by cases e;have:=HDX.out;have:=HGB.out;omega))
     have hbl:=HF7.out.trans ((Fr.grown hgrow).below HF7.out.size (fun k hk e=>by cases e;have:=HDX.out;have:=HGX.out;have:=HG.out;omega))
     refine ⟨by simp,.inl ⟨_,_,rfl,run_takeDeferred HK7.out,?_⟩⟩
     refine ⟨_,results_ct rfl _ _ _ _ rfl (ntree_ld hB9),?_⟩
     rw [HRN.out,HBB.out]
     exact ⟨gm,rfl,hM9,hbl⟩
   ·have b2:((bn:Int) == (nn:Int))=false:=by rw [beq_eq_false_iff_ne];omega
    have HBB:Hid ((decide (an=rn) && (decide (bn=nn) && decide (cn=bn)))=false):=by unfold Hid;simp [h2]
    clear h1 h2
    go_upto_region 6 with (fail)
    refine wp_region_later (by kernel_rfl) (by kernel_rfl) ?_
    repeat (first | go_big_quiet_step (fail) | (refine wpQuiet_load_part rfl 86 (.tmp 2) rfl ⟨g+1,0,none⟩ rfl _ HPT.out ?_;simp only [Act.put,List.setIfInBounds_toArray,List.set_cons_succ,List.set_cons_zero]) | (refine wpQuiet_store_same rfl 86 (.tmp 2) (.tmp 20) rfl (g+1) #[.slice ro rn rc,.slice no nn nc,.slice ao an ac,.slice bo bn bc,.slice co cn cc,.map (some gm)] rfl rfl 86 HST.out ntr_info HONE.out ?_;simp only [Act.put]))
    refine wpQuiet_nil ?_
    intro w5 hw5
    obtain ⟨y,rfl⟩:=hw5
    have HB7:=Lib.hid (HB6.out.below y.ok)
    have HM7:=Lib.hid (HM.out.below y.ok)
    have HF7:=Lib.hid (HBF.out.trans (y.ok.mono HBF.out.size))
    have HK7:Hid (y.val.heap[D]?=some (.deferred (some []))):=(y.ok.block D (Array.getElem?_eq_some_iff.1 HK.out).1).trans HK.out
    clear c0 c1 c2 c3 c4 HPT HB6 HA6 HM HBF HK HST
    generalize y.val=w6 at *
    clear y
    go_wp2_with fail
    have hgrow:=grownBy_putObj' w6 D (.deferred none)
    have hB9:=HB7.out.fr (Fr.grown hgrow) (fun e=>by cases e;have:=HDX.out;have:=HGX.out;omega)
    have hM9:=HM7.out.block (hgrow.block gm HM7.out.lt (fun e=>by cases e;have:=HDX.out;have:=HGB.out;omega))
    have hbl:=HF7.out.trans ((Fr.grown hgrow).below HF7.out.size (fun k hk e=>by cases e;have:=HDX.out;have:=HGX.out;have:=HG.out;omega))
    refine ⟨by simp,.inl ⟨_,_,rfl,run_takeDeferred HK7.out,?_⟩⟩
    refine ⟨_,results_ct rfl _ _ _ _ rfl (ntree_ld hB9),?_⟩
    rw [HRN.out,HBB.out]
    exact ⟨gm,rfl,hM9,hbl⟩
  ·have b1:((an:Int) == (rn:Int))=false:=by rw [beq_eq_false_iff_ne];omega
   have HBB:Hid ((decide (an=rn) && (decide (bn=nn) && decide (cn=bn)))=false):=by unfold Hid;simp [h1]
   clear h1
   go_upto_region 6 with (fail)
   refine wp_region_later (by kernel_rfl) (by kernel_rfl) ?_
   repeat (first | go_big_quiet_step (fail) | (refine wpQuiet_load_part rfl 86 (.tmp 2) rfl ⟨g+1,0,none⟩ rfl _ HPT.out ?_;simp only [Act.put,List.setIfInBounds_toArray,List.set_cons_succ,List.set_cons_zero]) | (refine wpQuiet_store_same rfl 86 (.tmp 2) (.tmp 20) rfl (g+1) #[.slice ro rn rc,.slice no nn nc,.slice ao an ac,.slice bo bn bc,.slice co cn cc,.map (some gm)] rfl rfl 86 HST.out ntr_info HONE.out ?_;simp only [Act.put]))
   refine wpQuiet_nil ?_
   intro w5 hw5
   obtain ⟨y,rfl⟩:=hw5
   have HB7:=Lib.hid (HB6.out.below y.ok)
   have HM7:=Lib.hid (HM.out.below y.ok)
   have HF7:=Lib.hid (HBF.out.trans (y.ok.mono HBF.out.size))
   have HK7:Hid (y.val.heap[D]?=some (.deferred (some []))):=(y.ok.block D (Array.getElem?_eq_some_iff.1 HK.out).1).trans HK.out
   clear c0 c1 c2 c3 c4 HPT HB6 HA6 HM HBF HK HST
   generalize y.val=w6 at *
   clear y
   go_wp2_with fail
   have hgrow:=grownBy_putObj' w6 D (.deferred none)
   have hB9:=HB7.out.fr (Fr.grown hgrow) (fun e=>by cases e;have:=HDX.out;have:=HGX.out;omega)
   have hM9:=HM7.out.block (hgrow.block gm HM7.out.lt (fun e=>by cases e;have:=HDX.out;have:=HGB.out;omega))
   have hbl:=HF7.out.trans ((Fr.grown hgrow).below HF7.out.size (fun k hk e=>by cases e;have:=HDX.out;have:=HGX.out;have:=HG.out;omega))
   refine ⟨by simp,.inl ⟨_,_,rfl,run_takeDeferred HK7.out,?_⟩⟩
   refine ⟨_,results_ct rfl _ _ _ _ rfl (ntree_ld hB9),?_⟩
   rw [HRN.out,HBB.out]
   exact ⟨gm,rfl,hM9,hbl⟩
end Go.Proofs.YtgjhepblpdnkcaaGreatDoor
namespace Go.Proofs.YtgjhepblpdnkcaaGreatDoor
open Go.RowKit Go.ChangeMaps
set_option maxRecDepth 100000
set_option maxHeartbeats 8000000

/-- The first number of which something is so. -/
def frst (p:Nat->Bool):Nat->Nat->Option Nat
 | 0,_=>none
 | n+1,k=>if p k then some k else frst p n (k+1)
theorem frst_none {p:Nat->Bool}:∀ (n k:Nat),frst p n k=none ↔ ∀ j,k<=j->j < k+n->p j=false
 | 0,k=>by simp [frst];omega
 | n+1,k=>by
  unfold frst
  by_cases h:p k=true
  ·rw [if_pos h]
   constructor
   ·intro e;cases e
   ·intro e;have:=e k (Nat.le_refl _) (by omega);rw [h] at this;cases this
  ·rw [if_neg h,frst_none n (k+1)]
   constructor
   ·intro e j h1 h2
    rcases Nat.eq_or_lt_of_le h1 with h3 | h3
    ·subst h3;simpa using h
    ·exact e j (by omega) (by omega)
   ·intro e j h1 h2;exact e j (by omega) (by omega)
theorem frst_some {p:Nat->Bool}:∀ (n k i:Nat),frst p n k=some i->k<=i/\i < k+n/\p i=true/\∀ j,k<=j->j < i->p j=false
 | 0,k,i,h=>by simp [frst] at h
 | n+1,k,i,h=>by
  unfold frst at h
  by_cases hp:p k=true
  ·rw [if_pos hp] at h
   cases h
   exact ⟨Nat.le_refl _,by omega,hp,fun j h1 h2=>by omega⟩
  ·rw [if_neg hp] at h
   obtain ⟨h1,h2,h3,h4⟩:=frst_some n (k+1) i h
   refine ⟨by omega,by omega,h3,fun j g1 g2=>?_⟩
   rcases Nat.eq_or_lt_of_le g1 with h5 | h5
   ·subst h5;simpa using hp
   ·exact h4 j (by omega) g2
/-- What the first of them is told as. -/
def frV (o:Option Nat):Array Value:=match o with | some i=>#[.int .i64 i,.bool true] | none=>#[.int .i64 0,.bool false]
theorem first_any (w:World) (n:Nat) (hn:n<=1000000000) (p:Nat->Bool) (fn:Nat) (v:Value) (hen:∀ (args:Array Value) (x:World),(callFunc fn args).run Tryz.prog x=.ok (.enter fn args) x) (hf:∀ k,k < n->∀ x,Below w.heap.size w x->Calls Tryz.prog fn #[v,.int .i64 k] x fun e w'=>e=.returned (.bool (p k))/\Below x.heap.size x w'):
  Calls Tryz.prog 67 #[.int .i64 n,.func (.func fn) #[v] #[]] w fun e w'=>e=.returned (.tuple (frV (frst p n 0)))/\Below w.heap.size w w':=by
 have HF:=Lib.hid hf;have HN:=Lib.hid hn
 have HB:=Lib.hid (Below.refl w.heap.size w)
 clear hf hn
 go_enter Tryz.func67,Tryz.ntmps67
 go_wp2_with fail
 go_loopw [6,8] (fun _ v8 wr=>∃ k:Nat,k<=n/\v8=.int .i64 k/\Hid (frst p n 0=frst p (n - k) k)/\Hid (Below w.heap.size w wr)) (fun _ v8 _=>n - (intOf v8).toNat)
 case atStart=>exact ⟨0,Nat.zero_le _,rfl,rfl,HB.out⟩
 case round=>
  clear HB
  obtain ⟨k,hk,rfl,HE,HB⟩:=hrel
  by_cases hlt:k < n
  ·have hltI:(k:Int) < n:=by omega
   have hkb:(k:Int)+1<=1000000000:=by have:=HN.out;omega
   have HLT:=Lib.hid hlt
   have HC:=Lib.hid (HF.out k hlt wr HB.out)
   have HNX:Hid (frst p (n - k) k=if p k then some k else frst p (n - (k+1)) (k+1)):=by
    unfold Hid
    rw [show n - k=(n - (k+1))+1 by omega];rfl
   obtain ⟨b,hb⟩:∃ b,p k=b:=⟨_,rfl⟩
   rw [hb] at HC HNX
   clear hlt hk hb
   go_wp2_with fail
   refine HC.out.mono ?_
   rintro e x ⟨rfl,hb⟩
   have HB2:=Lib.hid (HB.out.trans (hb.mono HB.out.size))
   clear hb HB HC
   cases b with
   | true=>
    go_wp2_with fail
    go_ret2
    refine ⟨?_,HB2.out⟩
    rw [HE.out,HNX.out];rfl
   | false=>
    go_wp2_with fail
    go_roundw
    case rel=>exact ⟨k+1,by have:=HLT.out;omega,by go_num,by unfold Hid;rw [HE.out,HNX.out];rfl,HB2.out⟩
    case measure=>have:=HLT.out;simp [intOf];omega
  ·have hltI:¬ (k:Int) < n:=by omega
   obtain rfl:k=n:=by omega
   clear hlt hk
   go_wp2_with fail
   go_ret2
   refine ⟨?_,HB.out⟩
   rw [HE.out,Nat.sub_self];rfl
end Go.Proofs.YtgjhepblpdnkcaaGreatDoor
namespace Go.Proofs.YtgjhepblpdnkcaaGreatDoor
open Go.RowKit

/-- A node's cells, its kids' slice among them; and the same, as they lie at a node. -/
abbrev Nk:=Nd×(Option Addr×Nat)
/-- A tree's rows; each row's block has its tag. The nodes' cells are of NK, the kids' rows of NL. -/
structure TrR (w:World) (τ:Nat->Nat) (v1 v2 v3 v4 v5:Value) (R:List Ru) (NK NL:List Nk) (RA NA:List Int) (NM:List ByteArray):Prop where
 new:∀ k,w.heap.size<=k->τ k=0
 t2:RowT w τ 2 49 2 v1 R.length (R.flatMap ruc)
 t3:RowT w τ 3 45 9 v2 NK.length (NK.flatMap ndc)
 t4:RowT w τ 4 3 1 v3 RA.length (inc RA)
 t5:RowT w τ 5 3 1 v4 NA.length (inc NA)
 t6:RowT w τ 6 9 1 v5 NM.length (NM.map Value.string)
 kid:∀ i (h:i < NL.length),RowT w τ (7+i) 3 1 (.slice NL[i].2.1 NL[i].1.kids.length NL[i].2.2) NL[i].1.kids.length (inc NL[i].1.kids)
variable {w w':World} {gt:Nat} {τ:Nat->Nat} {v1 v2 v3 v4 v5 v':Value} {R:List Ru} {NK NL:List Nk} {RA NA:List Int} {NM:List ByteArray}
/-- What touches none of its blocks keeps it. -/
theorem TrR.fr {F:Nat->Prop} (h:TrR w τ v1 v2 v3 v4 v5 R NK NL RA NA NM) (hf:Fr F w w') (hF:∀ k,k < w.heap.size->2<=τ k->¬ F k):TrR w' τ v1 v2 v3 v4 v5 R NK NL RA NA NM where
 new:=fun k hk=>h.new k (Nat.le_trans hf.size hk)
 t2:=h.t2.keep hf (fun k hk e=>hF k hk (by omega)) (fun _ _=>rfl)
 t3:=h.t3.keep hf (fun k hk e=>hF k hk (by omega)) (fun _ _=>rfl)
 t4:=h.t4.keep hf (fun k hk e=>hF k hk (by omega)) (fun _ _=>rfl)
 t5:=h.t5.keep hf (fun k hk e=>hF k hk (by omega)) (fun _ _=>rfl)
 t6:=h.t6.keep hf (fun k hk e=>hF k hk (by omega)) (fun _ _=>rfl)
 kid:=fun i hi=>(h.kid i hi).keep hf (fun k hk e=>hF k hk (by omega)) (fun _ _=>rfl)
theorem TrR.below (h:TrR w τ v1 v2 v3 v4 v5 R NK NL RA NA NM) (hb:Below w.heap.size w w'):TrR w' τ v1 v2 v3 v4 v5 R NK NL RA NA NM:=
 h.fr (F:=fun _=>False) (Fr.of_below hb) (fun _ _ _=>id)
theorem tag_new {g:Nat} (hn:∀ k,w.heap.size<=k->τ k=0) (hs:w.heap.size<=w'.heap.size):∀ k,w'.heap.size<=k->tagN τ w.heap.size w'.heap.size g k=0:=fun k hk=>(tagN_new hk).trans (hn k (Nat.le_trans hs hk))
theorem TrR.rule (h:TrR w τ v1 v2 v3 v4 v5 R NK NL RA NA NM) (r:Ru) (ho:w'.ownsRow 0 49 2 v' (R.length+1) (R.flatMap ruc ++ ruc r)) (hg:w.grownBy w' v1.ownBlock) (hb:∀ k,v'.ownBlock=some k->v1.ownBlock=some k∨w.heap.size<=k):
  TrR w' (tagN τ w.heap.size w'.heap.size 2) v' v2 v3 v4 v5 (R ++ [r]) NK NL RA NA NM where
 new:=tag_new h.new hg.size
 t2:=h.t2.step (by rw [List.length_append,List.flatMap_append];simpa using ho) hb
 t3:=h.t3.beside h.t2 (by decide) hg
 t4:=h.t4.beside h.t2 (by decide) hg
 t5:=h.t5.beside h.t2 (by decide) hg
 t6:=h.t6.beside h.t2 (by decide) hg
 kid:=fun i hi=>(h.kid i hi).beside h.t2 (by omega) hg
theorem TrR.node (h:TrR w τ v1 v2 v3 v4 v5 R NK NL RA NA NM) (x:Nk) (ho:w'.ownsRow 0 45 9 v' (NK.length+1) (NK.flatMap ndc ++ ndc x)) (hg:w.grownBy w' v2.ownBlock) (hb:∀ k,v'.ownBlock=some k->v2.ownBlock=some k∨w.heap.size<=k) (hx:x.1.kids=[]) (hx2:x.2=(none,0)):
  TrR w' (tagN τ w.heap.size w'.heap.size 3) v1 v' v3 v4 v5 R (NK ++ [x]) (NL ++ [x]) RA NA NM where
 new:=tag_new h.new hg.size
 t2:=h.t2.beside h.t3 (by decide) hg
 t3:=h.t3.step (by rw [List.length_append,List.flatMap_append];simpa using ho) hb
 t4:=h.t4.beside h.t3 (by decide) hg
 t5:=h.t5.beside h.t3 (by decide) hg
 t6:=h.t6.beside h.t3 (by decide) hg
 kid:=fun i hi=>by
  rcases Nat.lt_or_ge i NL.length with h1 | h1
  ·rw [List.getElem_append_left h1]
   exact (h.kid i h1).beside h.t3 (by omega) hg
  ·have h2:i=NL.length:=by simp at hi;omega
   subst h2
   rw [List.getElem_append_right (Nat.le_refl _)]
   simp only [Nat.sub_self,List.getElem_cons_zero,hx,hx2]
   exact RowT.nil _ _ _ _ _
theorem TrR.ra (h:TrR w τ v1 v2 v3 v4 v5 R NK NL RA NA NM) (x:Int) (ho:w'.ownsRow 0 3 1 v' (RA.length+1) (inc RA ++ [.int .i64 x])) (hg:w.grownBy w' v3.ownBlock) (hb:∀ k,v'.ownBlock=some k->v3.ownBlock=some k∨w.heap.size<=k):
  TrR w' (tagN τ w.heap.size w'.heap.size 4) v1 v2 v' v4 v5 R NK NL (RA ++ [x]) NA NM where
 new:=tag_new h.new hg.size
 t2:=h.t2.beside h.t4 (by decide) hg
 t3:=h.t3.beside h.t4 (by decide) hg
 t4:=h.t4.step (by rw [List.length_append];simpa [inc] using ho) hb
 t5:=h.t5.beside h.t4 (by decide) hg
 t6:=h.t6.beside h.t4 (by decide) hg
 kid:=fun i hi=>(h.kid i hi).beside h.t4 (by omega) hg
theorem TrR.na (h:TrR w τ v1 v2 v3 v4 v5 R NK NL RA NA NM) (x:Int) (ho:w'.ownsRow 0 3 1 v' (NA.length+1) (inc NA ++ [.int .i64 x])) (hg:w.grownBy w' v4.ownBlock) (hb:∀ k,v'.ownBlock=some k->v4.ownBlock=some k∨w.heap.size<=k):
  TrR w' (tagN τ w.heap.size w'.heap.size 5) v1 v2 v3 v' v5 R NK NL RA (NA ++ [x]) NM where
 new:=tag_new h.new hg.size
 t2:=h.t2.beside h.t5 (by decide) hg
 t3:=h.t3.beside h.t5 (by decide) hg
 t4:=h.t4.beside h.t5 (by decide) hg
 t5:=h.t5.step (by rw [List.length_append];simpa [inc] using ho) hb
 t6:=h.t6.beside h.t5 (by decide) hg
 kid:=fun i hi=>(h.kid i hi).beside h.t5 (by omega) hg
theorem TrR.nm (h:TrR w τ v1 v2 v3 v4 v5 R NK NL RA NA NM) (x:ByteArray) (ho:w'.ownsRow 0 9 1 v' (NM.length+1) (NM.map Value.string ++ [.string x])) (hg:w.grownBy w' v5.ownBlock) (hb:∀ k,v'.ownBlock=some k->v5.ownBlock=some k∨w.heap.size<=k):
  TrR w' (tagN τ w.heap.size w'.heap.size 6) v1 v2 v3 v4 v' R NK NL RA NA (NM ++ [x]) where
 new:=tag_new h.new hg.size
 t2:=h.t2.beside h.t6 (by decide) hg
 t3:=h.t3.beside h.t6 (by decide) hg
 t4:=h.t4.beside h.t6 (by decide) hg
 t5:=h.t5.beside h.t6 (by decide) hg
 t6:=h.t6.step (by rw [List.length_append];simpa using ho) hb
 kid:=fun i hi=>(h.kid i hi).beside h.t6 (by omega) hg
/-- A kid more. -/
def kidP (x:Nk) (k:Int) (q:Option Addr×Nat):Nk:=({ x.1 with kids:=x.1.kids ++ [k] },q)
theorem TrR.kd (h:TrR w τ v1 v2 v3 v4 v5 R NK NL RA NA NM) {n:Nat} (hn:n < NL.length) (k:Int) (q:Option Addr×Nat)
  (ho:w'.ownsRow 0 3 1 (.slice q.1 (NL[n].1.kids.length+1) q.2) (NL[n].1.kids.length+1) (inc NL[n].1.kids ++ [.int .i64 k])) (hg:w.grownBy w' (Value.slice NL[n].2.1 NL[n].1.kids.length NL[n].2.2).ownBlock)
  (hb:∀ b,(Value.slice q.1 (NL[n].1.kids.length+1) q.2).ownBlock=some b->(Value.slice NL[n].2.1 NL[n].1.kids.length NL[n].2.2).ownBlock=some b∨w.heap.size<=b):
  TrR w' (tagN τ w.heap.size w'.heap.size (7+n)) v1 v2 v3 v4 v5 R NK (NL.set n (kidP NL[n] k q)) RA NA NM where
 new:=tag_new h.new hg.size
 t2:=h.t2.beside (h.kid n hn) (by omega) hg
 t3:=h.t3.beside (h.kid n hn) (by omega) hg
 t4:=h.t4.beside (h.kid n hn) (by omega) hg
 t5:=h.t5.beside (h.kid n hn) (by omega) hg
 t6:=h.t6.beside (h.kid n hn) (by omega) hg
 kid:=fun i hi=>by
  have hi':i < NL.length:=by simpa using hi
  by_cases he:n=i
  ·subst he
   rw [List.getElem_set_self]
   have:=(h.kid n hn).step ho hb
   simpa [kidP,inc] using this
  ·rw [List.getElem_set_ne he]
   exact (h.kid i hi').beside (h.kid n hn) (by omega) hg
theorem set9_8 (l r:List Value) (hl:l.length=9) (u:Value):(l ++ r).set 8 u=l.set 8 u ++ r:=by
 rw [List.set_append_left _ _ (by omega)]
theorem ndc_kidP (x:Nk) (k:Int) (q:Option Addr×Nat):(ndc x).set 8 (.slice q.1 (x.1.kids.length+1) q.2)=ndc (kidP x k q):=by
 simp [ndc,kidP]
theorem flat_kid:∀ (NK:List Nk) (n:Nat) (hn:n < NK.length) (k:Int) (q:Option Addr×Nat),(NK.flatMap ndc).set (n * 9+8) (.slice q.1 (NK[n].1.kids.length+1) q.2)=(NK.set n (kidP NK[n] k q)).flatMap ndc
 | x :: NK,0,_,k,q=>by
  simp only [List.flatMap_cons,Nat.zero_mul,Nat.zero_add,List.getElem_cons_zero,List.set_cons_zero]
  rw [set9_8 _ _ (ndc_len x),ndc_kidP]
 | x :: NK,n+1,hn,k,q=>by
  simp only [List.flatMap_cons,List.getElem_cons_succ,List.set_cons_succ]
  rw [List.set_append_right _ _ (by rw [ndc_len];omega),ndc_len,show (n+1) * 9+8 - 9=n * 9+8 by omega,flat_kid NK n (by simpa using hn) k q]
/-- The kids' slice is laid into the node's cell. -/
theorem TrR.lay (h:TrR w τ v1 v2 v3 v4 v5 R NK NL RA NA NM) {g c n:Nat} (hv:v2=.slice (some ⟨g,0,none⟩) NK.length c) (hn:n < NK.length) (k:Int) (q:Option Addr×Nat):
  TrR (w.setCell ⟨g,n * 9+8,none⟩ (.slice q.1 (NK[n].1.kids.length+1) q.2)) τ v1 v2 v3 v4 v5 R (NK.set n (kidP NK[n] k q)) NL RA NA NM:=by
 subst hv
 have htg:τ g=3:=h.t3.2 g rfl
 have hf:=Fr.setCell w ⟨g,n * 9+8,none⟩ (.slice q.1 (NK[n].1.kids.length+1) q.2)
 have hs:=(h.t3.1.stored (n * 9+8) (.slice q.1 (NK[n].1.kids.length+1) q.2)).1
 exact {
  new:=fun b hb=>h.new b (Nat.le_trans hf.size hb)
  t2:=h.t2.keep hf (fun b _ e hg=>by have hg':b=g:=hg;subst hg';omega) (fun _ _=>rfl)
  t3:=⟨by rw [List.length_set,← flat_kid NK n hn k q];exact hs,h.t3.2⟩
  t4:=h.t4.keep hf (fun b _ e hg=>by have hg':b=g:=hg;subst hg';omega) (fun _ _=>rfl)
  t5:=h.t5.keep hf (fun b _ e hg=>by have hg':b=g:=hg;subst hg';omega) (fun _ _=>rfl)
  t6:=h.t6.keep hf (fun b _ e hg=>by have hg':b=g:=hg;subst hg';omega) (fun _ _=>rfl)
  kid:=fun i hi=>(h.kid i hi).keep hf (fun b _ e hg=>by have hg':b=g:=hg;subst hg';omega) (fun _ _=>rfl) }
end Go.Proofs.YtgjhepblpdnkcaaGreatDoor
