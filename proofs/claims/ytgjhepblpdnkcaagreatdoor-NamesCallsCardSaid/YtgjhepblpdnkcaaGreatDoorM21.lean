/- Walks and plain laws: Perm La Lc. -/
import Derived.Test.YtgjhepblpdnkcaaGreatDoorM02
import Derived.OrdersHeld
import Derived.Deep.RegionHeld3
import Derived.Test.YtgjhepblpdnkcaaGreatDoorM17
namespace Go
open Go.RowKit

section
variable {P:Program} {ops:Array Oper} {md:Region.Mode} {C:World->Prop}

/-- Of each operation, the bits of all that it waits for, at first hand or through others. -/
def Region.ancs (md:Region.Mode):List Oper->Array Nat->Array Nat
 | [],acc=>acc
 | o :: r,acc=>Region.ancs md r (acc.push (o.after.toList.foldr (fun e s=>if Region.binds md e then 2 ^ e.on ||| acc.getD e.on 0 ||| s else s) 0))

/-- All that j waits for at first hand has come up. -/
def Region.Direct (md:Region.Mode) (ops:Array Oper) (listed:Array Bool) (j:Nat):Prop:=
 ∀ oj,ops[j]?=some oj->∀ e ∈ oj.after,Region.binds md e=true->listed.getD e.on false=true

theorem fold_bits {acc:Array Nat} {j:Nat}:∀ (es:List Edge),(es.foldr (fun e s=>if Region.binds md e then 2 ^ e.on ||| acc.getD e.on 0 ||| s else s) 0).testBit j=true->
  ∃ e ∈ es,Region.binds md e=true/\(e.on=j∨(acc.getD e.on 0).testBit j=true)
 | [],h=>by simp at h
 | e :: r,h=>by
  simp only [List.foldr_cons] at h
  split at h
  ·rename_i hb
   rw [Nat.testBit_or,Nat.testBit_or,Nat.testBit_two_pow] at h
   simp only [Bool.or_eq_true,decide_eq_true_eq] at h
   rcases h with (h | h) | h
   ·exact ⟨e,by simp,hb,.inl h⟩
   ·exact ⟨e,by simp,hb,.inr h⟩
   ·obtain ⟨e',h1,h2⟩:=fold_bits r h
    exact ⟨e',by simp [h1],h2⟩
  ·obtain ⟨e',h1,h2⟩:=fold_bits r h
   exact ⟨e',by simp [h1],h2⟩

theorem ancs_spec {listed:Array Bool} (hcl:∀ j,listed.getD j false=true->Region.Direct md ops listed j):∀ (l:List Oper) (acc:Array Nat),(∀ k,l[k]?=ops[acc.size+k]?)->
  (∀ t,t < acc.size->Region.Direct md ops listed t->∀ j,(acc.getD t 0).testBit j=true->listed.getD j false=true)->
  ∀ t,Region.Direct md ops listed t->∀ j,((Region.ancs md l acc).getD t 0).testBit j=true->listed.getD j false=true
 | [],acc,_,hacc=>by
  intro t hd j hj
  simp only [Region.ancs] at hj
  rcases Nat.lt_or_ge t acc.size with h | h
  ·exact hacc t h hd j hj
  ·simp [Array.getD,Nat.not_lt.2 h] at hj
 | o :: r,acc,hl,hacc=>by
  refine ancs_spec hcl r _ (fun k=>?_) ?_
  ·have:=hl (k+1)
   simp only [List.getElem?_cons_succ] at this
   rw [this];congr 1;simp;omega
  ·intro t ht hd j hj
   simp only [Array.size_push] at ht
   rcases Nat.lt_or_ge t acc.size with h | h
   ·refine hacc t h hd j ?_
    simpa [Array.getD,h,Nat.lt_succ_of_lt h,Array.getElem_push_lt h] using hj
   ·have hte:t=acc.size:=by omega
    subst hte
    have h0:ops[acc.size]?=some o:=by have:=hl 0;simpa using this.symm
    have hj':(o.after.toList.foldr (fun e s=>if Region.binds md e then 2 ^ e.on ||| acc.getD e.on 0 ||| s else s) 0).testBit j=true:=by
     simpa [Array.getD] using hj
    obtain ⟨e,he,hb,h1⟩:=fold_bits _ hj'
    have hon:=hd o h0 e (by simpa using he) hb
    rcases h1 with h1 | h1
    ·rw [← h1];exact hon
    ·rcases Nat.lt_or_ge e.on acc.size with h2 | h2
     ·exact hacc _ h2 (hcl _ hon) j h1
     ·simp [Array.getD,Nat.not_lt.2 h2] at h1

/-- While heads come up. -/
structure HeadInv2 (md:Region.Mode) (ops:Array Oper) (listed:Array Bool):Prop where
 size:listed.size=ops.size
 closed:∀ j,listed.getD j false=true->Region.Direct md ops listed j

def Region.closedB (md:Region.Mode) (ops:Array Oper) (listed:Array Bool):Bool:=
 decide (listed.size=ops.size) && (List.range ops.size).all fun j=>!listed.getD j false || ((ops[j]?).map (·.after.all fun e=>!Region.binds md e || listed.getD e.on false)).getD true

theorem HeadInv2.of_closedB {listed:Array Bool} (h:Region.closedB md ops listed=true):HeadInv2 md ops listed:=by
 simp only [Region.closedB,Bool.and_eq_true,decide_eq_true_eq,List.all_eq_true] at h
 refine ⟨h.1,fun j hj oj ho e he hb=>?_⟩
 have hlt:j < ops.size:=(Array.getElem?_eq_some_iff.1 ho).1
 have h2:=h.2 j (List.mem_range.2 hlt)
 simp only [hj,Bool.not_true,Bool.false_or,ho,Option.map_some,Option.getD_some,Array.all_eq_true_iff_forall_mem] at h2
 have h3:=h2 e he
 simpa [hb] using h3

/-- Whatever has not come up, and is none of all, waits for all of hs. -/
def Region.sink2 (md:Region.Mode) (ops:Array Oper) (all hs:List Nat) (listed:Array Bool):Bool:=
 let b:=Region.ancs md ops.toList #[]
 (List.range ops.size).all fun t=>all.contains t || listed.getD t true || hs.all fun i=>(b.getD t 0).testBit i

theorem HeadInv2.set {i:Nat} {listed:Array Bool} (inv:HeadInv2 md ops listed) (hi:i ∈ Region.ready md ops listed):HeadInv2 md ops (listed.setIfInBounds i true):=by
 obtain ⟨_,oi,hoi,hall⟩:=mem_ready.1 hi
 refine ⟨by simp [inv.size],fun j hl oj hj e he hb=>?_⟩
 by_cases hij:i=j
 ·subst hij
  have:oj=oi:=Option.some.inj (hj.symm.trans hoi)
  subst this
  exact getD_set_true (hall e he hb)
 ·rw [getD_set_ne false hij] at hl
  exact getD_set_true (inv.closed j hl oj hj e he hb)

theorem tail_waits2 {all hs:List Nat} {listed0 listed:Array Bool} (hk:Region.sink2 md ops all hs listed0=true) (hmo:∀ t,listed0.getD t true=true->listed.getD t true=true) (inv:HeadInv2 md ops listed) {i t:Nat} (hi:hs.contains i=true) (hun:listed.getD i true=false)
  (ht:t ∈ Region.ready md ops listed):all.contains t=true:=by
 obtain ⟨htu,ot,hot,hall⟩:=mem_ready.1 ht
 have htlt:t < ops.size:=(Array.getElem?_eq_some_iff.1 hot).1
 have h1:=List.all_eq_true.1 hk t (List.mem_range.2 htlt)
 simp only [Bool.or_eq_true] at h1
 rcases h1 with (h1 | h1) | h1
 ·exact h1
 ·rw [hmo t h1] at htu;cases htu
 ·have h2:=List.all_eq_true.1 h1 i (by simpa using hi)
  have:=ancs_spec (md:=md) (ops:=ops) inv.closed ops.toList #[] (fun k=>by simp) (fun t ht=>by simp at ht) t (fun oj hoj e he hb=>by
   have:oj=ot:=Option.some.inj (hoj.symm.trans hot)
   subst this;exact hall e he hb) i h2
  rw [getD_both hun] at this
  cases this

theorem mono_set {listed0 listed:Array Bool} {i:Nat} (h:∀ t,listed0.getD t true=true->listed.getD t true=true):∀ t,listed0.getD t true=true->(listed.setIfInBounds i true).getD t true=true:=by
 intro t ht
 by_cases hit:i=t
 ·subst hit
  rcases Nat.lt_or_ge i listed.size with h1 | h1
  ·simp [h1]
  ·simp [h1]
 ·rw [getD_set_ne true hit];exact h t ht

def Region.setAll:List Nat->Array Bool->Array Bool
 | [],listed=>listed
 | k :: r,listed=>Region.setAll r (listed.setIfInBounds k true)

def Region.permHead (md:Region.Mode) (ops:Array Oper):List Nat->Array Bool->Bool
 | [],_=>true
 | k :: r,listed=>(Region.ready md ops listed).contains k && Region.free md ops listed k && Region.permHead md ops r (listed.setIfInBounds k true)

def Region.headsB (md:Region.Mode) (ops:Array Oper) (all hs:List Nat) (listed:Array Bool):Bool:=
 Region.noSelect ops && Region.closedB md ops listed && Region.sink2 md ops all hs listed && (hs.all fun i=>all.contains i) && Region.permHead md ops hs listed

def pickOps (l:List Oper):List Nat->List Oper
 | []=>[]
 | i :: is=>l.getD i default :: pickOps l is

def Region.seqL (md:Region.Mode) (ops:Array Oper):List Nat->Array Bool->Bool
 | [],listed=>(Region.ready md ops listed).isEmpty
 | k :: r,listed=>decide (Region.ready md ops listed=[k]) && Region.seqL md ops r (listed.setIfInBounds k true)

theorem wpAny_seq' {Q':Exit->Act->World->Prop}:∀ (ts:List Nat) (l:List Oper) (listed:Array Bool) (a:Act) (w:World),ts.map (fun k=>ops[k]?)=l.map some->
  Region.seqL md ops ts listed=true->wpList P ops Q' l a w->wpAny P md ops Q' ts.length listed a w
 | [],l,_,_,_,hl,hB,h=>by
  have:l=[]:=by simpa using hl.symm
  subst this
  exact ⟨by simpa [Region.seqL] using hB,h⟩
 | k :: ts,l,listed,a,w,hl,hB,h=>by
  match l,hl with
  | o :: l,hl'=>
   simp only [List.map_cons,List.cons.injEq] at hl'
   obtain ⟨h0,hl2⟩:=hl'
   simp only [Region.seqL,Bool.and_eq_true,decide_eq_true_eq] at hB
   refine ⟨fun h1=>(by rw [hB.1] at h1;cases h1),fun i hi=>?_⟩
   rw [hB.1] at hi
   have hik:i=k:=by simpa using hi
   subst hik
   have hw:wpOp P ops Q' i (wpList P ops Q' l) a w:=by unfold wpOp;simp only [h0];exact h
   exact wpOp_mono (fun a' w' h'=>wpAny_seq' ts l _ a' w' hl2 hB.2 h') hw

/-- The tail ts, in its one order. -/
theorem wpAny_tail {Q:Exit->Act->World->Prop} {l:List Oper} {listed:Array Bool} {a:Act} {w:World} (ts:List Nat) (hB:Region.seqL md l.toArray ts listed=true)
  (h1:ts.map (fun k=>l.toArray[k]?)=(pickOps l ts).map some) (h:wpList P l.toArray Q (pickOps l ts) a w):wpAny P md l.toArray Q ts.length listed a w:=
 wpAny_seq' ts _ listed a w h1 hB h

end
end Go
namespace Go

section
variable {P:Program} {ops:Array Oper} {md:Region.Mode} {Q:Exit->Act->World->Prop} {S:World->Prop}

theorem wpT_then {o:Oper} {K:Act->World->Prop} {a:Act} {w:World} (h:o.wp P a w K (Exit.then K Q)):o.wp P a w K Q:=by
 unfold Oper.wp at *
 generalize (execOp a.eval o).run P w=r at *
 cases r with
 | ok x w'=>
  cases x <;> simp only [Oper.upon] at h ⊢ <;>
   first
    | exact h
    | exact Calls.mono h (fun e w'' he=>by cases e <;> exact he)
 | halt x w'=>cases x <;> simp only [Oper.upon] at h ⊢ <;> exact h
theorem wpOp_of_list1 {i:Nat} {o:Oper} {K:Act->World->Prop} {a:Act} {w:World} (hi:ops[i]?=some o) (h:wpList P ops (Exit.then K Q) [o] a w):wpOp P ops Q i K a w:=by
 unfold wpOp
 rw [hi]
 simp only [wpList] at h ⊢
 split at h
 ·rename_i hw;rw [if_pos hw];exact h.imp wpT_then (fun h=>⟨h.1,h.2⟩)
 ·rename_i hw;rw [if_neg hw];exact h

/-- Up to a tail: S holds behind every operation. -/
def wpAnyT (P:Program) (md:Region.Mode) (ops:Array Oper) (Q:Exit->Act->World->Prop) (S:World->Prop) (all:List Nat) (g:Nat):Nat->Array Bool->Act->World->Prop
 | 0,listed,a,w=>(∀ i ∈ Region.ready md ops listed,all.contains i=false)/\wpAny P md ops Q g listed a w
 | f+1,listed,a,w=>Region.ready md ops listed ≠ []/\∀ i ∈ Region.ready md ops listed,all.contains i=true/\wpOp P ops Q i (fun a' w'=>S w'/\wpAnyT P md ops Q S all g f (listed.setIfInBounds i true) a' w') a w

theorem wpAny_of_T {all:List Nat} {g:Nat}:∀ (f:Nat) (listed:Array Bool) (a:Act) (w:World),wpAnyT P md ops Q S all g f listed a w->wpAny P md ops Q (f+g) listed a w
 | 0,_,_,_,h=>by rw [Nat.zero_add];exact h.2
 | f+1,_,_,_,h=>by
  rw [show f+1+g=(f+g)+1 by omega]
  exact ⟨fun e=>absurd e h.1,fun i hi=>wpOp_mono (fun a' w' h'=>wpAny_of_T f _ a' w' h'.2) (h.2 i hi).2⟩

theorem wpAnyT_first {all hs:List Nat} {g:Nat} {listed0:Array Bool} {i:Nat} {oi:Oper} {v:Value} (hi:ops[i]?=some oi) (hsel:∀ (j:Nat) (o:Oper) cs b,ops[j]?=some o->o.op ≠ .select cs b)
  (hin:all.contains i=true) (hih:hs.contains i=true) (hk:Region.sink2 md ops all hs listed0=true) (hQ:∀ c a w,Q (.panic c) (a.put oi.dst v) w->Q (.panic c) a w):
  ∀ (f:Nat) (listed:Array Bool) (a:Act) (w:World),HeadInv2 md ops listed->(∀ t,listed0.getD t true=true->listed.getD t true=true)->
   (∀ j oj,ops[j]?=some oj->j ≠ i->listed.getD j true=false->(∀ e ∈ oj.after,Region.binds md e=true->e.on ≠ i)->oi.apart ops oj=true)->
   i ∈ Region.ready md ops listed->YieldsIf P ops S oi v a->S w->
   wpAnyT P md ops Q S all g f (listed.setIfInBounds i true) (a.put oi.dst v) w->wpAnyT P md ops Q S all g (f+1) listed a w:=by
 intro f
 induction f with
 | zero=>
  intro listed a w inv hmo _ hr hy hS H
  have hun:=(mem_ready.1 hr).1
  refine ⟨fun h=>(by rw [h] at hr;cases hr),fun j hj=>?_⟩
  by_cases hji:j=i
  ·subst hji;exact ⟨hin,hy.wpOp hi hS ⟨hS,H⟩⟩
  ·have h1:=H.1 j (ready_mono hj hji)
   have h2:=tail_waits2 hk hmo inv hih hun hj
   rw [h1] at h2;cases h2
 | succ f ih=>
  intro listed a w inv hmo hfree hr hy hS H
  have hun:=(mem_ready.1 hr).1
  refine ⟨fun h=>(by rw [h] at hr;cases hr),fun j hj=>?_⟩
  by_cases hji:j=i
  ·subst hji;exact ⟨hin,hy.wpOp hi hS ⟨hS,H⟩⟩
  ·obtain ⟨hc,h1⟩:=H.2 j (ready_mono hj hji)
   refine ⟨hc,?_⟩
   obtain ⟨hjun,oj,hoj,hall⟩:=mem_ready.1 hj
   have hnot:∀ e ∈ oj.after,Region.binds md e=true->e.on ≠ i:=fun e he hb heq=>by
    have h1:=hall e he hb
    rw [heq,getD_both hun] at h1
    cases h1
   have h2:=wpOp_putIf hoj (hfree j oj hoj hji hjun hnot) (fun cs b=>hsel i oi cs b hi) (fun cs b=>hsel j oj cs b hoj) hQ hy h1
   have hfree':∀ k ok,ops[k]?=some ok->k ≠ i->(listed.setIfInBounds j true).getD k true=false->
     (∀ e ∈ ok.after,Region.binds md e=true->e.on ≠ i)->oi.apart ops ok=true:=fun k ok hk hki hun hno=>by
    refine hfree k ok hk hki ?_ hno
    by_cases hjk:j=k
    ·subst hjk;exact hjun
    ·rw [getD_set_ne true hjk] at hun;exact hun
   refine wpOp_mono (fun a' w' h3=>⟨h3.2.1,ih (listed.setIfInBounds j true) a' w' (inv.set hj) (mono_set hmo) hfree' (ready_mono hr (Ne.symm hji)) h3.1 h3.2.1 ?_⟩) h2
   rw [Array.setIfInBounds_comm _ _ hji]
   exact h3.2.2

/-- Operations that read, one behind the other. -/
def wpRead (P:Program) (ops:Array Oper) (S:World->Prop) (K:Act->Prop):List Oper->Act->Prop
 | [],a=>K a
 | o :: r,a=>∃ v,YieldsIf P ops S o v a/\wpRead P ops S K r (a.put o.dst v)
theorem wpRead_nil {K:Act->Prop} {a:Act} (h:K a):wpRead P ops S K [] a:=h
theorem wpRead_cons {K:Act->Prop} {a:Act} {o:Oper} {r:List Oper} {v:Value} (hw:Region.wanted o (yielded ops a.tmps)=true) (h:∀ w,S w->(execOp a.eval o).run P w=.ok (.value v) w) (hr:wpRead P ops S K r (a.put o.dst v)):wpRead P ops S K (o :: r) a:=⟨v,.inl ⟨hw,h⟩,hr⟩
/-- A load of several cells. -/
theorem wpRead_load {K:Act->Prop} {a:Act} {o:Oper} {r:List Oper} (hw:Region.wanted o (yielded ops a.tmps)=true) (ty:TypeId) (x:Operand) (ho:o.op=.load ty x) (p:Addr) (hx:a.eval x=.pointer (some p)) (v:Value)
  (hl:∀ w,S w->(loadVar ty p).run P w=.ok v w) (hr:wpRead P ops S K r (a.put o.dst v)):wpRead P ops S K (o :: r) a:=by
 refine wpRead_cons hw (fun w hw=>?_) hr
 unfold execOp
 simp only [ho,hx,Instr.loadAt,Instr.sureAddr,Sem.run_bind,Sem.run_pure,Result.andThen_ok,hl w hw]
theorem wpAnyT_lex {all hs:List Nat} {g f:Nat} {listed0:Array Bool} {w:World} (hsel:Region.noSelect ops=true) (hk:Region.sink2 md ops all hs listed0=true) (hS:S w) (hQ:∀ c (a a':Act) w,Q (.panic c) a w->Q (.panic c) a' w):
  ∀ (is:List Nat) (l:List Oper) (listed:Array Bool) (a:Act),(∀ i ∈ is,hs.contains i=true/\all.contains i=true)->is.map (fun k=>ops[k]?)=l.map some->HeadInv2 md ops listed->(∀ t,listed0.getD t true=true->listed.getD t true=true)->
   Region.permHead md ops is listed=true->wpRead P ops S (fun a'=>wpAnyT P md ops Q S all g f (Region.setAll is listed) a' w) l a->wpAnyT P md ops Q S all g (is.length+f) listed a w
 | [],l,listed,a,_,hl,_,_,_,h=>by
  have:l=[]:=by simpa using hl.symm
  subst this
  rw [show ([]:List Nat).length+f=f by simp];exact h
 | k :: is,l,listed,a,hin,hl,inv,hmo,hB,h=>by
  match l,hl with
  | o :: l,hl'=>
   simp only [List.map_cons,List.cons.injEq] at hl'
   obtain ⟨h0,hl2⟩:=hl'
   simp only [Region.permHead,Bool.and_eq_true] at hB
   obtain ⟨⟨hr,hf⟩,hB'⟩:=hB
   have hr':k ∈ Region.ready md ops listed:=by simpa using hr
   obtain ⟨v,hy,hK⟩:=h
   rw [show (k :: is).length+f=(is.length+f)+1 by simp;omega]
   exact wpAnyT_first (hs:=hs) (listed0:=listed0) h0 (Region.noSelect_spec hsel) (hin k (by simp)).2 (hin k (by simp)).1 hk (fun c a w h=>hQ c _ _ w h) (is.length+f) listed a w inv hmo (Region.free_spec h0 hf) hr' hy hS
    (wpAnyT_lex hsel hk hS hQ is l _ _ (fun i hi=>hin i (by simp [hi])) hl2 (inv.set hr') (mono_set hmo) hB' hK)
/-- What reads, first. -/
theorem wpAnyT_reads {all:List Nat} {g f:Nat} {l:List Oper} {listed:Array Bool} {a:Act} {w:World} (is:List Nat) (hB:Region.headsB md l.toArray all is listed=true) (h1:is.map (fun k=>l.toArray[k]?)=(pickOps l is).map some) (hS:S w) (hQ:∀ c (a a':Act) w,Q (.panic c) a w->Q (.panic c) a' w)
  (h:wpRead P l.toArray S (fun a'=>wpAnyT P md l.toArray Q S all g f (Region.setAll is listed) a' w) (pickOps l is) a):wpAnyT P md l.toArray Q S all g (is.length+f) listed a w:=by
 simp only [Region.headsB,Bool.and_eq_true] at hB
 obtain ⟨⟨⟨⟨hsel,hcl⟩,hk⟩,hall⟩,hp⟩:=hB
 exact wpAnyT_lex hsel hk hS hQ is _ listed a (fun i hi=>⟨by simpa using hi,List.all_eq_true.1 hall i hi⟩) h1 (HeadInv2.of_closedB hcl) (fun t ht=>ht) hp h
/-- One that makes memory, if none else may come up. -/
theorem wpAnyT_one {all:List Nat} {g f:Nat} {l:List Oper} {listed:Array Bool} {a:Act} {w:World} (k:Nat) (hr:Region.ready md l.toArray listed=[k]) (hk:all.contains k=true) (ho:l.toArray[k]?=some (l.getD k default))
  (h:wpList P l.toArray (Exit.then (fun a' w'=>S w'/\wpAnyT P md l.toArray Q S all g f (listed.setIfInBounds k true) a' w') Q) [l.getD k default] a w):wpAnyT P md l.toArray Q S all g (f+1) listed a w:=by
 refine ⟨fun e=>(by rw [hr] at e;cases e),fun i hi=>?_⟩
 rw [hr] at hi
 obtain rfl:i=k:=by simpa using hi
 exact ⟨hk,wpOp_of_list1 ho h⟩
/-- One of two. -/
theorem wpAnyT_two {all:List Nat} {g f:Nat} {l:List Oper} {listed:Array Bool} {a:Act} {w:World} (k j:Nat) (hr:Region.ready md l.toArray listed=[k,j]) (hk:all.contains k=true) (hj:all.contains j=true) (ho:l.toArray[k]?=some (l.getD k default)) (ho2:l.toArray[j]?=some (l.getD j default))
  (h:wpList P l.toArray (Exit.then (fun a' w'=>S w'/\wpAnyT P md l.toArray Q S all g f (listed.setIfInBounds k true) a' w') Q) [l.getD k default] a w)
  (h2:wpList P l.toArray (Exit.then (fun a' w'=>S w'/\wpAnyT P md l.toArray Q S all g f (listed.setIfInBounds j true) a' w') Q) [l.getD j default] a w):wpAnyT P md l.toArray Q S all g (f+1) listed a w:=by
 refine ⟨fun e=>(by rw [hr] at e;cases e),fun i hi=>?_⟩
 rw [hr] at hi
 have hi':i=k∨i=j:=by simpa using hi
 rcases hi' with rfl | rfl
 ·exact ⟨hk,wpOp_of_list1 ho h⟩
 ·exact ⟨hj,wpOp_of_list1 ho2 h2⟩
def Region.noneB (md:Region.Mode) (ops:Array Oper) (all:List Nat) (listed:Array Bool):Bool:=(Region.ready md ops listed).all fun i=>!all.contains i
/-- The tail. -/
theorem wpAnyT_tail {all:List Nat} {l:List Oper} {listed:Array Bool} {a:Act} {w:World} (ts:List Nat) (hn:Region.noneB md l.toArray all listed=true) (hB:Region.seqL md l.toArray ts listed=true) (h1:ts.map (fun k=>l.toArray[k]?)=(pickOps l ts).map some) (h:wpList P l.toArray Q (pickOps l ts) a w):
  wpAnyT P md l.toArray Q S all ts.length 0 listed a w:=
 ⟨fun i hi=>by simpa using List.all_eq_true.1 hn i hi,wpAny_tail ts hB h1 h⟩
/-- Behind a region that does not panic. -/
theorem noPanic_normal {a:Act} {w:World} (h:Q .normal a w):NoPanic Q .normal a w:=h
/-- The beginning. -/
theorem wp_region_T {id:Nat} {a:Act} {w:World} {l:List Oper} (S:World->Prop) (all:List Nat) (f g:Nat) (hfg:l.toArray.size=f+g) (hm:P.follows .mixedOrders=true)
  (h:wpAnyT P .any l.toArray Q S all g f (Array.replicate l.toArray.size false) a w.drew):(Code.region id l.toArray true).wp P Q a w:=by
 refine wp_region_any hm ?_
 have:=wpAny_of_T f _ a w.drew h
 rw [← hfg] at this
 exact this
/-- The beginning, where an operation that is free of the world comes first. -/
theorem wp_region_T1 {id:Nat} {a:Act} {w:World} {l:List Oper} {v:Value} (S:World->Prop) (all:List Nat) (i f g:Nat) (hfg:l.toArray.size=f+g+1) (hm:P.follows .mixedOrders=true) (hi:l.toArray[i]?=some (l.getD i default))
  (hs:Region.noSelect l.toArray=true) (hf:Region.free .any l.toArray (Array.replicate l.toArray.size false) i=true) (hr:(Region.ready .any l.toArray (Array.replicate l.toArray.size false)).contains i=true) (hQ:∀ c (a a':Act) w,Q (.panic c) a w->Q (.panic c) a' w) (hy:Yields P l.toArray (l.getD i default) v a)
  (h:wpAnyT P .any l.toArray Q S all g f ((Array.replicate l.toArray.size false).setIfInBounds i true) (a.put (l.getD i default).dst v) w.drew):(Code.region id l.toArray true).wp P Q a w:=by
 refine wp_region_any hm ?_
 have:=wpAny_of_T f _ _ w.drew h
 rw [hfg]
 exact wpAny_take hi hs (by rw [← hfg];exact hf) (by rw [← hfg];exact hr) (fun c a w h=>hQ c _ _ w h) hy (by rw [← hfg];exact this)
end
end Go
namespace Go.Proofs.YtgjhepblpdnkcaaGreatDoor
open Go.RowKit
set_option maxRecDepth 100000
set_option maxHeartbeats 8000000

/-- What putting a part does. -/
def PutC (p:Pt):Prop:=∀ (b gt:Nat) (τ:Nat->Nat) (R:List Rr) (N:List Rn) (w:World),TrW w gt τ R N->PtW w (fun k=>τ k=0) p b->N.length+p.sz<=200000->
 Calls Tryz.prog 79 #[ptr gt,ptr b] w fun e w'=>e=.returned (.tuple #[])/\∃ τ',TrW w' gt τ' R (N ++ flat N.length p)/\Fr (fun k=>τ k ≠ 0) w w'/\∀ k,k < w.heap.size->τ' k=τ k
theorem put_walk (k:Nat) (cl:List (UInt8×UInt8)) (t:List UInt8) (lv:Int) (at0:Nat) (nm:List UInt8) (ks:List Pt) (IH:∀ q ∈ ks,PutC q):PutC (.mk k cl t lv at0 nm ks):=by
 intro b gt τ R N w hT hP hN
 have HP0:=Lib.hid hP
 obtain ⟨ao,cap,bs,hkp⟩:=part_keep hP
 have HKP:=Lib.hid hkp
 clear hkp
 obtain ⟨⟨v1,v2,v3,v4,v5,NK,hg,hR,hNK⟩,htg⟩:=hT
 have hl2:NK.length=N.length:=by have:=congrArg List.length hNK;simpa using this
 have HI0:Hid (PuI w gt τ w τ #[v1,v2,v3,v4,v5] v1 v2 v3 v4 v5 (R.map Rr.ru) NK NK (R.map fun r=>(r.at_:Int)) (N.map fun x=>(x.at_:Int)) (N.map fun x=>tx x.nm)):=⟨hg,hR,htg,Fr.refl _ _,fun _ _=>rfl⟩
 have HNK:=Lib.hid hNK
 have HNL:=Lib.hid hN
 have HTG:Hid (τ gt ≠ 0):=by unfold Hid;omega
 obtain ⟨ao4,c4,e4,hs4⟩:=hR.t5.sv
 obtain ⟨ao2,c2,e2,hs2⟩:=hR.t3.sv
 obtain ⟨ao5,c5,e5,hs5⟩:=hR.t6.sv
 simp only [List.length_map,hl2] at e4 e2 e5
 subst e4 e2 e5
 have g1:=hg.cell 1
 have g3:=hg.cell 3
 have HL2:=Lib.hid hl2
 clear hs4 hs2 hs5 hR hNK hN hP htg hg hl2
 have HK:=Lib.hid IH
 clear IH
 unfold ptr
 go_enter Tryz.func79,Tryz.ntmps79
 go_upto_region 1 with (fail)
 clear g1 g3
 -- the node
 obtain ⟨S,hSd⟩:∃ S:World->Prop,S=fun z=>z.cell? ⟨gt,1,none⟩=some (.slice ao2 N.length c2)/\(loadVar 45 ⟨b,0,none⟩).run Tryz.prog z=.ok (.agg #[.int .i64 k,.int .u64 (clsW cl 0),.int .u64 (clsW cl 1),.int .u64 (clsW cl 2),.int .u64 (clsW cl 3),.string (tx t),.int .i64 0,.int .i64 lv,.slice none 0 0]) z:=⟨_,rfl⟩
 have F1:∀ z,S z->z.cell? ⟨gt,1,none⟩=some (.slice ao2 N.length c2):=fun z h=>by rw [hSd] at h;exact h.1
 have F0:∀ z,S z->(loadVar 45 ⟨b,0,none⟩).run Tryz.prog z=.ok (.agg #[.int .i64 k,.int .u64 (clsW cl 0),.int .u64 (clsW cl 1),.int .u64 (clsW cl 2),.int .u64 (clsW cl 3),.string (tx t),.int .i64 0,.int .i64 lv,.slice none 0 0]) z:=fun z h=>by rw [hSd] at h;exact h.2
 have HS:Hid (∀ z,z.cell? ⟨gt,1,none⟩=some (.slice ao2 N.length c2)->(loadVar 45 ⟨b,0,none⟩).run Tryz.prog z=.ok (.agg #[.int .i64 k,.int .u64 (clsW cl 0),.int .u64 (clsW cl 1),.int .u64 (clsW cl 2),.int .u64 (clsW cl 3),.string (tx t),.int .i64 0,.int .i64 lv,.slice none 0 0]) z->S z):=fun z h1 h2=>by rw [hSd];exact ⟨h1,h2⟩
 clear hSd
 refine wp_region_noPanic ?_
 refine wp_region_T S [0,1,2,3,4,5,6,7,8,9,10,11] 12 4 rfl (by kernel_rfl) ?_
 have HI1:=Lib.hid (HI0.out.below ((Below.refl _ w).drew))
 clear HI0
 generalize w.drew=w1 at HI1 ⊢
 refine wpAnyT_reads (f:=2) [0,1,2,3,4,5,6,7,8,9] (by kernel_rfl) (by kernel_rfl) (HS.out _ (HI1.out.obj.cell 1) (HI1.out.node_ld HP0.out)) (fun _ _ _ _ h=>h) ?_
 simp only [pickOps,List.getD_cons_zero,List.getD_cons_succ]
 repeat (first
   | (refine wpRead_load rfl 45 (.tmp 20) rfl ⟨b,0,none⟩ rfl _ F0 ?_;simp only [Act.put,List.setIfInBounds_toArray,List.set_cons_zero,List.set_cons_succ])
   | (refine wpRead_cons (v:=?_) rfl ?_ ?_;rotate_left;(· (intro z hz;have f1:=F1 z hz;clear hz;go_simp;try with_reducible rfl));simp only [Act.put,List.setIfInBounds_toArray,List.set_cons_zero,List.set_cons_succ]))
 refine wpRead_nil ?_
 refine wpAnyT_one 10 (by kernel_rfl) (by kernel_rfl) rfl ?_
 simp only [List.getD_cons_zero,List.getD_cons_succ]
 go_wp2_with fail
 have HI2:=Lib.hid (HI1.out.below ((Below.refl _ w1).alloc (Nat.le_refl _) (.cells #[.int .i64 k,.int .u64 (clsW cl 0),.int .u64 (clsW cl 1),.int .u64 (clsW cl 2),.int .u64 (clsW cl 3),.string (tx t),.int .i64 0,.int .i64 lv,.slice none 0 0] 45)))
 refine ⟨HS.out _ (HI2.out.obj.cell 1) (HI2.out.node_ld HP0.out),?_⟩
 refine wpAnyT_one 11 (by kernel_rfl) (by kernel_rfl) rfl ?_
 simp only [List.getD_cons_zero,List.getD_cons_succ]
 have HSL:=Lib.hid (Sv.lit w1 45 #[.int .i64 k,.int .u64 (clsW cl 0),.int .u64 (clsW cl 1),.int .u64 (clsW cl 2),.int .u64 (clsW cl 3),.string (tx t),.int .i64 0,.int .i64 lv,.slice none 0 0] 1 9 (by unfold maxLen;omega) rfl)
 clear HI1
 have HOW:=Lib.hid (show _ by have h:=HI2.out.tr.t3.1;rw [HL2.out] at h;exact h)
 refine wpList_append_tag _ rfl (.tmp 17) (.tmp 22) 23 45 rfl elNode 0 (.slice ao2 N.length c2) N.length _ rfl HOW.out ⟨w1.heap.size,0,none⟩ 1 1 _ rfl HSL.out (by simp [Value.oneCell']) (by have:=HNL.out;have:=HL2.out;omega) (by have:=HNL.out;have:=HL2.out;unfold maxLen;omega) (Nat.zero_le _) ?_
 intro v2' w3 ho hgr hb
 obtain ⟨a2,d2,rfl,-⟩:=Sv.of_owns ho
 have HI3:=Lib.hid (HI2.out.step hgr HI2.out.tr.t3.2 (by omega) (HI2.out.tr.node (⟨k,clsW cl 0,clsW cl 1,clsW cl 2,clsW cl 3,tx t,0,lv,[]⟩,(none,0)) (by rw [HL2.out];exact ho) hgr hb rfl rfl))
 clear HOW HSL HI2 ho hgr hb
 refine ⟨HS.out _ (HI3.out.obj.cell 1) (HI3.out.node_ld HP0.out),?_⟩
 refine wpAnyT_tail [12,13,14,15] (by kernel_rfl) (by kernel_rfl) (by kernel_rfl) ?_
 simp only [pickOps,List.getD_cons_zero,List.getD_cons_succ]
 clear F0 F1 HS S
 have f1:=HI3.out.obj.frozen 1
 have c1:=HI3.out.obj.cell 1
 go_wp2_with fail
 refine noPanic_normal ?_
 go_upto_region 2 with (fail)
 clear f1 c1
 have HI4:Hid (PuI w gt τ (w3.setCell ⟨gt,1,none⟩ (.slice a2 (N.length+1) d2)) (tagN τ (w1.alloc (.cells #[.int .i64 k,.int .u64 (clsW cl 0),.int .u64 (clsW cl 1),.int .u64 (clsW cl 2),.int .u64 (clsW cl 3),.string (tx t),.int .i64 0,.int .i64 lv,.slice none 0 0] 45)).heap.size w3.heap.size 3) #[v1,.slice a2 (N.length+1) d2,v3,.slice ao4 N.length c4,.slice ao5 N.length c5] v1 (.slice a2 (N.length+1) d2) v3 (.slice ao4 N.length c4) (.slice ao5 N.length c5) (R.map Rr.ru)
   (NK ++ [(⟨k,clsW cl 0,clsW cl 1,clsW cl 2,clsW cl 3,tx t,0,lv,[]⟩,(none,0))]) (NK ++ [(⟨k,clsW cl 0,clsW cl 1,clsW cl 2,clsW cl 3,tx t,0,lv,[]⟩,(none,0))]) (R.map fun r=>(r.at_:Int)) (N.map fun x=>(x.at_:Int)) (N.map fun x=>tx x.nm)):=HI3.out.put HTG.out 1 _
 clear HI3
 revert HI4
 generalize tagN τ (w1.alloc (.cells #[.int .i64 k,.int .u64 (clsW cl 0),.int .u64 (clsW cl 1),.int .u64 (clsW cl 2),.int .u64 (clsW cl 3),.string (tx t),.int .i64 0,.int .i64 lv,.slice none 0 0] 45)).heap.size w3.heap.size 3=τ1
 generalize w3.setCell ⟨gt,1,none⟩ (.slice a2 (N.length+1) d2)=w4
 intro HI4
 go_cut [] from 27 to 52 (fun wx=>∃ (τ2:Nat->Nat) (a4:Option Addr) (d4:Nat) (a5:Option Addr) (d5:Nat),Hid (PuI w gt τ wx τ2 #[v1,.slice a2 (N.length+1) d2,v3,.slice a4 (N.length+1) d4,.slice a5 (N.length+1) d5] v1 (.slice a2 (N.length+1) d2) v3 (.slice a4 (N.length+1) d4) (.slice a5 (N.length+1) d5) (R.map Rr.ru)
   (NK ++ [(⟨k,clsW cl 0,clsW cl 1,clsW cl 2,clsW cl 3,tx t,0,lv,[]⟩,(none,0))]) (NK ++ [(⟨k,clsW cl 0,clsW cl 1,clsW cl 2,clsW cl 3,tx t,0,lv,[]⟩,(none,0))]) (R.map fun r=>(r.at_:Int)) ((N.map fun x=>(x.at_:Int)) ++ [(at0:Int)]) ((N.map fun x=>tx x.nm) ++ [tx nm])))
 case rest=>
  obtain ⟨τ2,a4,d4,a5,d5,HI5⟩:=hcut
  have HT0:Hid (TrW wc gt τ2 R (N ++ [⟨k,cl,t,lv,[],at0,nm⟩])):=HI5.out.tree rfl rfl (by simp) (by simp) (by simp [HNK.out,Rn.nd])
  have HF0:=Lib.hid HI5.out.fr
  have HO0:=Lib.hid HI5.out.old
  obtain ⟨hp,hks,hkk⟩:=HKP.out wc HI5.out.fr
  have c11:wc.cell? ⟨b,11,none⟩=some (.slice ao ks.length cap):=hp.cell 11
  have hkb:=hks.bound
  clear HI5 HI4 hp hks hkk
  go_wp2_with fail
  clear c11
  go_loopw [58] (fun v wr=>∃ (i:Nat) (τ3:Nat->Nat),i<=ks.length/\v=.int .i64 i/\Hid (TrW wr gt τ3 R (N ++ [⟨k,cl,t,lv,kidsAt (N.length+1) (ks.take i),at0,nm⟩] ++ flatL (N.length+1) (ks.take i)))/\Hid (Fr (fun k=>τ k ≠ 0) w wr)/\Hid (∀ k,k < w.heap.size->τ3 k=τ k)) (fun v _=>ks.length - (intOf v).toNat)
  case atStart=>exact ⟨0,τ2,Nat.zero_le _,rfl,by unfold Hid;simpa [kidsAt,flatL] using HT0.out,HF0.out,HO0.out⟩
  case round=>
   obtain ⟨i,τ3,hi,rfl,HT,HF,HO⟩:=hrel
   by_cases hlt:i < ks.length
   ·have hltI:(i:Int) < ks.length:=by omega
    obtain ⟨a1,a2,e2,a3,a4,e4,a5,NK3,hl3,hn3,hp3⟩:=HT.out.start HF.out HO.out
    obtain ⟨-,hks,hkk⟩:=HKP.out wr HF.out
    obtain ⟨kb,hkb1,hkb2⟩:=hkk.at i hlt
    obtain ⟨ad,rfl,had⟩:=hks.cell i (by rw [List.length_map,hkk.len];exact hlt)
    have hbnd:=hks.bound
    rw [List.getElem?_map,hkb1] at had
    replace had:wr.cell? (ad.add i)=some (.pointer (some ⟨kb,0,none⟩)):=had
    have HB1:=Lib.hid hkb1
    clear hkb2
    obtain ⟨n3,hn3e⟩:∃ n,n=N.length+1+szL (ks.take i):=⟨_,rfl⟩
    have hml:(N ++ [(⟨k,cl,t,lv,kidsAt (N.length+1) (ks.take i),at0,nm⟩:Rn)] ++ flatL (N.length+1) (ks.take i)).length=n3:=by rw [hn3e];simp [flatL_len];omega
    rw [hml] at hp3 hl3
    obtain ⟨g2,rfl⟩:∃ g2,a2=some ⟨g2,0,none⟩:=by
     rcases hp3.tr.t3.1.2 with ⟨h,h0⟩ | ⟨g,c,cur,h,_⟩
     ·omega
     ·cases h;exact ⟨g,rfl⟩
    have hnx:N.length < n3:=by omega
    have hnxI:(N.length:Int) < n3:=by omega
    have HIB:Hid (i<=200000):=by have h1:=HNL.out;have h2:=len_szL ks;unfold Pt.sz at h1;unfold Hid;omega
    have hnk:N.length < NK3.length:=by omega
    have hx1:NK3[N.length].1=Rn.nd ⟨k,cl,t,lv,kidsAt (N.length+1) (ks.take i),at0,nm⟩:=by
     have e:=congrArg (fun l=>l[N.length]?) hn3
     simp only [List.getElem?_map,List.getElem?_eq_getElem hnk,Option.map_some] at e
     rw [List.getElem?_eq_getElem (by rw [hml];exact hnx),getL_at] at e
     simpa using e
    have hkl:NK3[N.length].1.kids.length=i:=by rw [hx1];simp [Rn.nd,kidsAt_len];omega
    have c8:=hp3.kidcell hnk
    rw [hkl] at c8
    obtain ⟨q,hq⟩:∃ q,NK3[N.length].2=q:=⟨_,rfl⟩
    rw [hq] at c8
    have HI6:=Lib.hid hp3
    have HL3:=Lib.hid hl3;have HN3:=Lib.hid hn3;have HN3E:=Lib.hid hn3e
    have HX1:=Lib.hid hx1;have HKL:=Lib.hid hkl
    have HQ:=Lib.hid hq
    clear hks hkk hkb1 hp3 hl3 hn3 HT hml hn3e hx1 hkl hq
    go_upto_region 6 with (fail)
    obtain ⟨S,hSd⟩:∃ S:World->Prop,S=fun z=>z.cell? ⟨gt,1,none⟩=some (.slice (some ⟨g2,0,none⟩) n3 e2)/\z.cell? ⟨gt,3,none⟩=some (.slice a4 n3 e4)/\z.cell? ⟨g2,N.length * 9+8,none⟩=some (.slice q.1 i q.2):=⟨_,rfl⟩
    have F1:∀ z,S z->z.cell? ⟨gt,1,none⟩=some (.slice (some ⟨g2,0,none⟩) n3 e2):=fun z h=>by rw [hSd] at h;exact h.1
    have F2:∀ z,S z->z.cell? ⟨gt,3,none⟩=some (.slice a4 n3 e4):=fun z h=>by rw [hSd] at h;exact h.2.1
    have F3:∀ z,S z->z.cell? ⟨g2,N.length * 9+8,none⟩=some (.slice q.1 i q.2):=fun z h=>by rw [hSd] at h;exact h.2.2
    have HS:Hid (∀ z,z.cell? ⟨gt,1,none⟩=some (.slice (some ⟨g2,0,none⟩) n3 e2)->z.cell? ⟨gt,3,none⟩=some (.slice a4 n3 e4)->z.cell? ⟨g2,N.length * 9+8,none⟩=some (.slice NK3[N.length].2.1 NK3[N.length].1.kids.length NK3[N.length].2.2)->S z):=fun z h1 h2 h3=>by rw [hSd];rw [HKL.out,HQ.out] at h3;exact ⟨h1,h2,h3⟩
    clear hSd had c8
    refine wp_region_noPanic ?_
    refine wp_region_T S [0,1,2,3,4,5,6,7,8,9,10,11,12,13,14,15,16,17,18,19,20,21] 22 3 rfl (by kernel_rfl) ?_
    have HI7:=Lib.hid (HI6.out.below ((Below.refl _ wr).drew))
    generalize wr.drew=z1 at HI7 ⊢
    refine wpAnyT_reads (f:=2) [0,1,2,3,4,5,6,7,8,9,10,11,12,13,14,15,16,17,18,19] (by kernel_rfl) (by kernel_rfl) (HS.out _ (HI7.out.obj.cell 1) (HI7.out.obj.cell 3) (HI7.out.kidcell hnk)) (fun _ _ _ _ h=>h) ?_
    simp only [pickOps,List.getD_cons_zero,List.getD_cons_succ]
    repeat (first
      | (refine wpRead_cons (v:=?_) rfl ?_ ?_;rotate_left;(· (intro z hz;have f1:=F1 z hz;have f2:=F2 z hz;have f3:=F3 z hz;clear hz;go_simp;try with_reducible rfl));simp only [Act.put,List.setIfInBounds_toArray,List.set_cons_zero,List.set_cons_succ]))
    refine wpRead_nil ?_
    refine wpAnyT_one 20 (by kernel_rfl) (by kernel_rfl) rfl ?_
    simp only [List.getD_cons_zero,List.getD_cons_succ]
    go_wp2_with fail
    have HI8:=Lib.hid (HI7.out.below ((Below.refl _ z1).alloc (Nat.le_refl _) (.cells #[.int .i64 n3] 3)))
    refine ⟨HS.out _ (HI8.out.obj.cell 1) (HI8.out.obj.cell 3) (HI8.out.kidcell hnk),?_⟩
    refine wpAnyT_one 21 (by kernel_rfl) (by kernel_rfl) rfl ?_
    simp only [List.getD_cons_zero,List.getD_cons_succ]
    have HSL:=Lib.hid (Sv.lit z1 3 #[.int .i64 n3] 1 1 (by unfold maxLen;omega) rfl)
    clear HI7
    have HOW:=Lib.hid (HI8.out.tr.kid N.length hnk)
    have HOW2:=Lib.hid (show _ by have h:=HOW.out.1;rw [HKL.out,HQ.out] at h;exact h)
    refine wpList_append_tag _ rfl (.tmp 76) (.tmp 82) 26 3 rfl elIntS 0 (.slice q.1 i q.2) i _ rfl HOW2.out ⟨z1.heap.size,0,none⟩ 1 1 _ rfl HSL.out (by simp [Value.oneCell']) (by have:=HIB.out;omega) (by have:=HIB.out;unfold maxLen;omega) (Nat.zero_le _) ?_
    intro v' z3 ho hgr hb
    obtain ⟨qa,qd,rfl,-⟩:=Sv.of_owns ho
    have HK1:=Lib.hid (HI8.out.tr.kd hnk (n3:Int) (qa,qd) (by rw [HKL.out];exact ho) (by rw [HKL.out,HQ.out];exact hgr) (by rw [HKL.out,HQ.out];exact hb))
    have HI9:=Lib.hid (HI8.out.step hgr (by have h:=HOW.out.2;rw [HKL.out,HQ.out] at h;exact h) (by omega) HK1.out)
    clear HSL HOW HOW2 HK1 ho hgr hb
    have HI9:=HI9
    refine ⟨HS.out _ (HI9.out.obj.cell 1) (HI9.out.obj.cell 3) (HI9.out.kidcell hnk),?_⟩
    refine wpAnyT_tail [22,23,24] (by kernel_rfl) (by kernel_rfl) (by kernel_rfl) ?_
    simp only [pickOps,List.getD_cons_zero,List.getD_cons_succ]
    have fk:=owns_frozen (by have h:=HI9.out.tr.t3.1;rw [HL3.out] at h;exact h) (N.length * 9+8)
    clear F1 F2 F3 HS S
    have c8:=HI9.out.kidcell hnk
    rw [HKL.out,HQ.out] at c8
    go_wp2_with fail
    refine noPanic_normal ?_
    have HI10:=Lib.hid (HI9.out.lay HL3.out hnk (n3:Int) (qa,qd))
    rw [HKL.out] at HI10
    clear HI9 HI8 HI6 fk c8
    revert HI10
    generalize tagN τ3 (z1.alloc (.cells #[.int .i64 n3] 3)).heap.size z3.heap.size (7+N.length)=τ4
    generalize z3.setCell ⟨g2,N.length * 9+8,none⟩ (.slice (qa,qd).1 (i+1) (qa,qd).2)=z4
    intro HI10
    have HT2:Hid (TrW z4 gt τ4 R (N ++ [⟨k,cl,t,lv,kidsAt (N.length+1) (ks.take (i+1)),at0,nm⟩] ++ flatL (N.length+1) (ks.take i))):=by
     refine HI10.out.tree rfl rfl (by simp) (by simp) ?_
     have hm:=setL_at (N.map Rn.nd) ((flatL (N.length+1) (ks.take i)).map Rn.nd) (Rn.nd ⟨k,cl,t,lv,kidsAt (N.length+1) (ks.take i),at0,nm⟩) (Rn.nd ⟨k,cl,t,lv,kidsAt (N.length+1) (ks.take (i+1)),at0,nm⟩)
     rw [List.length_map] at hm
     have hk2:(kidP NK3[N.length] (n3:Int) (qa,qd)).1=Rn.nd ⟨k,cl,t,lv,kidsAt (N.length+1) (ks.take (i+1)),at0,nm⟩:=by
      unfold kidP
      rw [HX1.out,kidsAt_next hlt,HN3E.out]
      simp [Rn.nd]
     rw [List.map_set,HN3.out,hk2,List.map_append,List.map_append,List.map_append,List.map_append]
     exact hm
    have HPK:Hid (PtW z4 (fun k=>τ4 k=0) ks[i] kb):=by
     obtain ⟨-,-,hkk⟩:=HKP.out z4 HI10.out.fr
     obtain ⟨kb',e1,e2⟩:=hkk.at i hlt
     rw [HB1.out] at e1
     cases e1
     exact PtW.fr (Fr.refl (fun _=>False) z4) (fun _ _=>id) (fun k hk=>(HI10.out.old k hk.2).trans hk.1) _ _ e2
    have HN4:Hid ((N ++ [(⟨k,cl,t,lv,kidsAt (N.length+1) (ks.take (i+1)),at0,nm⟩:Rn)] ++ flatL (N.length+1) (ks.take i)).length=N.length+1+szL (ks.take i)):=by unfold Hid;simp [flatL_len];omega
    have HX:=Lib.hid (HK.out ks[i] (List.getElem_mem hlt) kb gt τ4 R _ z4 HT2.out HPK.out (by rw [HN4.out];have h1:=HNL.out;unfold Pt.sz at h1;have h2:=szL_take ks i hlt;omega))
    have HFX:=Lib.hid HI10.out.fr
    have HOX:=Lib.hid HI10.out.old
    clear HI10 HT2 HPK HN3 HN3E HX1 HKL HQ HL3
    unfold ptr at HX
    go_wp2_with fail
    refine HX.out.mono ?_
    rintro e z5 ⟨rfl,τ5,hT5,hf5,ho5⟩
    have HT5:Hid (TrW z5 gt τ5 R (N ++ [⟨k,cl,t,lv,kidsAt (N.length+1) (ks.take (i+1)),at0,nm⟩] ++ flatL (N.length+1) (ks.take (i+1)))):=by
     unfold Hid
     rw [flatL_next hlt,← List.append_assoc]
     rw [HN4.out] at hT5
     exact hT5
    have HF5:=Lib.hid (HFX.out.trans hf5 (fun k hk e=>by have:=HOX.out k hk;omega))
    have HO5:Hid (∀ k,k < w.heap.size->τ5 k=τ k):=fun k hk=>(ho5 k (Nat.lt_of_lt_of_le hk HFX.out.size)).trans (HOX.out k hk)
    clear hT5 hf5 ho5 HX HFX HOX HN4
    go_wp2_with fail
    go_roundw
    case rel=>exact ⟨i+1,τ5,by omega,by go_num,HT5.out,HF5.out,HO5.out⟩
    case measure=>simp [intOf];omega
   ·obtain rfl:i=ks.length:=by omega
    clear hlt
    go_wp2_with fail
    go_end0
    rw [List.take_of_length_le (Nat.le_refl _)] at HT
    exact ⟨rfl,τ3,by simpa [flat] using HT.out,HF.out,HO.out⟩
 case first=>
  obtain ⟨S,hSd⟩:∃ S:World->Prop,S=fun z=>z.cell? ⟨gt,3,none⟩=some (.slice ao4 N.length c4)/\z.cell? ⟨gt,4,none⟩=some (.slice ao5 N.length c5)/\z.cell? ⟨b,9,none⟩=some (.int .i64 at0)/\z.cell? ⟨b,10,none⟩=some (.string (tx nm)):=⟨_,rfl⟩
  have F1:∀ z,S z->z.cell? ⟨gt,3,none⟩=some (.slice ao4 N.length c4):=fun z h=>by rw [hSd] at h;exact h.1
  have F2:∀ z,S z->z.cell? ⟨gt,4,none⟩=some (.slice ao5 N.length c5):=fun z h=>by rw [hSd] at h;exact h.2.1
  have F3:∀ z,S z->z.cell? ⟨b,9,none⟩=some (.int .i64 at0):=fun z h=>by rw [hSd] at h;exact h.2.2.1
  have F4:∀ z,S z->z.cell? ⟨b,10,none⟩=some (.string (tx nm)):=fun z h=>by rw [hSd] at h;exact h.2.2.2
  have HS:Hid (∀ z,z.cell? ⟨gt,3,none⟩=some (.slice ao4 N.length c4)->z.cell? ⟨gt,4,none⟩=some (.slice ao5 N.length c5)->(∃ ao cap,hrow z b (ptC k cl t lv at0 nm ao ks.length cap) 187)->S z):=fun z h1 h2 ⟨ao,cap,h3⟩=>by rw [hSd];exact ⟨h1,h2,h3.cell 9,h3.cell 10⟩
  clear hSd
  refine wp_region_noPanic ?_
  refine wp_region_T1 (v:=.pointer (some ⟨gt,0,none⟩)) S [0,1,2,3,4,5,6,7,8,9,10,11,12,13,14,15,16,17,18,19,20,21] 1 21 6 rfl (by kernel_rfl) rfl (by kernel_rfl) (by kernel_rfl) (by kernel_rfl) (fun _ _ _ _ h=>h) (.inl ⟨rfl,fun _=>rfl⟩) ?_
  simp only [List.getD_cons_zero,List.getD_cons_succ,Act.put,List.setIfInBounds_toArray,List.set_cons_zero,List.set_cons_succ]
  have HJ1:=Lib.hid (HI4.out.below ((Below.refl _ w4).drew))
  clear HI4
  generalize w4.drew=y1 at HJ1 ⊢
  refine wpAnyT_reads (f:=4) [0,2,3,4,5,6,7,8,9,12,13,14,15,16,17,18,19] (by kernel_rfl) (by kernel_rfl) (HS.out _ (HJ1.out.obj.cell 3) (HJ1.out.obj.cell 4) (by obtain ⟨ao,cap,bs,h,_⟩:=HJ1.out.cells HP0.out;exact ⟨ao,cap,h⟩)) (fun _ _ _ _ h=>h) ?_
  simp only [pickOps,List.getD_cons_zero,List.getD_cons_succ]
  repeat (first
    | (refine wpRead_cons (v:=?_) rfl ?_ ?_;rotate_left;(· (intro z hz;have f1:=F1 z hz;have f2:=F2 z hz;have f3:=F3 z hz;have f4:=F4 z hz;clear hz;go_simp;try with_reducible rfl));simp only [Act.put,List.setIfInBounds_toArray,List.set_cons_zero,List.set_cons_succ]))
  refine wpRead_nil ?_
  clear F1 F2 F3 F4
  refine wpAnyT_two 10 20 (by kernel_rfl) (by kernel_rfl) (by kernel_rfl) rfl rfl ?_ ?_
  ·simp only [List.getD_cons_zero,List.getD_cons_succ]
   go_wp2_with fail
   have hbA:=(Below.refl _ y1).alloc (Nat.le_refl _) (.cells #[.int .i64 at0] 3)
   have HJ2:=Lib.hid (HJ1.out.below hbA)
   have HSA:=Lib.hid (Sv.lit y1 3 #[.int .i64 at0] 1 1 (by unfold maxLen;omega) rfl)
   have HTA:=Lib.hid (HJ1.out.tr.new _ (Nat.le_refl _))
   have HLA:Hid (y1.heap.size < (y1.alloc (.cells #[.int .i64 at0] 3)).heap.size):=by unfold Hid;rw [World.size_alloc];omega
   clear hbA HJ1
   revert HJ2 HSA HTA HLA
   generalize y1.alloc (.cells #[.int .i64 at0] 3)=y2
   generalize y1.heap.size=gA
   intro HJ2 HSA HTA HLA
   refine ⟨(HS.out _ (HJ2.out.obj.cell 3) (HJ2.out.obj.cell 4) (by obtain ⟨ao,cap,bs,h,_⟩:=HJ2.out.cells HP0.out;exact ⟨ao,cap,h⟩)),?_⟩
   refine wpAnyT_two 11 20 (by kernel_rfl) (by kernel_rfl) (by kernel_rfl) rfl rfl ?_ ?_
   ·simp only [List.getD_cons_zero,List.getD_cons_succ]
    have HOW:=Lib.hid (show _ by have h:=HJ2.out.tr.t5.1;rw [List.length_map] at h;exact h)
    refine wpList_append_tag _ rfl (.tmp 32) (.tmp 37) 26 3 rfl elIntS 0 (.slice ao4 N.length c4) N.length _ rfl HOW.out ⟨gA,0,none⟩ 1 1 _ rfl HSA.out (by simp [Value.oneCell']) (by have:=HNL.out;omega) (by have:=HNL.out;unfold maxLen;omega) (Nat.zero_le _) ?_
    intro v' y3 ho hgr hb
    obtain ⟨aA,dA,rfl,-⟩:=Sv.of_owns ho
    have HJ3:=Lib.hid (HJ2.out.step hgr HJ2.out.tr.t5.2 (by omega) (HJ2.out.tr.na (at0:Int) (by rw [List.length_map];exact ho) hgr hb))
    clear HOW ho hgr hb HSA HTA HLA HJ2
    refine ⟨(HS.out _ (HJ3.out.obj.cell 3) (HJ3.out.obj.cell 4) (by obtain ⟨ao,cap,bs,h,_⟩:=HJ3.out.cells HP0.out;exact ⟨ao,cap,h⟩)),?_⟩
    refine wpAnyT_one 20 (by kernel_rfl) (by kernel_rfl) rfl ?_
    simp only [List.getD_cons_zero,List.getD_cons_succ]
    go_wp2_with fail
    have hbB:=(Below.refl _ y3).alloc (Nat.le_refl _) (.cells #[.string (tx nm)] 9)
    have HJ4:=Lib.hid (HJ3.out.below hbB)
    have HSB:=Lib.hid (Sv.lit y3 9 #[.string (tx nm)] 1 1 (by unfold maxLen;omega) rfl)
    have HTB:=Lib.hid (HJ3.out.tr.new _ (Nat.le_refl _))
    have HLB:Hid (y3.heap.size < (y3.alloc (.cells #[.string (tx nm)] 9)).heap.size):=by unfold Hid;rw [World.size_alloc];omega
    clear hbB HJ3
    revert HJ4 HSB HTB HLB
    generalize y3.alloc (.cells #[.string (tx nm)] 9)=y4
    generalize y3.heap.size=gB
    intro HJ4 HSB HTB HLB
    refine ⟨(HS.out _ (HJ4.out.obj.cell 3) (HJ4.out.obj.cell 4) (by obtain ⟨ao,cap,bs,h,_⟩:=HJ4.out.cells HP0.out;exact ⟨ao,cap,h⟩)),?_⟩
    refine wpAnyT_one 21 (by kernel_rfl) (by kernel_rfl) rfl ?_
    simp only [List.getD_cons_zero,List.getD_cons_succ]
    have HOW:=Lib.hid (show _ by have h:=HJ4.out.tr.t6.1;rw [List.length_map] at h;exact h)
    refine wpList_append_tag _ rfl (.tmp 42) (.tmp 47) 27 9 rfl elStrS 0 (.slice ao5 N.length c5) N.length _ rfl HOW.out ⟨gB,0,none⟩ 1 1 _ rfl HSB.out (by simp [Value.oneCell']) (by have:=HNL.out;omega) (by have:=HNL.out;unfold maxLen;omega) (Nat.zero_le _) ?_
    intro v' y5 ho hgr hb
    obtain ⟨aB,dB,rfl,-⟩:=Sv.of_owns ho
    have HJ5:=Lib.hid (HJ4.out.step hgr HJ4.out.tr.t6.2 (by omega) (HJ4.out.tr.nm (tx nm) (by rw [List.length_map];exact ho) hgr hb))
    clear HOW ho hgr hb HSB HTB HLB HJ4
    refine ⟨(HS.out _ (HJ5.out.obj.cell 3) (HJ5.out.obj.cell 4) (by obtain ⟨ao,cap,bs,h,_⟩:=HJ5.out.cells HP0.out;exact ⟨ao,cap,h⟩)),?_⟩
    refine wpAnyT_tail [22,23,24,25,26,27] (by kernel_rfl) (by kernel_rfl) (by kernel_rfl) ?_
    simp only [pickOps,List.getD_cons_zero,List.getD_cons_succ]
    have f3:=HJ5.out.obj.frozen 3
    have f4:=HJ5.out.obj.frozen 4
    have c3:=HJ5.out.obj.cell 3
    have c4:=HJ5.out.obj.cell 4
    go_wp2_with fail
    refine noPanic_normal ?_
    go_wp2_with fail
    go_meet
    exact ⟨_,_,_,_,_,(HJ5.out.put HTG.out 3 _).put HTG.out 4 _⟩
   ·simp only [List.getD_cons_zero,List.getD_cons_succ]
    go_wp2_with fail
    have hbB:=(Below.refl _ y2).alloc (Nat.le_refl _) (.cells #[.string (tx nm)] 9)
    have HJ3:=Lib.hid (HJ2.out.below hbB)
    have HSB:=Lib.hid (Sv.lit y2 9 #[.string (tx nm)] 1 1 (by unfold maxLen;omega) rfl)
    have HTB:=Lib.hid (HJ2.out.tr.new _ (Nat.le_refl _))
    have HLB:Hid (y2.heap.size < (y2.alloc (.cells #[.string (tx nm)] 9)).heap.size):=by unfold Hid;rw [World.size_alloc];omega
    have HSA:=Lib.hid (HSA.out.below hbB)
    have HLA:=Lib.hid (Nat.lt_of_lt_of_le HLA.out hbB.size)
    clear hbB HJ2
    revert HJ3 HSB HTB HLB HSA HLA
    generalize y2.alloc (.cells #[.string (tx nm)] 9)=y3
    generalize y2.heap.size=gB
    intro HJ3 HSB HTB HLB HSA HLA
    refine ⟨(HS.out _ (HJ3.out.obj.cell 3) (HJ3.out.obj.cell 4) (by obtain ⟨ao,cap,bs,h,_⟩:=HJ3.out.cells HP0.out;exact ⟨ao,cap,h⟩)),?_⟩
    refine wpAnyT_one 11 (by kernel_rfl) (by kernel_rfl) rfl ?_
    simp only [List.getD_cons_zero,List.getD_cons_succ]
    have HOW:=Lib.hid (show _ by have h:=HJ3.out.tr.t5.1;rw [List.length_map] at h;exact h)
    refine wpList_append_tag _ rfl (.tmp 32) (.tmp 37) 26 3 rfl elIntS 0 (.slice ao4 N.length c4) N.length _ rfl HOW.out ⟨gA,0,none⟩ 1 1 _ rfl HSA.out (by simp [Value.oneCell']) (by have:=HNL.out;omega) (by have:=HNL.out;unfold maxLen;omega) (Nat.zero_le _) ?_
    intro v' y4 ho hgr hb
    obtain ⟨aA,dA,rfl,-⟩:=Sv.of_owns ho
    have HJ4:=Lib.hid (HJ3.out.step hgr HJ3.out.tr.t5.2 (by omega) (HJ3.out.tr.na (at0:Int) (by rw [List.length_map];exact ho) hgr hb))
    have HSB:=Lib.hid (HSB.out.fr (Fr.grown hgr) (fun a ha _ e=>by cases ha;have h1:=HJ3.out.tr.t5.2 _ e;have h2:=HTB.out;exact absurd (h1.symm.trans h2) (by decide)))
    have HTB:=Lib.hid ((tagN_old (τ:=_) (m':=y4.heap.size) (g:=5) HLB.out).trans HTB.out)
    have HLB:=Lib.hid (Nat.lt_of_lt_of_le HLB.out hgr.size)
    clear HOW ho hgr hb HSA HTA HLA HJ3
    refine ⟨(HS.out _ (HJ4.out.obj.cell 3) (HJ4.out.obj.cell 4) (by obtain ⟨ao,cap,bs,h,_⟩:=HJ4.out.cells HP0.out;exact ⟨ao,cap,h⟩)),?_⟩
    refine wpAnyT_one 21 (by kernel_rfl) (by kernel_rfl) rfl ?_
    simp only [List.getD_cons_zero,List.getD_cons_succ]
    have HOW:=Lib.hid (show _ by have h:=HJ4.out.tr.t6.1;rw [List.length_map] at h;exact h)
    refine wpList_append_tag _ rfl (.tmp 42) (.tmp 47) 27 9 rfl elStrS 0 (.slice ao5 N.length c5) N.length _ rfl HOW.out ⟨gB,0,none⟩ 1 1 _ rfl HSB.out (by simp [Value.oneCell']) (by have:=HNL.out;omega) (by have:=HNL.out;unfold maxLen;omega) (Nat.zero_le _) ?_
    intro v' y5 ho hgr hb
    obtain ⟨aB,dB,rfl,-⟩:=Sv.of_owns ho
    have HJ5:=Lib.hid (HJ4.out.step hgr HJ4.out.tr.t6.2 (by omega) (HJ4.out.tr.nm (tx nm) (by rw [List.length_map];exact ho) hgr hb))
    clear HOW ho hgr hb HSB HTB HLB HJ4
    refine ⟨(HS.out _ (HJ5.out.obj.cell 3) (HJ5.out.obj.cell 4) (by obtain ⟨ao,cap,bs,h,_⟩:=HJ5.out.cells HP0.out;exact ⟨ao,cap,h⟩)),?_⟩
    refine wpAnyT_tail [22,23,24,25,26,27] (by kernel_rfl) (by kernel_rfl) (by kernel_rfl) ?_
    simp only [pickOps,List.getD_cons_zero,List.getD_cons_succ]
    have f3:=HJ5.out.obj.frozen 3
    have f4:=HJ5.out.obj.frozen 4
    have c3:=HJ5.out.obj.cell 3
    have c4:=HJ5.out.obj.cell 4
    go_wp2_with fail
    refine noPanic_normal ?_
    go_wp2_with fail
    go_meet
    exact ⟨_,_,_,_,_,(HJ5.out.put HTG.out 3 _).put HTG.out 4 _⟩
  ·simp only [List.getD_cons_zero,List.getD_cons_succ]
   go_wp2_with fail
   have hbB:=(Below.refl _ y1).alloc (Nat.le_refl _) (.cells #[.string (tx nm)] 9)
   have HJ2:=Lib.hid (HJ1.out.below hbB)
   have HSB:=Lib.hid (Sv.lit y1 9 #[.string (tx nm)] 1 1 (by unfold maxLen;omega) rfl)
   have HTB:=Lib.hid (HJ1.out.tr.new _ (Nat.le_refl _))
   have HLB:Hid (y1.heap.size < (y1.alloc (.cells #[.string (tx nm)] 9)).heap.size):=by unfold Hid;rw [World.size_alloc];omega
   clear hbB HJ1
   revert HJ2 HSB HTB HLB
   generalize y1.alloc (.cells #[.string (tx nm)] 9)=y2
   generalize y1.heap.size=gB
   intro HJ2 HSB HTB HLB
   refine ⟨(HS.out _ (HJ2.out.obj.cell 3) (HJ2.out.obj.cell 4) (by obtain ⟨ao,cap,bs,h,_⟩:=HJ2.out.cells HP0.out;exact ⟨ao,cap,h⟩)),?_⟩
   refine wpAnyT_one 10 (by kernel_rfl) (by kernel_rfl) rfl ?_
   simp only [List.getD_cons_zero,List.getD_cons_succ]
   go_wp2_with fail
   have hbA:=(Below.refl _ y2).alloc (Nat.le_refl _) (.cells #[.int .i64 at0] 3)
   have HJ3:=Lib.hid (HJ2.out.below hbA)
   have HSA:=Lib.hid (Sv.lit y2 3 #[.int .i64 at0] 1 1 (by unfold maxLen;omega) rfl)
   have HTA:=Lib.hid (HJ2.out.tr.new _ (Nat.le_refl _))
   have HLA:Hid (y2.heap.size < (y2.alloc (.cells #[.int .i64 at0] 3)).heap.size):=by unfold Hid;rw [World.size_alloc];omega
   have HSB:=Lib.hid (HSB.out.below hbA)
   have HLB:=Lib.hid (Nat.lt_of_lt_of_le HLB.out hbA.size)
   clear hbA HJ2
   revert HJ3 HSA HTA HLA HSB HLB
   generalize y2.alloc (.cells #[.int .i64 at0] 3)=y3
   generalize y2.heap.size=gA
   intro HJ3 HSA HTA HLA HSB HLB
   refine ⟨(HS.out _ (HJ3.out.obj.cell 3) (HJ3.out.obj.cell 4) (by obtain ⟨ao,cap,bs,h,_⟩:=HJ3.out.cells HP0.out;exact ⟨ao,cap,h⟩)),?_⟩
   refine wpAnyT_one 11 (by kernel_rfl) (by kernel_rfl) rfl ?_
   simp only [List.getD_cons_zero,List.getD_cons_succ]
   have HOW:=Lib.hid (show _ by have h:=HJ3.out.tr.t5.1;rw [List.length_map] at h;exact h)
   refine wpList_append_tag _ rfl (.tmp 32) (.tmp 37) 26 3 rfl elIntS 0 (.slice ao4 N.length c4) N.length _ rfl HOW.out ⟨gA,0,none⟩ 1 1 _ rfl HSA.out (by simp [Value.oneCell']) (by have:=HNL.out;omega) (by have:=HNL.out;unfold maxLen;omega) (Nat.zero_le _) ?_
   intro v' y4 ho hgr hb
   obtain ⟨aA,dA,rfl,-⟩:=Sv.of_owns ho
   have HJ4:=Lib.hid (HJ3.out.step hgr HJ3.out.tr.t5.2 (by omega) (HJ3.out.tr.na (at0:Int) (by rw [List.length_map];exact ho) hgr hb))
   have HSB:=Lib.hid (HSB.out.fr (Fr.grown hgr) (fun a ha _ e=>by cases ha;have h1:=HJ3.out.tr.t5.2 _ e;have h2:=HTB.out;exact absurd (h1.symm.trans h2) (by decide)))
   have HTB:=Lib.hid ((tagN_old (τ:=_) (m':=y4.heap.size) (g:=5) HLB.out).trans HTB.out)
   have HLB:=Lib.hid (Nat.lt_of_lt_of_le HLB.out hgr.size)
   clear HOW ho hgr hb HSA HTA HLA HJ3
   refine ⟨(HS.out _ (HJ4.out.obj.cell 3) (HJ4.out.obj.cell 4) (by obtain ⟨ao,cap,bs,h,_⟩:=HJ4.out.cells HP0.out;exact ⟨ao,cap,h⟩)),?_⟩
   refine wpAnyT_one 21 (by kernel_rfl) (by kernel_rfl) rfl ?_
   simp only [List.getD_cons_zero,List.getD_cons_succ]
   have HOW:=Lib.hid (show _ by have h:=HJ4.out.tr.t6.1;rw [List.length_map] at h;exact h)
   refine wpList_append_tag _ rfl (.tmp 42) (.tmp 47) 27 9 rfl elStrS 0 (.slice ao5 N.length c5) N.length _ rfl HOW.out ⟨gB,0,none⟩ 1 1 _ rfl HSB.out (by simp [Value.oneCell']) (by have:=HNL.out;omega) (by have:=HNL.out;unfold maxLen;omega) (Nat.zero_le _) ?_
   intro v' y5 ho hgr hb
   obtain ⟨aB,dB,rfl,-⟩:=Sv.of_owns ho
   have HJ5:=Lib.hid (HJ4.out.step hgr HJ4.out.tr.t6.2 (by omega) (HJ4.out.tr.nm (tx nm) (by rw [List.length_map];exact ho) hgr hb))
   clear HOW ho hgr hb HSB HTB HLB HJ4
   refine ⟨(HS.out _ (HJ5.out.obj.cell 3) (HJ5.out.obj.cell 4) (by obtain ⟨ao,cap,bs,h,_⟩:=HJ5.out.cells HP0.out;exact ⟨ao,cap,h⟩)),?_⟩
   refine wpAnyT_tail [22,23,24,25,26,27] (by kernel_rfl) (by kernel_rfl) (by kernel_rfl) ?_
   simp only [pickOps,List.getD_cons_zero,List.getD_cons_succ]
   have f3:=HJ5.out.obj.frozen 3
   have f4:=HJ5.out.obj.frozen 4
   have c3:=HJ5.out.obj.cell 3
   have c4:=HJ5.out.obj.cell 4
   go_wp2_with fail
   refine noPanic_normal ?_
   go_wp2_with fail
   go_meet
   exact ⟨_,_,_,_,_,(HJ5.out.put HTG.out 3 _).put HTG.out 4 _⟩
end Go.Proofs.YtgjhepblpdnkcaaGreatDoor
