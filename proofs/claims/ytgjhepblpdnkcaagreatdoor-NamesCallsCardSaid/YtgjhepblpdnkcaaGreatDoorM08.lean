/- Walks and plain laws: Nc FPa FPb FW1 FW2 FW4. -/
import Derived.Test.YtgjhepblpdnkcaaGreatDoorM07
import Derived.Test.YtgjhepblpdnkcaaGreatDoorM02
import Derived.Test.YtgjhepblpdnkcaaGreatDoorProg
import Derived.ChangeKeysEq
import Derived.Lib.Strings
import Derived.WalkLawsBesides
import Derived.WalkSpells
import Derived.Laws.RangeAny
import Derived.Lib.OthersKept
import Derived.BigQuiet
import Derived.Laws.EntriesVeiled
namespace Go.Proofs.YtgjhepblpdnkcaaGreatDoor
open Go.RowKit
set_option maxRecDepth 100000
set_option maxHeartbeats 2000000

theorem al1 {a w:World} (h:Below a.heap.size a w) (o:Obj):Below a.heap.size a (w.alloc o):=h.alloc h.size o
theorem al2 {a w:World} (h:Below a.heap.size a w) (o o':Obj):Below a.heap.size a ((w.alloc o).alloc o'):=al1 (al1 h o) o'
theorem sameNo_any (w:World) (x:Nd) (ao bo:Option Addr) (ac bc:Nat) (ha:Sv w ao x.kids.length ac 1 (inc x.kids)) (hb:Sv w bo x.kids.length bc 1 (inc x.kids)):
  Calls Tryz.prog 83 #[.agg #[.int .i64 x.kind,.int .u64 x.c0,.int .u64 x.c1,.int .u64 x.c2,.int .u64 x.c3,.string x.text,.int .i64 x.rule,.int .i64 x.lev,.slice ao x.kids.length ac],.agg #[.int .i64 x.kind,.int .u64 x.c0,.int .u64 x.c1,.int .u64 x.c2,.int .u64 x.c3,.string x.text,.int .i64 x.rule,.int .i64 x.lev,.slice bo x.kids.length bc]] w fun r w'=>r=.returned (.bool true)/\Below w.heap.size w w':=by
 have HS:=Lib.hid (fun w' (hw:Below w.heap.size w w')=>sameIn_any w' ao bo x.kids.length ac bc x.kids (ha.below hw) (hb.below hw))
 have HB0:=Lib.hid (al2 (Below.refl w.heap.size w) (.cells #[.int .i64 x.kind,.int .u64 x.c0,.int .u64 x.c1,.int .u64 x.c2,.int .u64 x.c3,.string x.text,.int .i64 x.rule,.int .i64 x.lev,.slice ao x.kids.length ac] 45) (.cells #[.int .i64 x.kind,.int .u64 x.c0,.int .u64 x.c1,.int .u64 x.c2,.int .u64 x.c3,.string x.text,.int .i64 x.rule,.int .i64 x.lev,.slice bo x.kids.length bc] 45))
 have HA0:=Lib.hid ((hrow.new w #[.int .i64 x.kind,.int .u64 x.c0,.int .u64 x.c1,.int .u64 x.c2,.int .u64 x.c3,.string x.text,.int .i64 x.rule,.int .i64 x.lev,.slice ao x.kids.length ac] 45).below ((Below.refl _ _).alloc (Nat.le_refl _) (.cells #[.int .i64 x.kind,.int .u64 x.c0,.int .u64 x.c1,.int .u64 x.c2,.int .u64 x.c3,.string x.text,.int .i64 x.rule,.int .i64 x.lev,.slice bo x.kids.length bc] 45)))
 have HZ0:Hid (hrow ((w.alloc (.cells #[.int .i64 x.kind,.int .u64 x.c0,.int .u64 x.c1,.int .u64 x.c2,.int .u64 x.c3,.string x.text,.int .i64 x.rule,.int .i64 x.lev,.slice ao x.kids.length ac] 45)).alloc (.cells #[.int .i64 x.kind,.int .u64 x.c0,.int .u64 x.c1,.int .u64 x.c2,.int .u64 x.c3,.string x.text,.int .i64 x.rule,.int .i64 x.lev,.slice bo x.kids.length bc] 45)) (w.heap.size+1) #[.int .i64 x.kind,.int .u64 x.c0,.int .u64 x.c1,.int .u64 x.c2,.int .u64 x.c3,.string x.text,.int .i64 x.rule,.int .i64 x.lev,.slice bo x.kids.length bc] 45):=by have h:=hrow.new (w.alloc (.cells #[.int .i64 x.kind,.int .u64 x.c0,.int .u64 x.c1,.int .u64 x.c2,.int .u64 x.c3,.string x.text,.int .i64 x.rule,.int .i64 x.lev,.slice ao x.kids.length ac] 45)) #[.int .i64 x.kind,.int .u64 x.c0,.int .u64 x.c1,.int .u64 x.c2,.int .u64 x.c3,.string x.text,.int .i64 x.rule,.int .i64 x.lev,.slice bo x.kids.length bc] 45;rwa [World.size_alloc] at h
 clear ha hb
 go_enter Tryz.func83,Tryz.ntmps83
 go_upto_region 1 with (fail)
 revert HB0 HA0 HZ0
 generalize (w.alloc _).alloc _=w1
 generalize hh:w.heap.size+1=h1
 intro HB0 HA0 HZ0
 have HS1:=Lib.hid (HS.out w1 HB0.out)
 obtain ⟨a0,a1,a2,a3,a4,a5,a6,a7,a8⟩:=(HA0.out).c9
 obtain ⟨b0,b1,b2,b3,b4,b5,b6,b7,b8⟩:=(HZ0.out).c9
 obtain ⟨kind,c0,c1,c2,c3,text,rule,lev,kids⟩:=x
 simp only [] at a0 a1 a2 a3 a4 a5 a6 a7 a8 b0 b1 b2 b3 b4 b5 b6 b7 b8 HS1
 have hce:∀ w:World,(Op.equalIn 10000 43 (.agg #[.int .u64 c0,.int .u64 c1,.int .u64 c2,.int .u64 c3]) (.agg #[.int .u64 c0,.int .u64 c1,.int .u64 c2,.int .u64 c3])).run Tryz.prog w=.ok true w:=fun w=>by rw [cls_eq];simp
 have he1:(kind == kind)=true:=by simp
 have he2:(text.toList == text.toList)=true:=by simp
 have he3:(rule == rule)=true:=by simp
 have he4:(lev == lev)=true:=by simp
 go_wp2_with fail
 refine (HS1.out).mono ?_
 rintro e w2 ⟨rfl,hb2⟩
 have HB2:=Lib.hid (HB0.out.trans (hb2.mono HB0.out.size))
 clear hb2
 go_wp2_with fail
 go_ret
 exact ⟨rfl,HB2.out⟩
theorem sameNs_any (w:World) (ao bo:Option Addr) (n ac bc:Nat) (s t:List (Nd×(Option Addr×Nat))) (ha:NdW w ao n ac s) (hb:NdW w bo n bc t) (he:s.map (·.1)=t.map (·.1)):
  Calls Tryz.prog 41 #[.slice ao n ac,.slice bo n bc] w fun r w'=>r=.returned (.bool true)/\Below w.heap.size w w':=by
 obtain ⟨h1,h2⟩:=ha.sv.bound
 obtain ⟨h3,h4⟩:=hb.sv.bound
 have hl:=ha.sv.n_eq ndc_len (by decide)
 have hl':=hb.sv.n_eq ndc_len (by decide)
 have hx:∀ k (hk:k < s.length) (hk':k < t.length),s[k].1=t[k].1:=fun k hk hk'=>by
  have h:=congrArg (fun l=>l[k]?) he
  simp only [List.getElem?_map,List.getElem?_eq_getElem hk,List.getElem?_eq_getElem hk',Option.map_some] at h
  exact Option.some.inj h
 have HA:=Lib.hid ha;have HB:=Lib.hid hb;have HL:=Lib.hid hl;have HL':=Lib.hid hl';have HX:=Lib.hid hx
 clear ha hb hl hl' he hx
 go_enter Tryz.func41,Tryz.ntmps41
 go_wp2_with fail
 go_loopw [5] (fun i wr=>∃ k:Nat,k<=n/\i=.int .i64 k/\Hid (Below w.heap.size w wr)) (fun i _=>n - (intOf i).toNat)
 case atStart=>exact ⟨0,by omega,rfl,Below.refl _ _⟩
 case round=>
  obtain ⟨k,hk,rfl,HBr⟩:=hrel
  by_cases hlt:k < n
  ·have hlt':(k:Int) < n:=by omega
   have hkl:k < s.length:=by have:=HL.out;omega
   have hkl':k < t.length:=by have:=HL'.out;omega
   have HAr:=Lib.hid (HA.out.below HBr.out)
   have HBb:=Lib.hid (HB.out.below HBr.out)
   have HE:=Lib.hid (HX.out k hkl hkl')
   have HM:Hid (∀ y:Later wr,Calls Tryz.prog 83 #[.agg #[.int .i64 s[k].1.kind,.int .u64 s[k].1.c0,.int .u64 s[k].1.c1,.int .u64 s[k].1.c2,.int .u64 s[k].1.c3,.string s[k].1.text,.int .i64 s[k].1.rule,.int .i64 s[k].1.lev,.slice s[k].2.1 s[k].1.kids.length s[k].2.2],.agg #[.int .i64 t[k].1.kind,.int .u64 t[k].1.c0,.int .u64 t[k].1.c1,.int .u64 t[k].1.c2,.int .u64 t[k].1.c3,.string t[k].1.text,.int .i64 t[k].1.rule,.int .i64 t[k].1.lev,.slice t[k].2.1 t[k].1.kids.length t[k].2.2]] y.val fun r w'=>r=.returned (.bool true)/\Below y.val.heap.size y.val w'):=fun y=>by
    have h:=HAr.out.kids _ (List.getElem_mem hkl)
    have h':=HBb.out.kids _ (List.getElem_mem hkl')
    rw [← HE.out] at h' ⊢
    exact sameNo_any y.val s[k].1 s[k].2.1 t[k].2.1 s[k].2.2 t[k].2.2 (h.below y.ok) (h'.below y.ok)
   obtain ⟨a,rfl,a0,a1,a2,a3,a4,a5,a6,a7,a8⟩:=HAr.out.sv.nd9 hkl
   obtain ⟨b,rfl,b0,b1,b2,b3,b4,b5,b6,b7,b8⟩:=HBb.out.sv.nd9 hkl'
   clear HAr HBb HE
   generalize s[k]=p at *
   generalize t[k]=q at *
   obtain ⟨⟨p0,p1,p2,p3,p4,p5,p6,p7,p8⟩,p9,p10⟩:=p
   obtain ⟨⟨q0,q1,q2,q3,q4,q5,q6,q7,q8⟩,q9,q10⟩:=q
   simp only [] at a0 a1 a2 a3 a4 a5 a6 a7 a8 b0 b1 b2 b3 b4 b5 b6 b7 b8 HM
   clear hkl hkl'
   have later:∀ (p:Addr) (v:Value),wr.cell? p=some v->∀ y:Later wr,y.val.cell? p=some v:=fun p v h y=>(y.ok.cell (World.block_lt_of_cell? wr _ h)).trans h
   have a0:=later _ _ a0
   have a1:=later _ _ a1
   have a2:=later _ _ a2
   have a3:=later _ _ a3
   have a4:=later _ _ a4
   have a5:=later _ _ a5
   have a6:=later _ _ a6
   have a7:=later _ _ a7
   have a8:=later _ _ a8
   have b0:=later _ _ b0
   have b1:=later _ _ b1
   have b2:=later _ _ b2
   have b3:=later _ _ b3
   have b4:=later _ _ b4
   have b5:=later _ _ b5
   have b6:=later _ _ b6
   have b7:=later _ _ b7
   have b8:=later _ _ b8
   clear later
   go_wp2_with fail
   refine wp_region_later (by kernel_rfl) (by kernel_rfl) ?_
   repeat (go_big_quiet_step ((go_at_call 83;exact Calls.later (HM.out _))))
   refine wpQuiet_nil ?_
   intro w5 hw5
   obtain ⟨y,rfl⟩:=hw5
   have HB5:=Lib.hid (HBr.out.trans (y.ok.mono HBr.out.size))
   clear a0 a1 a2 a3 a4 a5 a6 a7 a8 b0 b1 b2 b3 b4 b5 b6 b7 b8 HM
   generalize y.val=w5 at *
   go_wp2_with fail
   go_roundw
   case rel=>exact ⟨k+1,by omega,by go_num,HB5⟩
   case measure=>simp [intOf];omega
  ·have hge:(n:Int)<=k:=by omega
   go_wp2_with fail
   go_ret
   exact ⟨rfl,HBr.out⟩

theorem sameGr_any (w:World) (ro no so mo:Option Addr) (rn rc nn nc sc mc:Nat) (NK NL:List (Nd×(Option Addr×Nat))) (G:Gr) (hg:GrW w ro rn rc no nn nc NK G) (hgl:GrW w so rn sc mo nn mc NL G):Calls Tryz.prog 14 #[.agg #[.slice so rn sc,.slice mo nn mc],.agg #[.slice ro rn rc,.slice no nn nc]] w fun r w'=>r=.returned (.bool true)/\Below w.heap.size w w':=by
 have HR:=Lib.hid (fun w' (hb:Below w.heap.size w w')=>sameRu_any w' so ro rn sc rc G.rules (hgl.below hb).rul (hg.below hb).rul)
 have HN:=Lib.hid (fun w' (hb:Below w.heap.size w w')=>sameNs_any w' mo no nn mc nc NL NK (hgl.below hb).nod (hg.below hb).nod (hgl.eq.trans hg.eq.symm))
 have HB0:=Lib.hid (al2 (Below.refl w.heap.size w) (.cells #[.slice so rn sc,.slice mo nn mc] 25) (.cells #[.slice ro rn rc,.slice no nn nc] 25))
 have HA0:=Lib.hid ((hrow.new w #[.slice so rn sc,.slice mo nn mc] 25).below ((Below.refl _ _).alloc (Nat.le_refl _) (.cells #[.slice ro rn rc,.slice no nn nc] 25)))
 have HZ0:Hid (hrow ((w.alloc (.cells #[.slice so rn sc,.slice mo nn mc] 25)).alloc (.cells #[.slice ro rn rc,.slice no nn nc] 25)) (w.heap.size+1) #[.slice ro rn rc,.slice no nn nc] 25):=by have h:=hrow.new (w.alloc (.cells #[.slice so rn sc,.slice mo nn mc] 25)) #[.slice ro rn rc,.slice no nn nc] 25;rwa [World.size_alloc] at h
 go_enter Tryz.func14,Tryz.ntmps14
 go_upto_region 1 with (fail)
 revert HB0 HA0 HZ0
 generalize (w.alloc _).alloc _=w1
 generalize hh1:w.heap.size+1=h1
 generalize hh0:w.heap.size=h0
 intro HB0 HA0 HZ0
 have HB1:Hid (Below w.heap.size w w1):=by rw [hh0];exact HB0.out
 have hne:h0 ≠ h1:=by omega
 clear HB0 hh0 hh1
 obtain ⟨a0,a1⟩:=(HA0.out).c2
 obtain ⟨z0,z1⟩:=(HZ0.out).c2
 go_wp2_with fail
 refine (HR.out w1 HB1.out).mono ?_
 rintro e w2 ⟨rfl,hb2⟩
 have HB2:=Lib.hid (HB1.out.trans (hb2.mono HB1.out.size))
 have a1:w2.cell? ⟨h0,1,none⟩=some (.slice mo nn mc):=(HA0.out.below hb2).cell 1
 have z1:w2.cell? ⟨h1,1,none⟩=some (.slice no nn nc):=(HZ0.out.below hb2).cell 1
 clear hb2 HA0 HZ0 a0 z0
 go_wp2_with fail
 refine (HN.out w2 HB2.out).mono ?_
 rintro e w3 ⟨rfl,hb3⟩
 have HB3:=Lib.hid (HB2.out.trans (hb3.mono HB2.out.size))
 clear hb3
 go_wp2_with fail
 go_ret
 exact ⟨rfl,HB3.out⟩
end Go.Proofs.YtgjhepblpdnkcaaGreatDoor
namespace Go.Proofs.YtgjhepblpdnkcaaGreatDoor

def kidsF (f:Nat->Option (Nat×Nat)):List Int->Nat->Nat->Option (Nat×Nat)
 | [],m,h=>some (m,h)
 | k :: ks,m,h=>if k=(m:Int) then (match f m with | some (tq,hh)=>kidsF f ks tq (max h (1+hh)) | none=>none) else none
/-- The node behind the last one of a node, and its height; none: its nodes do not stand in preorder, or it is higher. -/
def aft (N:List Nd):Nat->Nat->Option (Nat×Nat)
 | 0,_=>none
 | f+1,n=>match N[n]? with | some x=>kidsF (aft N f) x.kids (n+1) 1 | none=>none

section
variable {N:List Nd}
theorem kidsF_mono {f g:Nat->Option (Nat×Nat)}:∀ (ks:List Int) (m h:Nat) {tq hh:Nat},kidsF f ks m h=some (tq,hh)->(∀ a b c,f a=some (b,c)->c < hh->g a=some (b,c))->kidsF g ks m h=some (tq,hh)/\h<=hh
 | [],m,h,tq,hh,e,_=>by
  simp only [kidsF,Option.some.injEq,Prod.mk.injEq] at e ⊢
  exact ⟨e,by omega⟩
 | k :: ks,m,h,tq,hh,e,hg=>by
  simp only [kidsF] at e ⊢
  by_cases hk:k=(m:Int)
  ·rw [if_pos hk] at e
   rw [if_pos hk]
   cases hf:f m with
   | none=>rw [hf] at e;cases e
   | some p=>
    obtain ⟨t1,h1⟩:=p
    rw [hf] at e
    simp only at e
    obtain ⟨r1,r2⟩:=kidsF_mono ks t1 (max h (1+h1)) e hg
    rw [hg m t1 h1 hf (by omega)]
    exact ⟨r1,by omega⟩
  ·rw [if_neg hk] at e;cases e
theorem aft_mono:∀ {f n tq h:Nat},aft N f n=some (tq,h)->1<=h/\h<=f/\∀ g,h<=g->aft N g n=some (tq,h)
 | 0,_,_,_,e=>by cases e
 | f+1,n,tq,h,e=>by
  simp only [aft] at e
  cases hx:N[n]? with
  | none=>rw [hx] at e;cases e
  | some x=>
   rw [hx] at e
   simp only at e
   have ih:∀ a b c,aft N f a=some (b,c)->1<=c/\c<=f/\∀ g,c<=g->aft N g a=some (b,c):=fun a b c h=>aft_mono h
   have hb:∀ (ks:List Int) (m h0:Nat) {tq h:Nat},kidsF (aft N f) ks m h0=some (tq,h)->h0<=f+1->h<=f+1:=by
    intro ks
    induction ks with
    | nil=>intro m h0 tq h e he;simp only [kidsF,Option.some.injEq,Prod.mk.injEq] at e;omega
    | cons k ks ihk=>
     intro m h0 tq h e he
     simp only [kidsF] at e
     by_cases hk:k=(m:Int)
     ·rw [if_pos hk] at e
      cases hf:aft N f m with
      | none=>rw [hf] at e;cases e
      | some p=>
       obtain ⟨t1,h1⟩:=p
       rw [hf] at e
       simp only at e
       have:=(ih m t1 h1 hf).2.1
       exact ihk t1 _ e (by omega)
     ·rw [if_neg hk] at e;cases e
   have h1:=kidsF_mono x.kids (n+1) 1 e (g:=aft N f) (fun a b c h _=>h)
   refine ⟨h1.2,hb _ _ _ e (by omega),fun g hg=>?_⟩
   obtain ⟨g,rfl⟩:∃ g',g=g'+1:=⟨g - 1,by omega⟩
   simp only [aft,hx]
   exact (kidsF_mono x.kids (n+1) 1 e (fun a b c h hc=>(ih a b c h).2.2 g (by omega))).1
theorem aft_lt {f n tq h:Nat} (e:aft N f n=some (tq,h)):n < N.length:=by
 cases f with
 | zero=>cases e
 | succ f=>
  simp only [aft] at e
  cases hx:N[n]? with
  | none=>rw [hx] at e;cases e
  | some x=>exact (List.getElem?_eq_some_iff.1 hx).1

/-- The range of a node: it begins behind it and ends within the nodes; each node in it has a range that lies in it. -/
theorem kidsF_range {f:Nat} (ih:∀ {n tq h:Nat},aft N f n=some (tq,h)->n < tq/\tq<=N.length/\∀ j,n<=j->j < tq->∃ tq' h',aft N f j=some (tq',h')/\tq'<=tq):
  ∀ (ks:List Int) (m h:Nat) {tq hh:Nat},m<=N.length->kidsF (aft N f) ks m h=some (tq,hh)->m<=tq/\tq<=N.length/\∀ j,m<=j->j < tq->∃ tq' h',aft N f j=some (tq',h')/\tq'<=tq
 | [],m,h,tq,hh,hm,e=>by
  simp only [kidsF,Option.some.injEq,Prod.mk.injEq] at e
  exact ⟨by omega,by omega,fun j h1 h2=>by omega⟩
 | k :: ks,m,h,tq,hh,hm,e=>by
  simp only [kidsF] at e
  by_cases hk:k=(m:Int)
  ·rw [if_pos hk] at e
   cases hf:aft N f m with
   | none=>rw [hf] at e;cases e
   | some p=>
    obtain ⟨t1,h1⟩:=p
    rw [hf] at e
    simp only at e
    obtain ⟨q1,q2,q3⟩:=ih hf
    obtain ⟨r1,r2,r3⟩:=kidsF_range ih ks t1 _ q2 e
    refine ⟨by omega,r2,fun j h1 h2=>?_⟩
    by_cases hj:j < t1
    ·obtain ⟨tq',h',e',l'⟩:=q3 j h1 hj
     exact ⟨tq',h',e',by omega⟩
    ·exact r3 j (by omega) h2
  ·rw [if_neg hk] at e;cases e
theorem aft_range:∀ {f n tq h:Nat},aft N f n=some (tq,h)->n < tq/\tq<=N.length/\∀ j,n<=j->j < tq->∃ tq' h',aft N f j=some (tq',h')/\tq'<=tq
 | 0,_,_,_,e=>by cases e
 | f+1,n,tq,h,e=>by
  have hn:=aft_lt e
  have e0:=e
  simp only [aft] at e
  cases hx:N[n]? with
  | none=>rw [hx] at e;cases e
  | some x=>
   rw [hx] at e
   simp only at e
   obtain ⟨r1,r2,r3⟩:=kidsF_range (fun h=>aft_range h) x.kids (n+1) 1 (by omega) e
   refine ⟨by omega,r2,fun j h1 h2=>?_⟩
   by_cases hj:j=n
   ·subst hj;exact ⟨tq,h,e0,Nat.le_refl _⟩
   ·obtain ⟨tq',h',e',l'⟩:=r3 j (by omega) h2
    have:=aft_mono e'
    exact ⟨tq',h',this.2.2 (f+1) (by omega),l'⟩
end

/-- What is known of the nodes from one on: of each its size and its height. -/
def kidsT (n:Nat) (T:List (Nat×Nat)) (len:Nat):List Int->Nat->Nat->Option (Nat×Nat)
 | [],m,h=>some (m,h)
 | k :: ks,m,h=>if k ≠ (m:Int)∨(len:Int)<=k then none else kidsT n T len ks (m+(T.getD (m - n) (0,0)).1) (max h (T.getD (m - n) (0,0)).2)
/-- Of the last d nodes. -/
def tabs (N:List Nd):Nat->Option (List (Nat×Nat))
 | 0=>some []
 | d+1=>match tabs N d with
  | none=>none
  | some T=>match N[N.length - (d+1)]? with
   | none=>none
   | some x=>match kidsT (N.length - d) T N.length x.kids (N.length - d) 0 with
    | none=>none
    | some (next,high)=>some ((next - (N.length - (d+1)),high+1) :: T)

section
variable {N:List Nd}
/-- The table agrees with the ranges. -/
def TabOk (N:List Nd) (n:Nat) (T:List (Nat×Nat)):Prop:=T.length=N.length - n/\∀ j,n<=j->j < N.length->aft N (N.length+1) j=some (j+(T.getD (j - n) (0,0)).1,(T.getD (j - n) (0,0)).2)

theorem kidsT_kidsF {n:Nat} {T:List (Nat×Nat)} (hT:TabOk N n T):∀ (ks:List Int) (m h:Nat),n<=m->m<=N.length->
  (match kidsT n T N.length ks m h with | some (tq,hh)=>some (tq,hh+1) | none=>none)=kidsF (aft N (N.length+1)) ks m (h+1)
 | [],m,h,_,_=>by simp [kidsT,kidsF]
 | k :: ks,m,h,hn,hm=>by
  simp only [kidsT,kidsF]
  by_cases hk:k=(m:Int)
  ·subst hk
   rw [if_pos rfl]
   by_cases hl:m < N.length
   ·have ha:=hT.2 m hn hl
    have hr:=aft_range ha
    rw [if_neg (by omega),ha]
    have ih:=kidsT_kidsF hT ks (m+(T.getD (m - n) (0,0)).1) (max h (T.getD (m - n) (0,0)).2) (by omega) hr.2.1
    rw [ih]
    congr 1
    omega
   ·rw [if_pos (by omega)]
    have:aft N (N.length+1) m=none:=by
     cases e:aft N (N.length+1) m with
     | none=>rfl
     | some p=>exact absurd (aft_lt e) hl
    rw [this]
  ·rw [if_pos (.inl hk),if_neg hk]

theorem aft_len {f n tq h:Nat} (e:aft N f n=some (tq,h)):h<=N.length - n:=by
 induction f generalizing n tq h with
 | zero=>cases e
 | succ f ih=>
  have hn:=aft_lt e
  simp only [aft] at e
  cases hx:N[n]? with
  | none=>rw [hx] at e;cases e
  | some x=>
   rw [hx] at e
   simp only at e
   have hk:∀ (ks:List Int) (m h0:Nat) {tq h:Nat},n+1<=m->h0<=N.length - n->kidsF (aft N f) ks m h0=some (tq,h)->h<=N.length - n:=by
    intro ks
    induction ks with
    | nil=>intro m h0 tq h _ h1 e;simp only [kidsF,Option.some.injEq,Prod.mk.injEq] at e;omega
    | cons k ks ihk=>
     intro m h0 tq h hm h1 e
     simp only [kidsF] at e
     by_cases hk:k=(m:Int)
     ·rw [if_pos hk] at e
      cases hf:aft N f m with
      | none=>rw [hf] at e;cases e
      | some p=>
       obtain ⟨t1,h2⟩:=p
       rw [hf] at e
       simp only at e
       have h3:=ih hf
       have h4:=aft_range hf
       have h5:=aft_lt hf
       exact ihk t1 _ (by omega) (by omega) e
     ·rw [if_neg hk] at e;cases e
   exact hk _ _ _ (Nat.le_refl _) (by omega) e

/-- The table stands just if each node has a range. -/
theorem tabs_ok:∀ d,d<=N.length->(∀ T,tabs N d=some T->TabOk N (N.length - d) T)/\(tabs N d=none->∃ j,N.length - d<=j/\j < N.length/\aft N (N.length+1) j=none)
 | 0,_=>⟨fun T h=>by simp only [tabs,Option.some.injEq] at h;subst h;exact ⟨by simp,fun j h1 h2=>by omega⟩,fun h=>by cases h⟩
 | d+1,hd=>by
  obtain ⟨i1,i2⟩:=tabs_ok d (by omega)
  simp only [tabs]
  cases hT:tabs N d with
  | none=>
   obtain ⟨j,h1,h2,h3⟩:=i2 hT
   exact ⟨fun T h=>(nomatch h),fun _=>⟨j,by omega,h2,h3⟩⟩
  | some T=>
   have hok:=i1 T hT
   have hlt:N.length - (d+1) < N.length:=by omega
   have hx:N[N.length - (d+1)]?=some N[N.length - (d+1)]:=List.getElem?_eq_getElem hlt
   simp only [hx]
   have hkk:=kidsT_kidsF hok N[N.length - (d+1)].kids (N.length - d) 0 (Nat.le_refl _) (by omega)
   have haf:aft N (N.length+2) (N.length - (d+1))=kidsF (aft N (N.length+1)) N[N.length - (d+1)].kids (N.length - d) 1:=by
    simp only [aft,hx]
    congr 1
    omega
   cases hk:kidsT (N.length - d) T N.length N[N.length - (d+1)].kids (N.length - d) 0 with
   | none=>
    rw [hk] at hkk
    refine ⟨fun T h=>(nomatch h),fun _=>⟨N.length - (d+1),by omega,hlt,?_⟩⟩
    cases e:aft N (N.length+1) (N.length - (d+1)) with
    | none=>rfl
    | some p=>
     have:=(aft_mono e).2.2 (N.length+2) (by have:=(aft_mono e).2.1;omega)
     rw [haf,← hkk] at this
     cases this
   | some p=>
    obtain ⟨next,high⟩:=p
    rw [hk] at hkk
    simp only at hkk
    rw [← haf] at hkk
    have hm:=aft_mono hkk.symm
    have hle:=aft_len hkk.symm
    have hra:=aft_range hkk.symm
    have he:=hm.2.2 (N.length+1) (by omega)
    refine ⟨fun T' h=>?_,fun h=>(nomatch h)⟩
    simp only [Option.some.injEq] at h
    subst h
    refine ⟨by simp only [List.length_cons,hok.1];omega,fun j h1 h2=>?_⟩
    by_cases hj:j=N.length - (d+1)
    ·subst hj
     rw [Nat.sub_self,List.getD_cons_zero,he]
     simp only [Option.some.injEq,Prod.mk.injEq,and_true]
     omega
    ·rw [hok.2 j (by omega) h2]
     obtain ⟨q,hq⟩:∃ q,j - (N.length - (d+1))=q+1:=⟨j - (N.length - d),by omega⟩
     rw [hq,List.getD_cons_succ,show q=j - (N.length - d) by omega]
end
end Go.Proofs.YtgjhepblpdnkcaaGreatDoor
namespace Go.Proofs.YtgjhepblpdnkcaaGreatDoor

/-- A byte is a letter; a digit. -/
def letB (c:Nat):Bool:=(97<=c && c<=122) || (65<=c && c<=90) || c == 95
def digB (c:Nat):Bool:=48<=c && c<=57
def nameB (s:ByteArray):Bool:=
 decide (1<=s.size) && decide (s.size<=32) && (List.range s.size).all fun i=>letB (s.get! i).toNat || (decide (1<=i) && digB (s.get! i).toNat)
/-- The place of the rule of a name. -/
def ruleIx:List Ru->ByteArray->Int
 | [],_=>-1
 | r :: rs,s=>if r.name=s then 0 else (if ruleIx rs s < 0 then -1 else ruleIx rs s+1)

def clsB (x:Nd):Bool:=x.c0 == 0 && x.c1 == 0 && x.c2 == 0 && x.c3 == 0
def txtB (x:Nd):Bool:=x.text.size == 0
def calB (x:Nd):Bool:=x.rule == 0 && x.lev == 0
/-- Has a node what its kind wants? -/
def nodeB (rules:Nat) (x:Nd):Bool:=
 if x.kind=1∨x.kind=2 then clsB x && txtB x && calB x && x.kids.length == 0
 else if x.kind=3 then !clsB x && txtB x && calB x && x.kids.length == 0
 else if x.kind=4 then clsB x && !txtB x && decide (x.text.size<=64) && calB x && x.kids.length == 0
 else if x.kind=5 then clsB x && txtB x && decide (0<=x.rule) && decide (x.rule < rules) && decide (0<=x.lev) && decide (x.lev<=99) && x.kids.length == 0
 else if x.kind=6∨x.kind=7 then clsB x && txtB x && calB x && decide (2<=x.kids.length) && decide (x.kids.length<=64)
 else if 8<=x.kind/\x.kind<=12 then clsB x && txtB x && calB x && x.kids.length == 1
 else false

/-- The reference's loop over the rules from number k on. -/
def rulR (G:Gr):List Ru->Nat->Nat->Option Nat
 | [],_,next=>some next
 | r :: rs,k,next=>if nameB r.name=true/\ruleIx G.rules r.name=k/\r.body=next then (match aft G.nodes 16 next with | some (tq,_)=>rulR G rs (k+1) tq | none=>none) else none
/-- The program's, with its table. -/
def rulPf (G:Gr) (T:List (Nat×Nat)):List Ru->Nat->Nat->Option Nat
 | [],_,next=>some next
 | r :: rs,k,next=>if nameB r.name=true/\ruleIx G.rules r.name=k/\r.body=next/\next < G.nodes.length/\(T.getD next (0,0)).2<=16 then rulPf G T rs (k+1) (next+(T.getD next (0,0)).1) else none
def sizB (G:Gr):Bool:=decide (1<=G.rules.length) && decide (G.rules.length<=32) && decide (G.nodes.length<=2048)
def rightR (G:Gr):Bool:=sizB G && G.nodes.all (nodeB G.rules.length) && rulR G G.rules 0 0 == some G.nodes.length
def rightP (G:Gr):Bool:=sizB G && G.nodes.all (nodeB G.rules.length) && (match tabs G.nodes G.nodes.length with | some T=>rulPf G T G.rules 0 0 == some G.nodes.length | none=>false)

section
variable {G:Gr}
theorem aft16 {T:List (Nat×Nat)} (hT:TabOk G.nodes 0 T) {n:Nat} (hn:n < G.nodes.length):
  aft G.nodes 16 n=if (T.getD n (0,0)).2<=16 then some (n+(T.getD n (0,0)).1,(T.getD n (0,0)).2) else none:=by
 have h:=hT.2 n (Nat.zero_le _) hn
 rw [Nat.sub_zero] at h
 have hm:=aft_mono h
 by_cases hc:(T.getD n (0,0)).2<=16
 ·rw [if_pos hc]
  exact hm.2.2 16 hc
 ·rw [if_neg hc]
  cases e:aft G.nodes 16 n with
  | none=>rfl
  | some p=>
   obtain ⟨tq,hh⟩:=p
   have h1:=aft_mono e
   have h2:=h1.2.2 (max 16 (G.nodes.length+1)) (by omega)
   have h3:=hm.2.2 (max 16 (G.nodes.length+1)) (by omega)
   rw [h2] at h3
   simp only [Option.some.injEq,Prod.mk.injEq] at h3
   omega
theorem rulP_rulR {T:List (Nat×Nat)} (hT:TabOk G.nodes 0 T):∀ (rs:List Ru) (k next:Nat),rulPf G T rs k next=rulR G rs k next
 | [],_,_=>rfl
 | r :: rs,k,next=>by
  simp only [rulPf,rulR]
  by_cases h1:nameB r.name=true/\ruleIx G.rules r.name=k/\r.body=next
  ·rw [if_pos h1]
   by_cases hn:next < G.nodes.length
   ·rw [aft16 hT hn]
    by_cases hc:(T.getD next (0,0)).2<=16
    ·rw [if_pos ⟨h1.1,h1.2.1,h1.2.2,hn,hc⟩,if_pos hc]
     exact rulP_rulR hT rs _ _
    ·rw [if_neg (fun h=>hc h.2.2.2.2),if_neg hc]
   ·rw [if_neg (fun h=>hn h.2.2.2.1)]
    cases e:aft G.nodes 16 next with
    | none=>rfl
    | some p=>exact absurd (aft_lt e) hn
  ·rw [if_neg h1,if_neg (fun h=>h1 ⟨h.1,h.2.1,h.2.2.1⟩)]
/-- What the rules' bodies reach has a range. -/
theorem rulR_all:∀ (rs:List Ru) (k next:Nat) {fin:Nat},rulR G rs k next=some fin->next<=fin/\∀ j,next<=j->j < fin->∃ p,aft G.nodes 16 j=some p
 | [],_,next,fin,h=>by simp only [rulR,Option.some.injEq] at h;exact ⟨by omega,fun j h1 h2=>by omega⟩
 | r :: rs,k,next,fin,h=>by
  simp only [rulR] at h
  by_cases h1:nameB r.name=true/\ruleIx G.rules r.name=k/\r.body=next
  ·rw [if_pos h1] at h
   cases e:aft G.nodes 16 next with
   | none=>rw [e] at h;cases h
   | some p=>
    obtain ⟨tq,hh⟩:=p
    rw [e] at h
    simp only at h
    obtain ⟨q1,q2,q3⟩:=aft_range e
    obtain ⟨r1,r2⟩:=rulR_all rs _ _ h
    refine ⟨by omega,fun j h1 h2=>?_⟩
    by_cases hj:j < tq
    ·obtain ⟨a,b,c,_⟩:=q3 j h1 hj
     exact ⟨_,c⟩
    ·exact r2 j (by omega) h2
  ·rw [if_neg h1] at h;cases h
theorem rightP_rightR:rightP G=rightR G:=by
 unfold rightP rightR
 congr 1
 have h:=tabs_ok (N:=G.nodes) G.nodes.length (Nat.le_refl _)
 rw [Nat.sub_self] at h
 cases hT:tabs G.nodes G.nodes.length with
 | some T=>simp only [rulP_rulR (h.1 T hT)]
 | none=>
  obtain ⟨j,h1,h2,h3⟩:=h.2 hT
  simp only
  symm
  rw [beq_eq_false_iff_ne]
  intro e
  obtain ⟨_,r2⟩:=rulR_all _ _ _ e
  obtain ⟨⟨tq,hh⟩,hp⟩:=r2 j h1 h2
  have h4:=(aft_mono hp).2.2 (G.nodes.length+1) (by have:=aft_len hp;omega)
  rw [h3] at h4
  cases h4
end
end Go.Proofs.YtgjhepblpdnkcaaGreatDoor
namespace Go.Proofs.YtgjhepblpdnkcaaGreatDoor
open Go.RowKit
set_option maxRecDepth 100000
set_option maxHeartbeats 1000000

section
end

theorem str_nil {t:ByteArray}:t.toList=[] ↔ t.size=0:=by
 rw [Lib.toList_data]
 constructor
 ·intro h
  have:t.data.toList.length=0:=by rw [h];rfl
  simpa using this
 ·intro h
  exact List.eq_nil_of_length_eq_zero (by simpa using h)
/-- A node with how many rules there are, as a value. -/
def shv (k a b c d:Int) (t:ByteArray) (r l:Int) (v:Value) (n:Int):Value:=.agg #[.int .i64 k,.int .u64 a,.int .u64 b,.int .u64 c,.int .u64 d,.string t,.int .i64 r,.int .i64 l,v,.int .i64 n]
def plainB (a b c d:Int) (t:ByteArray) (r l:Int):Bool:=a == 0 && b == 0 && c == 0 && d == 0 && t.size == 0 && r == 0 && l == 0

theorem plain_any (w:World) (k a b c d:Int) (t:ByteArray) (r l:Int) (v:Value) (n:Int):
  Calls Tryz.prog 194 #[shv k a b c d t r l v n] w fun e w'=>e=.returned (.bool (plainB a b c d t r l))/\Below w.heap.size w w':=by
 have hce:=cls_eq
 unfold shv
 go_enter Tryz.func194,Tryz.ntmps194
 go_wp2_with fail
 all_goals
  go_ret
  refine ⟨?_,(Below.refl _ _).alloc (Nat.le_refl _) _⟩
  congr 1
  unfold plainB
  simp_all [str_nil]

theorem fbare_any (w:World) (k a b c d:Int) (t:ByteArray) (r l:Int) (ka:Option Addr) (kn kc:Nat) (n:Int):
  Calls Tryz.prog 163 #[shv k a b c d t r l (.slice ka kn kc) n] w fun e w'=>e=.returned (.bool (plainB a b c d t r l && kn == 0))/\Below w.heap.size w w':=by
 have HB0:=Lib.hid ((Below.refl w.heap.size w).alloc (Nat.le_refl _) (.cells #[.int .i64 k,.int .u64 a,.int .u64 b,.int .u64 c,.int .u64 d,.string t,.int .i64 r,.int .i64 l,.slice ka kn kc,.int .i64 n] 197))
 have HR0:=Lib.hid (hrow.new w #[.int .i64 k,.int .u64 a,.int .u64 b,.int .u64 c,.int .u64 d,.string t,.int .i64 r,.int .i64 l,.slice ka kn kc,.int .i64 n] 197)
 unfold shv
 go_enter Tryz.func163,Tryz.ntmps163
 go_wp2_with fail
 refine (plain_any _ k a b c d t r l (.slice ka kn kc) n).mono ?_
 rintro e w2 ⟨rfl,hb⟩
 have HB2:=Lib.hid (HB0.out.trans (hb.mono HB0.out.size))
 have hc:w2.cell? ⟨w.heap.size,8,none⟩=some (.slice ka kn kc):=(HR0.out.below hb).cell 8
 clear hb HB0 HR0
 cases hx:plainB a b c d t r l
 all_goals
  have HX:=Lib.hid hx;clear hx
  go_wp2_with fail
  go_ret
  exact ⟨ret_bool (by rw [HX.out,Bool.eq_iff_iff];simp;try omega),HB2.out⟩

theorem one_any (w:World) (k a b c d:Int) (t:ByteArray) (r l:Int) (ka:Option Addr) (kn kc:Nat) (n:Int):
  Calls Tryz.prog 168 #[shv k a b c d t r l (.slice ka kn kc) n] w fun e w'=>e=.returned (.bool (plainB a b c d t r l && kn == 1))/\Below w.heap.size w w':=by
 have HB0:=Lib.hid ((Below.refl w.heap.size w).alloc (Nat.le_refl _) (.cells #[.int .i64 k,.int .u64 a,.int .u64 b,.int .u64 c,.int .u64 d,.string t,.int .i64 r,.int .i64 l,.slice ka kn kc,.int .i64 n] 197))
 have HR0:=Lib.hid (hrow.new w #[.int .i64 k,.int .u64 a,.int .u64 b,.int .u64 c,.int .u64 d,.string t,.int .i64 r,.int .i64 l,.slice ka kn kc,.int .i64 n] 197)
 unfold shv
 go_enter Tryz.func168,Tryz.ntmps168
 go_wp2_with fail
 refine (plain_any _ k a b c d t r l (.slice ka kn kc) n).mono ?_
 rintro e w2 ⟨rfl,hb⟩
 have HB2:=Lib.hid (HB0.out.trans (hb.mono HB0.out.size))
 have hc:w2.cell? ⟨w.heap.size,8,none⟩=some (.slice ka kn kc):=(HR0.out.below hb).cell 8
 clear hb HB0 HR0
 cases hx:plainB a b c d t r l
 all_goals
  have HX:=Lib.hid hx;clear hx
  go_wp2_with fail
  go_ret
  exact ⟨ret_bool (by rw [HX.out,Bool.eq_iff_iff];simp;try omega),HB2.out⟩

theorem many_any (w:World) (k a b c d:Int) (t:ByteArray) (r l:Int) (ka:Option Addr) (kn kc:Nat) (n:Int):
  Calls Tryz.prog 167 #[shv k a b c d t r l (.slice ka kn kc) n] w fun e w'=>e=.returned (.bool (plainB a b c d t r l && decide (2<=kn) && decide (kn<=64)))/\Below w.heap.size w w':=by
 have HB0:=Lib.hid ((Below.refl w.heap.size w).alloc (Nat.le_refl _) (.cells #[.int .i64 k,.int .u64 a,.int .u64 b,.int .u64 c,.int .u64 d,.string t,.int .i64 r,.int .i64 l,.slice ka kn kc,.int .i64 n] 197))
 have HR0:=Lib.hid (hrow.new w #[.int .i64 k,.int .u64 a,.int .u64 b,.int .u64 c,.int .u64 d,.string t,.int .i64 r,.int .i64 l,.slice ka kn kc,.int .i64 n] 197)
 unfold shv
 go_enter Tryz.func167,Tryz.ntmps167
 go_wp2_with fail
 refine (plain_any _ k a b c d t r l (.slice ka kn kc) n).mono ?_
 rintro e w2 ⟨rfl,hb⟩
 have HB2:=Lib.hid (HB0.out.trans (hb.mono HB0.out.size))
 have hc:w2.cell? ⟨w.heap.size,8,none⟩=some (.slice ka kn kc):=(HR0.out.below hb).cell 8
 clear hb HB0 HR0
 cases hx:plainB a b c d t r l
 all_goals
  have HX:=Lib.hid hx;clear hx
  go_wp2_with fail
  all_goals
   go_ret
   exact ⟨ret_bool (by rw [HX.out,Bool.eq_iff_iff];simp;try omega),HB2.out⟩
end Go.Proofs.YtgjhepblpdnkcaaGreatDoor
namespace Go.Proofs.YtgjhepblpdnkcaaGreatDoor
open Go.RowKit
set_option maxRecDepth 100000
set_option maxHeartbeats 1000000

theorem setS_any (w:World) (k a b c d:Int) (t:ByteArray) (r l:Int) (ka:Option Addr) (kn kc:Nat) (n:Int):
    Calls Tryz.prog 164 #[shv k a b c d t r l (.slice ka kn kc) n] w fun e w'=>e=.returned (.bool (!(a == 0 && b == 0 && c == 0 && d == 0) && (plainB 0 0 0 0 t r l && kn == 0)))/\Below w.heap.size w w':=by
  have hce:=cls_eq
  unfold shv
  go_enter Tryz.func164,Tryz.ntmps164
  go_wp2_with fail
  all_goals first
    | (go_ret;exact ⟨ret_bool (by simp_all [plainB];try omega),al2 (Below.refl w.heap.size w) _ _⟩)
    | (refine (fbare_any _ k 0 0 0 0 t r l ka kn kc n).mono ?_
       rintro e w2 ⟨rfl,hb⟩
       have HB2:=Lib.hid ((al2 (Below.refl w.heap.size w) _ _).trans (hb.mono (al2 (Below.refl w.heap.size w) _ _).size))
       clear hb
       go_wp2_with fail
       go_ret
       exact ⟨ret_bool (by simp_all [plainB];try omega),HB2.out⟩)

theorem textS_any (w:World) (k a b c d:Int) (t:ByteArray) (r l:Int) (ka:Option Addr) (kn kc:Nat) (n:Int) (ht:t.size<=9223372036854775807):
    Calls Tryz.prog 165 #[shv k a b c d t r l (.slice ka kn kc) n] w fun e w'=>e=.returned (.bool (decide (0 < t.size) && decide (t.size<=64) && (plainB a b c d ⟨#[]⟩ r l && kn == 0)))/\Below w.heap.size w w':=by
  have hce:=cls_eq
  unfold shv
  go_enter Tryz.func165,Tryz.ntmps165
  go_wp2_with fail
  all_goals first
    | (go_ret;exact ⟨ret_bool (by simp_all [plainB];try omega),al1 (Below.refl w.heap.size w) _⟩)
    | (refine (fbare_any _ k a b c d ⟨#[]⟩ r l ka kn kc n).mono ?_
       rintro e w2 ⟨rfl,hb⟩
       have HB2:=Lib.hid ((al1 (Below.refl w.heap.size w) _).trans (hb.mono (al1 (Below.refl w.heap.size w) _).size))
       clear hb
       go_wp2_with fail
       go_ret
       exact ⟨ret_bool (by simp_all [plainB];try omega),HB2.out⟩)

theorem callS_any (w:World) (k a b c d:Int) (t:ByteArray) (r l:Int) (ka:Option Addr) (kn kc:Nat) (n:Int):
    Calls Tryz.prog 166 #[shv k a b c d t r l (.slice ka kn kc) n] w fun e w'=>e=.returned (.bool (decide (0<=r) && decide (r < n) && decide (0<=l) && decide (l<=99) && (plainB a b c d t 0 0 && kn == 0)))/\Below w.heap.size w w':=by
  have hce:=cls_eq
  unfold shv
  go_enter Tryz.func166,Tryz.ntmps166
  go_wp2_with fail
  all_goals first
    | (go_ret;exact ⟨ret_bool (by simp_all [plainB];try omega),al1 (Below.refl w.heap.size w) _⟩)
    | (refine (fbare_any _ k a b c d t 0 0 ka kn kc n).mono ?_
       rintro e w2 ⟨rfl,hb⟩
       have HB2:=Lib.hid ((al1 (Below.refl w.heap.size w) _).trans (hb.mono (al1 (Below.refl w.heap.size w) _).size))
       clear hb
       go_wp2_with fail
       go_ret
       exact ⟨ret_bool (by simp_all [plainB];try omega),HB2.out⟩)
end Go.Proofs.YtgjhepblpdnkcaaGreatDoor
namespace Go.Proofs.YtgjhepblpdnkcaaGreatDoor
open Go.RowKit
set_option maxRecDepth 100000
set_option maxHeartbeats 2000000

/-- A letter, by its number. -/
def letC (c:Int):Bool:=(decide (97<=c) && decide (c<=122)) || (decide (65<=c) && decide (c<=90)) || c == 95
def oddC (c:Int):Bool:=!letC c && (decide (c < 48) || decide (57 < c))

theorem fletter_any (w:World) (c:Int):Calls Tryz.prog 134 #[.int .i32 c] w fun e w'=>e=.returned (.bool (letC c))/\w=w':=by
 go_enter Tryz.func134,Tryz.ntmps134
 go_wp2_with fail
 all_goals
  go_ret
  refine ⟨ret_bool ?_,rfl⟩
  unfold letC
  rw [Bool.eq_iff_iff]
  simp
  try omega

theorem odd_any (w:World) (p:Addr) (hp:w.cell? p=some (.func (.func 134) #[] #[])) (c:Int):Calls Tryz.prog 135 #[.int .i32 c,.pointer (some p)] w fun e w'=>e=.returned (.bool (oddC c))/\w=w':=by
 go_enter Tryz.func135,Tryz.ntmps135
 go_wp2_with fail
 refine (fletter_any _ c).mono ?_
 rintro e w2 ⟨rfl,rfl⟩
 cases hx:letC c
 all_goals
  have HX:=Lib.hid hx;clear hx
  go_wp2_with fail
  all_goals
   go_ret
   refine ⟨ret_bool ?_,rfl⟩
   unfold oddC
   rw [HX.out,Bool.eq_iff_iff]
   simp
   try omega

/-- All bytes, from one on, are letters or digits. -/
def okFrom (s:ByteArray) (i:Nat):Prop:=∀ j,i<=j->(h:j < s.size)->letB (s[j]'h).toNat=true∨digB (s[j]'h).toNat=true
theorem letC_B (c:Nat):letC (c:Int)=letB c:=by
 unfold letC letB
 rw [Bool.eq_iff_iff]
 simp
 omega
theorem oddC_B (c:Nat):oddC (c:Int)=!(letB c || digB c):=by
 unfold oddC
 rw [letC_B]
 unfold digB
 rw [Bool.eq_iff_iff]
 simp
 omega
theorem oddC_high (c:Nat) (h:128<=c):oddC (c:Int)=true:=by
 rw [oddC_B]
 unfold letB digB
 simp
 omega
def okAt (s:ByteArray) (j:Nat) (h:j < s.size):Prop:=letB (s[j]'h).toNat=true∨digB (s[j]'h).toNat=true
/-- What comes of the search for a byte that is none of a name's. -/
def OddIs (s:ByteArray) (r:Int):Prop:=(r=-1/\okFrom s 0)∨∃ pos:Nat,∃ h:pos < s.size,r=pos/\¬ okAt s pos h/\∀ j,(hj:j < pos)->okAt s j (Nat.lt_trans hj h)
theorem OddIs.one {s:ByteArray} {r r':Int} (h:OddIs s r) (k:OddIs s r'):r=r':=by
 rcases h with ⟨h1,h2⟩ | ⟨p,hp,h1,h2,h3⟩ <;> rcases k with ⟨k1,k2⟩ | ⟨q,hq,k1,k2,k3⟩
 ·omega
 ·exact absurd (k2 |> fun h=>h) (fun hn=>hn (h2 q (by omega) hq))
 ·exact absurd (h2 |> fun h=>h) (fun hn=>hn (k2 p (by omega) hp))
 ·by_cases h:p=q
  ·omega
  ·by_cases hlt:p < q
   ·exact absurd (k3 p hlt) h2
   ·exact absurd (h3 q (by omega)) k2
noncomputable def oddIx (s:ByteArray):Int:=@dite _ (∃ r,OddIs s r) (Classical.propDecidable _) (fun h=>Classical.choose h) (fun _=>0)
theorem oddIx_eq {s:ByteArray} {r:Int} (h:OddIs s r):oddIx s=r:=by
 unfold oddIx
 rw [dif_pos ⟨r,h⟩]
 exact (Classical.choose_spec (p:=fun r=>OddIs s r) ⟨r,h⟩).one h
def OddAt (s:ByteArray) (w:World) (e:Ending) (w':World):Prop:=e=.returned (.int .i64 (oddIx s))/\OddIs s (oddIx s)/\Below w.heap.size w w'

theorem indexF_any (w:World) (s:ByteArray) (hs:s.size<=1000000) (p:Addr) (hp:w.cell? p=some (.func (.func 134) #[] #[])):
  Calls Tryz.prog 169 #[.string s,.func (.func 135) #[] #[.pointer (some p)],.bool true] w (OddAt s w):=by
 have hpb:=World.block_lt_of_cell? w _ hp
 have HP:=Lib.hid hp;clear hp
 go_enter Tryz.func169,Tryz.ntmps169
 go_wp2_with fail
 go_loopw [11] (fun _ wr=>∃ pos:Nat,pos<=s.size/\Hid (wr.heap[w.heap.size]?=some (.stringIter s pos))/\Hid (Below w.heap.size w wr)/\Hid (∀ j,j < pos->(h:j < s.size)->okAt s j h)) (fun _ w'=>s.size - w'.iterPos w.heap.size)
 case atStart=>exact ⟨0,by omega,World.iter_heap w s 0,(Below.refl _ _).alloc (Nat.le_refl _) _,fun j h=>absurd h (by omega)⟩
 case round=>
  obtain ⟨pos,hpos,HI,HB,HO⟩:=hrel
  by_cases hp:pos < s.size
  ·have hnx:∀ ty,(Instr.next (.pointer (some ⟨w.heap.size,0,none⟩)) true ty).run Tryz.prog wr=_:=fun ty=>Lib.run_next_any_at wr w.heap.size s pos ty HI.out hp
   have HI2:=Lib.hid (Lib.iterAt_heap wr w.heap.size s pos (pos+(Utf8.decode s pos).2) HI.out)
   have HB2:=Lib.hid (Lib.below_iterAt HB.out (k:=w.heap.size) (Nat.le_refl _) s (pos+(Utf8.decode s pos).2))
   have HD:Hid (oddC (((Utf8.decode s pos).1:Nat):Int)=true/\¬ okAt s pos hp∨oddC (((Utf8.decode s pos).1:Nat):Int)=false/\(Utf8.decode s pos).2=1/\okAt s pos hp):=by
    by_cases ha:(s[pos]'hp).toNat < 128
    ·have hd:=decode_ascii s pos hp ha
     rw [hd]
     simp only []
     rw [oddC_B]
     by_cases hok:(letB (s[pos]'hp).toNat || digB (s[pos]'hp).toNat)=true
     ·exact .inr ⟨by rw [hok];rfl,trivial,by unfold okAt;simpa using hok⟩
     ·exact .inl ⟨by simpa using hok,fun h=>hok (by unfold okAt at h;simpa using h)⟩
    ·have hd:=decode_high s pos hp (by omega)
     refine .inl ⟨oddC_high _ hd.1,fun h=>?_⟩
     unfold okAt letB digB at h
     simp at h
     omega
   have hle:=_root_.Go.decode_le s pos
   generalize Utf8.decode s pos=d at *
   obtain ⟨c,k⟩:=d
   simp only [] at hnx HI2 HB2 HD hle
   generalize wr.iterAt w.heap.size s (pos+k)=w2 at *
   have hp2:w2.cell? p=some (.func (.func 134) #[] #[]):=(HB2.out.cell hpb).trans HP.out
   go_wp2_with fail
   refine (odd_any w2 p hp2 c).mono ?_
   rintro e w3 ⟨rfl,rfl⟩
   clear hnx hp2
   rcases HD.out with ⟨h1,h2⟩ | ⟨h1,h2,h3⟩
   ·rw [h1]
    have H2:=Lib.hid h2
    clear h1 h2
    go_wp2_with fail
    go_ret
    have ho:OddIs s pos:=.inr ⟨pos,hp,rfl,H2.out,fun j hj=>HO.out j hj _⟩
    have he:=oddIx_eq ho
    exact ⟨by rw [he];rfl,by rw [he];exact ho,HB2.out⟩
   ·rw [h1]
    subst h2
    have H3:=Lib.hid h3
    clear h1 h3
    go_wp2_with fail
    go_roundw
    case rel=>exact ⟨pos+1,by omega,HI2.out,HB2.out,fun j hj h=>by
     by_cases e:j=pos
     ·subst e;exact H3.out
     ·exact HO.out j (by omega) h⟩
    case measure=>
     have e1:w2.iterPos w.heap.size=pos+1:=by unfold World.iterPos;rw [HI2.out]
     have e2:wr.iterPos w.heap.size=pos:=by unfold World.iterPos;rw [HI.out]
     rw [e1,e2];omega
  ·have hnx:∀ ty,(Instr.next (.pointer (some ⟨w.heap.size,0,none⟩)) true ty).run Tryz.prog wr=_:=fun ty=>Lib.run_next_end_at wr w.heap.size s pos ty HI.out hp
   have H0:Hid (OddIs s (-1)):=.inl ⟨rfl,fun j _ h=>HO.out j (by omega) h⟩
   go_wp2_with fail
   go_ret
   exact ⟨by rw [oddIx_eq H0.out];rfl,by rw [oddIx_eq H0.out];exact H0.out,HB.out⟩

theorem indexP_any (w:World) (s:ByteArray) (hs:s.size<=1000000) (p:Addr) (hp:w.cell? p=some (.func (.func 134) #[] #[])):
  Calls Tryz.prog 136 #[.string s,.func (.func 135) #[] #[.pointer (some p)]] w (OddAt s w):=by
 have HX:=Lib.hid (indexF_any w s hs p hp)
 clear hp
 go_enter Tryz.func136,Tryz.ntmps136
 go_wp2_with fail
 refine HX.out.mono ?_
 rintro e w2 ⟨rfl,hr,hb⟩
 have HR:=Lib.hid hr
 have HB:=Lib.hid hb
 clear hr hb
 go_wp2_with fail
 go_ret
 exact ⟨rfl,HR.out,HB.out⟩

theorem nameB_iff (s:ByteArray):nameB s=true ↔ 1<=s.size/\s.size<=32/\okFrom s 0/\(∀ h:0 < s.size,letB (s[0]'h).toNat=true):=by
 have hg:∀ i (h:i < s.size),s.get! i=s[i]'h:=fun i h=>by
  simp [ByteArray.get!,getElem!_pos,h]
  rfl
 unfold nameB okFrom
 simp only [Bool.and_eq_true,decide_eq_true_eq,List.all_eq_true,List.mem_range,Bool.or_eq_true]
 constructor
 ·rintro ⟨⟨h1,h2⟩,h3⟩
  refine ⟨h1,h2,fun j _ hj=>?_,fun h=>?_⟩
  ·have:=h3 j hj
   rw [hg j hj] at this
   rcases this with h | h
   ·exact .inl h
   ·exact .inr h.2
  ·have:=h3 0 h
   rw [hg 0 h] at this
   rcases this with h | h
   ·exact h
   ·omega
 ·rintro ⟨h1,h2,h3,h4⟩
  refine ⟨⟨h1,h2⟩,fun i hi=>?_⟩
  rw [hg i hi]
  by_cases h0:i=0
  ·subst h0;exact .inl (h4 hi)
  ·rcases h3 i (by omega) hi with h | h
   ·exact .inl h
   ·exact .inr ⟨by omega,h⟩

theorem wrap_byte (c:UInt8):wrap32 (c.toNat:Int)=c.toNat:=by
 have:=c.toNat_lt
 unfold wrap32
 omega
theorem oddIx_is (s:ByteArray):OddIs s (oddIx s):=by
 by_cases h:∃ r,OddIs s r
 ·obtain ⟨r,h⟩:=h
  rw [oddIx_eq h];exact h
 ·exfalso
  by_cases hk:okFrom s 0
  ·exact h ⟨-1,.inl ⟨rfl,hk⟩⟩
  ·have:∃ n,∃ hn:n < s.size,¬ okAt s n hn:=by
    refine Classical.byContradiction fun hc=>hk fun j _ hj=>?_
    refine Classical.byContradiction fun hj'=>hc ⟨j,hj,hj'⟩
   have hmin:∀ m,(∃ n,n<=m/\∃ hn:n < s.size,¬ okAt s n hn)->∃ r,OddIs s r:=by
    intro m
    induction m with
    | zero=>
     rintro ⟨n,h1,hn,h2⟩
     obtain rfl:n=0:=by omega
     exact ⟨0,.inr ⟨0,hn,rfl,h2,fun j hj=>absurd hj (by omega)⟩⟩
    | succ m ih=>
     rintro ⟨n,h1,hn,h2⟩
     by_cases hc:∃ n',n'<=m/\∃ hn':n' < s.size,¬ okAt s n' hn'
     ·exact ih hc
     ·refine ⟨(n:Int),.inr ⟨n,hn,rfl,h2,fun j hj=>?_⟩⟩
      exact Classical.byContradiction fun hj'=>hc ⟨j,by omega,Nat.lt_trans hj hn,hj'⟩
   obtain ⟨n,hn,h2⟩:=this
   exact h (hmin n ⟨n,Nat.le_refl _,hn,h2⟩)
theorem oddIx_neg (s:ByteArray):oddIx s < 0 ↔ okFrom s 0:=by
 rcases oddIx_is s with ⟨h1,h2⟩ | ⟨p,hp,h1,h2,_⟩
 ·rw [h1];exact ⟨fun _=>h2,fun _=>by decide⟩
 ·rw [h1];exact ⟨fun h=>by omega,fun h=>absurd (h p (by omega) hp) h2⟩

theorem fname_any (w:World) (s:ByteArray) (hs:s.size<=9223372036854775807):Calls Tryz.prog 98 #[.string s] w fun e w'=>e=.returned (.bool (nameB s))/\Below w.heap.size w w':=by
 have HN:=Lib.hid (nameB_iff s)
 have HBw:Hid (∀ x:Value,Below w.heap.size w ((w.alloc (.cells #[x] 198)))):=fun x=>(Below.refl _ _).alloc (Nat.le_refl _) _
 by_cases h0:s.size=0
 ·have hf:nameB s=false:=by
   cases hx:nameB s
   ·rfl
   ·have:=HN.out.1 hx;omega
  rw [hf]
  have hnil:s.toList=[]:=str_nil.2 h0
  have hnil2:(!s.toList.isEmpty)=false:=by rw [hnil];rfl
  clear HN hf h0
  go_enter Tryz.func98,Tryz.ntmps98
  go_wp2_with fail
  refine wp_region_later (by kernel_rfl) (by kernel_rfl) ?_
  repeat (go_big_quiet_step (fail))
  refine wpQuiet_nil ?_
  intro w5 hw5
  obtain ⟨y,rfl⟩:=hw5
  have HB5:=Lib.hid ((HBw.out _).trans (y.ok.mono (HBw.out _).size))
  go_wp2_with fail
  go_ret
  exact ⟨rfl,HB5.out⟩
 ·have hnn:¬ s.toList=[]:=fun h=>h0 (str_nil.1 h)
  have hnn2:(!s.toList.isEmpty)=true:=by cases hl:s.toList <;> simp_all
  by_cases h32:s.size<=32
  ·have h32':(s.size:Int)<=32:=by omega
   have HIx:=Lib.hid (fun (w':World) (hc:w'.cell? ⟨w.heap.size,0,none⟩=some (.func (.func 134) #[] #[]))=>indexP_any w' s (by omega) ⟨w.heap.size,0,none⟩ hc)
   have HON:=Lib.hid (oddIx_neg s)
   have h0':(0:Int) < s.size:=by omega
   have h0n:0 < s.size:=by omega
   have hget:=letC_B (s[0]'(by omega)).toNat
   go_enter Tryz.func98,Tryz.ntmps98
   go_wp2_with fail
   have HB0:=Lib.hid (HBw.out (.func (.func 134) #[] #[]))
   have HR0:=Lib.hid (hrow.new w #[.func (.func 134) #[] #[]] 198)
   revert HB0 HR0
   generalize w.alloc (.cells #[.func (.func 134) #[] #[]] 198)=W0
   generalize hg:w.heap.size=g at HIx
   intro HB0 HR0
   have hcy:∀ y:Later W0,y.val.cell? ⟨g,0,none⟩=some (.func (.func 134) #[] #[]):=fun y=>(HR0.out.below y.ok).cell 0
   have HI:=Lib.hid (fun y:Later W0=>(HIx.out y.val (hcy y)).mono fun e w' h=>(⟨h.1,h.2.2⟩:e=.returned (.int .i64 (oddIx s))/\Below y.val.heap.size y.val w'))
   have HB1:Hid (Below w.heap.size w W0):=by show Below w.heap.size w W0;rw [hg];exact HB0.out
   have HG:=Lib.hid hg
   clear HIx HBw hg
   by_cases hneg:oddIx s < 0
   ·have hres:nameB s=letC ((s[0]'(by omega)).toNat:Int):=by
     rw [hget,Bool.eq_iff_iff,HN.out]
     exact ⟨fun h=>h.2.2.2 (by omega),fun h=>⟨by omega,h32,HON.out.1 hneg,fun _=>h⟩⟩
    have HRes:=Lib.hid hres
    clear HN HON hget hres h0
    generalize oddIx s=ix at *
    refine wp_region_later (by kernel_rfl) (by kernel_rfl) ?_
    repeat (go_big_quiet_step (first | (go_at_call 136;exact Calls.later (HI.out _)) | (go_at_call 134;exact Calls.later_same (fletter_any _ _))))
    refine wpQuiet_nil ?_
    intro w5 hw5
    obtain ⟨y,rfl⟩:=hw5
    have HB5:=Lib.hid (HB1.out.trans (y.ok.mono HB1.out.size))
    go_wp2_with fail
    go_ret
    exact ⟨ret_bool (by rw [wrap_byte];exact HRes.out.symm),by first | exact HB5.out | (rw [HG.out];exact HB5.out) | (rw [← HG.out];exact HB5.out)⟩
   ·have hf:nameB s=false:=by
     cases hx:nameB s
     ·rfl
     ·exact absurd (HON.out.2 (HN.out.1 hx).2.2.1) hneg
    have hd:decide (oddIx s < 0)=false:=decide_eq_false hneg
    have HF:=Lib.hid hf
    clear HN HON hget hf h0
    generalize oddIx s=ix at *
    refine wp_region_later (by kernel_rfl) (by kernel_rfl) ?_
    repeat (go_big_quiet_step (first | (go_at_call 136;exact Calls.later (HI.out _)) | (go_at_call 134;exact Calls.later_same (fletter_any _ _))))
    refine wpQuiet_nil ?_
    intro w5 hw5
    obtain ⟨y,rfl⟩:=hw5
    have HB5:=Lib.hid (HB1.out.trans (y.ok.mono HB1.out.size))
    go_wp2_with fail
    go_ret
    exact ⟨ret_bool HF.out.symm,by first | exact HB5.out | (rw [HG.out];exact HB5.out) | (rw [← HG.out];exact HB5.out)⟩
  ·have hf:nameB s=false:=by
    cases hx:nameB s
    ·rfl
    ·have:=HN.out.1 hx;omega
   rw [hf]
   have h32':(32:Int) < s.size:=by omega
   have hd:decide ((s.size:Int)<=32)=false:=decide_eq_false (by omega)
   clear HN hf h0 h32
   go_enter Tryz.func98,Tryz.ntmps98
   go_wp2_with fail
   refine wp_region_later (by kernel_rfl) (by kernel_rfl) ?_
   repeat (go_big_quiet_step (fail))
   refine wpQuiet_nil ?_
   intro w5 hw5
   obtain ⟨y,rfl⟩:=hw5
   have HB5:=Lib.hid ((HBw.out _).trans (y.ok.mono (HBw.out _).size))
   go_wp2_with fail
   go_ret
   exact ⟨rfl,HB5.out⟩
end Go.Proofs.YtgjhepblpdnkcaaGreatDoor
