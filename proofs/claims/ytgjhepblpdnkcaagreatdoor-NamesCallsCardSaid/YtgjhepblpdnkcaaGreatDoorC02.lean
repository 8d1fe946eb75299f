/- Walks and plain laws: FV4 FV5 FV6 FV7 Za FAp FAf. -/
import Derived.Test.YtgjhepblpdnkcaaGreatDoorC01
import Derived.Test.YtgjhepblpdnkcaaGreatDoorM09
import Derived.BigQuiet
import Derived.Test.YtgjhepblpdnkcaaGreatDoorM20
import Derived.OwnWalk
import Derived.Test.YtgjhepblpdnkcaaGreatDoorM02
namespace Go.Proofs.YtgjhepblpdnkcaaGreatDoor
open Go.RowKit
set_option maxRecDepth 100000
set_option maxHeartbeats 4000000

theorem rnode_r (w:World) (kind a b c d:Int) (t:ByteArray) (r l:Int) (kids:List Int) (ka:Option Addr) (kc:Nat) (n:Nat) (hr:(r == 0)=false):
  Calls Tryz.prog 159 #[ndv ⟨kind,a,b,c,d,t,r,l,kids⟩ ka kc,.int .i64 n] w fun e w'=>e=.returned (.bool (nodeB n ⟨kind,a,b,c,d,t,r,l,kids⟩))/\Below w.heap.size w w':=by
 have hr2:(!(r == 0))=true:=by rw [hr];rfl
 have hr3:(r != 0)=true:=hr2
 unfold ndv
 have hce:=cls_eq
 go_enter Tryz.func159,Tryz.ntmps159
 go_wp2_with fail
 go_region
 have HC:=Lib.hid (cls_b (kind:=kind) (a:=a) (b:=b) (c:=c) (d:=d) (t:=t) (r:=r) (l:=l) (kids:=kids))
 have HT:=Lib.hid (txt_b (kind:=kind) (a:=a) (b:=b) (c:=c) (d:=d) (t:=t) (r:=r) (l:=l) (kids:=kids))
 have HL:Hid (calB ⟨kind,a,b,c,d,t,r,l,kids⟩=false):=by show _=_;unfold calB;simp only [beq_eq_false_iff_ne,ne_eq,Bool.and_eq_false_iff];simp_all;first | done | omega
 have HB:=Lib.hid ((al2 (Below.refl w.heap.size w) (.cells #[.int .i64 kind,.int .u64 a,.int .u64 b,.int .u64 c,.int .u64 d,.string t,.int .i64 r,.int .i64 l,.slice ka kids.length kc] 45) (.cells #[.int .u64 0,.int .u64 0,.int .u64 0,.int .u64 0] 43)).drew)
 have HX:=Lib.hid (((hrow.new w #[.int .i64 kind,.int .u64 a,.int .u64 b,.int .u64 c,.int .u64 d,.string t,.int .i64 r,.int .i64 l,.slice ka kids.length kc] 45).below ((Below.refl _ _).alloc (Nat.le_refl _) (.cells #[.int .u64 0,.int .u64 0,.int .u64 0,.int .u64 0] 43))).below (Below.refl _ _).drew)
 revert HC HT HB HX
 generalize ((w.alloc (.cells #[.int .i64 kind,.int .u64 a,.int .u64 b,.int .u64 c,.int .u64 d,.string t,.int .i64 r,.int .i64 l,.slice ka kids.length kc] 45)).alloc (.cells #[.int .u64 0,.int .u64 0,.int .u64 0,.int .u64 0] 43)).drew=w2
 generalize (!(a == 0) || !(b == 0) || !(c == 0) || !(d == 0))=cb
 generalize (!t.toList.isEmpty)=tb
 intro HC HT HB HX
 have x0:w2.cell? ⟨w.heap.size,0,none⟩=some (.int .i64 kind):=HX.out.cell 0
 have x5:w2.cell? ⟨w.heap.size,5,none⟩=some (.string t):=HX.out.cell 5
 have x6:w2.cell? ⟨w.heap.size,6,none⟩=some (.int .i64 r):=HX.out.cell 6
 have x7:w2.cell? ⟨w.heap.size,7,none⟩=some (.int .i64 l):=HX.out.cell 7
 have x8:w2.cell? ⟨w.heap.size,8,none⟩=some (.slice ka kids.length kc):=HX.out.cell 8
 clear hce HX
 rcases knd kind with rfl | rfl | rfl | rfl | rfl | rfl | rfl | rfl | rfl | rfl | rfl | rfl | hk
 ·cases cb <;> cases tb
  all_goals
   go_wp2_with fail
   all_goals
    go_ret
    refine ⟨ret_bool ?_,HB.out⟩
    have hC:=HC.out
    have hT:=HT.out
    have hL:=HL.out
    unfold nodeB
    simp only [hC,hT,hL]
    (rw [Bool.eq_iff_iff];simp;first | done | omega | grind)
 ·cases cb <;> cases tb
  all_goals
   go_wp2_with fail
   all_goals
    go_ret
    refine ⟨ret_bool ?_,HB.out⟩
    have hC:=HC.out
    have hT:=HT.out
    have hL:=HL.out
    unfold nodeB
    simp only [hC,hT,hL]
    (rw [Bool.eq_iff_iff];simp;first | done | omega | grind)
 ·cases cb <;> cases tb
  all_goals
   go_wp2_with fail
   all_goals
    go_ret
    refine ⟨ret_bool ?_,HB.out⟩
    have hC:=HC.out
    have hT:=HT.out
    have hL:=HL.out
    unfold nodeB
    simp only [hC,hT,hL]
    (rw [Bool.eq_iff_iff];simp;first | done | omega | grind)
 ·cases cb <;> cases tb
  all_goals
   go_wp2_with fail
   all_goals
    go_ret
    refine ⟨ret_bool ?_,HB.out⟩
    have hC:=HC.out
    have hT:=HT.out
    have hL:=HL.out
    unfold nodeB
    simp only [hC,hT,hL]
    (rw [Bool.eq_iff_iff];simp;first | done | omega | grind)
 ·cases cb <;> cases tb
  all_goals
   go_wp2_with fail
   all_goals
    go_ret
    refine ⟨ret_bool ?_,HB.out⟩
    have hC:=HC.out
    have hT:=HT.out
    have hL:=HL.out
    unfold nodeB
    simp only [hC,hT,hL]
    (rw [Bool.eq_iff_iff];simp;first | done | omega | grind)
 ·cases cb <;> cases tb
  all_goals
   go_wp2_with fail
   all_goals
    go_ret
    refine ⟨ret_bool ?_,HB.out⟩
    have hC:=HC.out
    have hT:=HT.out
    have hL:=HL.out
    unfold nodeB
    simp only [hC,hT,hL]
    (rw [Bool.eq_iff_iff];simp;first | done | omega | grind)
 ·cases cb <;> cases tb
  all_goals
   go_wp2_with fail
   all_goals
    go_ret
    refine ⟨ret_bool ?_,HB.out⟩
    have hC:=HC.out
    have hT:=HT.out
    have hL:=HL.out
    unfold nodeB
    simp only [hC,hT,hL]
    (rw [Bool.eq_iff_iff];simp;first | done | omega | grind)
 ·cases cb <;> cases tb
  all_goals
   go_wp2_with fail
   all_goals
    go_ret
    refine ⟨ret_bool ?_,HB.out⟩
    have hC:=HC.out
    have hT:=HT.out
    have hL:=HL.out
    unfold nodeB
    simp only [hC,hT,hL]
    (rw [Bool.eq_iff_iff];simp;first | done | omega | grind)
 ·cases cb <;> cases tb
  all_goals
   go_wp2_with fail
   all_goals
    go_ret
    refine ⟨ret_bool ?_,HB.out⟩
    have hC:=HC.out
    have hT:=HT.out
    have hL:=HL.out
    unfold nodeB
    simp only [hC,hT,hL]
    (rw [Bool.eq_iff_iff];simp;first | done | omega | grind)
 ·cases cb <;> cases tb
  all_goals
   go_wp2_with fail
   all_goals
    go_ret
    refine ⟨ret_bool ?_,HB.out⟩
    have hC:=HC.out
    have hT:=HT.out
    have hL:=HL.out
    unfold nodeB
    simp only [hC,hT,hL]
    (rw [Bool.eq_iff_iff];simp;first | done | omega | grind)
 ·cases cb <;> cases tb
  all_goals
   go_wp2_with fail
   all_goals
    go_ret
    refine ⟨ret_bool ?_,HB.out⟩
    have hC:=HC.out
    have hT:=HT.out
    have hL:=HL.out
    unfold nodeB
    simp only [hC,hT,hL]
    (rw [Bool.eq_iff_iff];simp;first | done | omega | grind)
 ·cases cb <;> cases tb
  all_goals
   go_wp2_with fail
   all_goals
    go_ret
    refine ⟨ret_bool ?_,HB.out⟩
    have hC:=HC.out
    have hT:=HT.out
    have hL:=HL.out
    unfold nodeB
    simp only [hC,hT,hL]
    (rw [Bool.eq_iff_iff];simp;first | done | omega | grind)
 ·obtain ⟨k1,k2,k3,k4,k5,k6,k7,k8,k9,k10,k11,k12⟩:=hk
  have HN:Hid (nodeB n ⟨kind,a,b,c,d,t,r,l,kids⟩=false):=by
   show _=_
   have k1':=beq_eq_false_iff_ne.1 k1
   have k2':=beq_eq_false_iff_ne.1 k2
   have k3':=beq_eq_false_iff_ne.1 k3
   have k4':=beq_eq_false_iff_ne.1 k4
   have k5':=beq_eq_false_iff_ne.1 k5
   have k6':=beq_eq_false_iff_ne.1 k6
   have k7':=beq_eq_false_iff_ne.1 k7
   have k8':=beq_eq_false_iff_ne.1 k8
   have k9':=beq_eq_false_iff_ne.1 k9
   have k10':=beq_eq_false_iff_ne.1 k10
   have k11':=beq_eq_false_iff_ne.1 k11
   have k12':=beq_eq_false_iff_ne.1 k12
   unfold nodeB
   simp only []
   rw [if_neg (by omega),if_neg (by omega),if_neg (by omega),if_neg (by omega),if_neg (by omega),if_neg (by omega)]
  go_wp2_with fail
  go_ret
  exact ⟨ret_bool HN.out.symm,HB.out⟩
end Go.Proofs.YtgjhepblpdnkcaaGreatDoor
namespace Go.Proofs.YtgjhepblpdnkcaaGreatDoor
open Go.RowKit

theorem rnode_any (w:World) (x:Nd) (ka:Option Addr) (kc:Nat) (n:Nat) (ht:x.text.size<=9223372036854775807):
  Calls Tryz.prog 159 #[ndv x ka kc,.int .i64 n] w fun e w'=>e=.returned (.bool (nodeB n x))/\Below w.heap.size w w':=by
 obtain ⟨kind,a,b,c,d,t,r,l,kids⟩:=x
 by_cases hr:r=0
 ·subst hr
  by_cases hl:l=0
  ·subst hl
   exact rnode_00 w kind a b c d t kids ka kc n ht
  ·exact rnode_0l w kind a b c d t l kids ka kc n (by simpa using hl)
 ·exact rnode_r w kind a b c d t r l kids ka kc n (by simpa using hr)
end Go.Proofs.YtgjhepblpdnkcaaGreatDoor
namespace Go.Proofs.YtgjhepblpdnkcaaGreatDoor
open Go.RowKit
set_option maxRecDepth 100000
set_option maxHeartbeats 4000000

/-- What 'after' tells. -/
def aftI (N:List Nd) (left n:Nat):Int×Int:=match aft N left n with | some (a,h)=>((a:Int),(h:Int)) | none=>(-1,0)

theorem raft_any (ro:Option Addr) (rn rc:Nat) (no:Option Addr) (nn nc:Nat) (NK:List (Nd×(Option Addr×Nat))):∀ (left:Nat) (w:World) (n:Nat) (_:NdW w no nn nc NK) (_:left<=100) (_:n<=1000000) (_:nn<=2048),
  Calls Tryz.prog 161 #[grv ro rn rc no nn nc,.int .i64 n,.int .i64 left] w fun e w'=>e=.returned (.tuple #[.int .i64 (aftI (NK.map (·.1)) left n).1,.int .i64 (aftI (NK.map (·.1)) left n).2])/\Below w.heap.size w w'
 | 0,w,n,hN,hle,hn,hnn=>by
  have HB0:=Lib.hid (al1 (Below.refl w.heap.size w) (.cells #[.slice ro rn rc,.slice no nn nc] 25))
  unfold grv
  by_cases hlt:n < nn
  ·have hlt':¬ ((nn:Int)<=n):=by omega
   go_enter Tryz.func161,Tryz.ntmps161
   go_wp2_with fail
   exact bodyPost_ret (v:=.tuple #[.int .i64 (-1),.int .i64 0]) (by simp [results,Tryz.results161,go_sem]) rfl ⟨rfl,HB0.out⟩
  ·have hlt':(nn:Int)<=n:=by omega
   go_enter Tryz.func161,Tryz.ntmps161
   go_wp2_with fail
   exact bodyPost_ret (v:=.tuple #[.int .i64 (-1),.int .i64 0]) (by simp [results,Tryz.results161,go_sem]) rfl ⟨rfl,HB0.out⟩
 | left+1,w,n,hN,hle,hn,hnn=>by
  have ih:=raft_any ro rn rc no nn nc NK left
  have HIH:=Lib.hid ih
  clear ih
  have HB0:=Lib.hid (al1 (Below.refl w.heap.size w) (.cells #[.slice ro rn rc,.slice no nn nc] 25))
  unfold grv
  have HN:=Lib.hid hN
  have hl:=hN.sv.n_eq ndc_len (by decide)
  have HL:=Lib.hid hl
  obtain ⟨b1,b2⟩:=hN.sv.bound
  clear hl hN
  have hl1:¬ ((left+1:Nat):Int) < 1:=by omega
  by_cases hlt:n < nn
  ·have hlt':¬ ((nn:Int)<=n):=by omega
   go_enter Tryz.func161,Tryz.ntmps161
   go_wp2_with fail
   have HG0:=Lib.hid (hrow.new w #[.slice ro rn rc,.slice no nn nc] 25)
   revert HB0 HG0
   generalize w.alloc (.cells #[.slice ro rn rc,.slice no nn nc] 25)=w0
   intro HB0 HG0
   have hnl:n < NK.length:=by have:=HL.out;omega
   have hmem:NK[n]'hnl ∈ NK:=List.getElem_mem hnl
   have HA:Hid (aft (NK.map (·.1)) (left+1) n=kidsF (aft (NK.map (·.1)) left) (NK[n]'hnl).1.kids (n+1) 1):=by
    show _=_
    rw [aft,List.getElem?_map,List.getElem?_eq_getElem hnl]
    rfl
   obtain ⟨na,rfl,hc⟩:=Sv.at ndc_len (HN.out.below HB0.out).sv (by decide) n hnl
   have HC8:Hid (∀ {wr:World},Below w0.heap.size w0 wr->wr.cell? ⟨(na.add (n * 9)).block,(na.add (n * 9)).off+8,none⟩=some (.slice (NK[n]'hnl).2.1 (NK[n]'hnl).1.kids.length (NK[n]'hnl).2.2)):=by
    intro wr hb
    have hx:=hc 8 _ rfl
    rw [add_off _ _ _ (by decide)] at hx
    exact (hb.cell (World.block_lt_of_cell? _ _ hx)).trans hx
   have HK:=Lib.hid (HN.out.kids _ hmem)
   clear hc hmem
   generalize (NK[n]'hnl)=q at *
   obtain ⟨⟨kd,q0,q1,q2,q3,tx,ru,lv,ks⟩,ka,kc⟩:=q
   simp only [] at HA HC8 HK
   have hkb:=HK.out.bound
   go_loopw [8,9,10,11,12] (fun a b c _ _ wr=>∃ (i nx hi:Nat),i<=ks.length/\nx<=2048/\hi<=2048/\c=.int .i64 i/\a=.int .i64 nx/\b=.int .i64 hi/\Hid (Below w0.heap.size w0 wr)/\Hid (kidsF (aft (NK.map (·.1)) left) (ks.drop i) nx hi=aft (NK.map (·.1)) (left+1) n)) (fun _ _ c _ _ _=>ks.length - (intOf c).toNat)
   case atStart=>exact ⟨0,n+1,1,by omega,by omega,by omega,rfl,by go_num,rfl,Below.refl _ _,HA.out.symm⟩
   case round=>
    obtain ⟨i,nx,hi,hile,hnx,hhi,rfl,rfl,rfl,HI,HQ⟩:=hrel
    obtain ⟨bg0,bg1⟩:=((HG0.out.below HI.out)).c2
    have c8:=HC8.out HI.out
    have hnz:(0:Int)<=n:=by omega
    have HBw:=Lib.hid (HB0.out.trans (HI.out.mono HB0.out.size))
    by_cases hit:i < ks.length
    ·have hit':(i:Int) < ks.length:=by omega
     have hiz:(0:Int)<=i:=by omega
     obtain ⟨kb,rfl,hkc⟩:=(HK.out.below HBw.out).cell i (by simp [inc];omega)
     have hk:wr.cell? (kb.add i)=some (.int .i64 (ks[i]'hit)):=by rw [hkc];simp [inc,hit]
     have HQ2:Hid ((if (ks[i]'hit)=(nx:Int) then (match aft (NK.map (·.1)) left nx with | some (m1,hh)=>kidsF (aft (NK.map (·.1)) left) (ks.drop (i+1)) m1 (max hi (1+hh)) | none=>none) else none)=aft (NK.map (·.1)) (left+1) n):=by
      have h1:=HQ.out
      rw [List.drop_eq_getElem_cons hit] at h1
      exact h1
     clear HQ hkc
     generalize ks[i]'hit=k at *
     by_cases hk1:k=(nx:Int)
     case neg=>
      have HF:Hid (aftI (NK.map (·.1)) (left+1) n=(-1,0)):=by
       show _=_
       unfold aftI
       rw [← HQ2.out,if_neg hk1]
      have hk2:(k != (nx:Int))=true:=by simpa using hk1
      clear HQ2
      go_wp2_with fail
      exact bodyPost_ret (v:=.tuple #[.int .i64 (-1),.int .i64 0]) (by simp [results,Tryz.results161,go_sem]) rfl ⟨by rw [HF.out],HBw.out⟩
     case pos=>
      have hq2:=HQ2.out
      rw [if_pos hk1] at hq2
      clear HQ2
      have HQ2:=Lib.hid hq2
      clear hq2
      subst hk1
      have hk2:((nx:Int) != (nx:Int))=false:=by simp
      go_wp2_with fail
      refine (HIH.out wr nx (HN.out.below HBw.out) (by omega) (by omega) hnn).mono ?_
      rintro e w3 ⟨rfl,hb3⟩
      have HI3:=Lib.hid (HI.out.trans (hb3.mono HI.out.size))
      have HB3:=Lib.hid (HB0.out.trans (HI3.out.mono HB0.out.size))
      clear hb3
      cases ea:aft (NK.map (·.1)) left nx with
      | none=>
       have HF:Hid (aftI (NK.map (·.1)) (left+1) n=(-1,0)):=by
        show _=_
        unfold aftI
        rw [← HQ2.out,ea]
       have HV:aftI (NK.map (·.1)) left nx=(-1,0):=by unfold aftI;rw [ea]
       rw [HV]
       clear HQ2 HV ea
       go_wp2_with fail
       exact bodyPost_ret (v:=.tuple #[.int .i64 (-1),.int .i64 0]) (by simp [results,Tryz.results161,go_sem]) rfl ⟨by rw [HF.out],HB3.out⟩
      | some p=>
       obtain ⟨m1,hh⟩:=p
       have hr1:=aft_range ea
       have hr2:=aft_mono ea
       have hto:m1<=2048:=by have:=HL.out;have:=hr1.2.1;simp at this;omega
       have hhh:hh<=100:=by omega
       have HQ3:Hid (kidsF (aft (NK.map (·.1)) left) (ks.drop (i+1)) m1 (max hi (1+hh))=aft (NK.map (·.1)) (left+1) n):=by
        have h2:=HQ2.out
        rw [ea] at h2
        exact h2
       have HV:aftI (NK.map (·.1)) left nx=((m1:Int),(hh:Int)):=by unfold aftI;rw [ea]
       rw [HV]
       clear HQ2 HV ea hr1 hr2
       have htz:(0:Int)<=m1:=by omega
       go_wp2_with fail
       exact ⟨⟨i+1,m1,max hi (1+hh),by omega,hto,by omega,by go_num,rfl,by congr 1;first | (split <;> omega) | omega,HI3.out,HQ3.out⟩,by simp [intOf];omega⟩
    ·have hge:(ks.length:Int)<=i:=by omega
     have HF:Hid (aftI (NK.map (·.1)) (left+1) n=((nx:Int),(hi:Int))):=by
      show _=_
      unfold aftI
      rw [← HQ.out,List.drop_eq_nil_of_le (by omega)]
      rfl
     go_wp2_with fail
     exact bodyPost_ret (v:=.tuple #[.int .i64 nx,.int .i64 hi]) (by simp [results,Tryz.results161,go_sem]) rfl ⟨by rw [HF.out],HBw.out⟩
  ·have hlt':(nn:Int)<=n:=by omega
   have hF:Hid (aftI (NK.map (·.1)) (left+1) n=(-1,0)):=by
    show _=_
    unfold aftI aft
    rw [List.getElem?_eq_none (by have:=HL.out;simp;omega)]
   go_enter Tryz.func161,Tryz.ntmps161
   go_wp2_with fail
   rw [hF.out]
   exact bodyPost_ret (v:=.tuple #[.int .i64 (-1),.int .i64 0]) (by simp [results,Tryz.results161,go_sem]) rfl ⟨rfl,HB0.out⟩
end Go.Proofs.YtgjhepblpdnkcaaGreatDoor
namespace Go.Proofs.YtgjhepblpdnkcaaGreatDoor
open Go.RowKit
set_option maxRecDepth 100000
set_option maxHeartbeats 4000000

theorem rrright_siz {G:Gr} (h:¬ (1<=G.rules.length/\G.rules.length<=32/\G.nodes.length<=2048)):rightR G=false:=by
 have h0:sizB G=false:=by
  unfold sizB
  rw [Bool.eq_false_iff]
  intro h'
  simp only [Bool.and_eq_true,decide_eq_true_eq] at h'
  omega
 unfold rightR
 rw [h0];simp
theorem rrright_nod {G:Gr} (h:G.nodes.all (nodeB G.rules.length)=false):rightR G=false:=by
 unfold rightR
 rw [h];simp
theorem rrright_run {G:Gr} (h1:1<=G.rules.length/\G.rules.length<=32/\G.nodes.length<=2048) (h2:G.nodes.all (nodeB G.rules.length)=true):
  rightR G=(rulR G G.rules 0 0 == some G.nodes.length):=by
 unfold rightR sizB
 rw [h2]
 simp [h1.1,h1.2.1,h1.2.2]
theorem rulR_cons {G:Gr} {l:List Ru} {i n:Nat} (h:i < l.length):rulR G (l.drop i) i n=if nameB (l[i]'h).name=true/\ruleIx G.rules (l[i]'h).name=i/\(l[i]'h).body=n then (match aft G.nodes 16 n with | some (m1,_)=>rulR G (l.drop (i+1)) (i+1) m1 | none=>none) else none:=by
 rw [List.drop_eq_getElem_cons h]
 rfl
theorem bad_ofR {C:Prop} [Decidable C] {x y:Option Nat} {z:Nat} {b:Bool} (h:(if C then x else none)=y) (hC:¬ C) (hp:b=(y == some z)):b=false:=by
 rw [if_neg hC] at h
 rw [hp,← h];rfl

theorem rright_small (w:World) (ro:Option Addr) (rn rc:Nat) (no:Option Addr) (nn nc:Nat) (G:Gr) (hr:rn<=rc/\rc<=9223372036854775807) (hn:nn<=nc/\nc<=9223372036854775807) (e1:G.rules.length=rn) (e2:G.nodes.length=nn)
  (hsz:¬ (1<=rn/\rn<=32/\nn<=2048)):
  Calls Tryz.prog 129 #[grv ro rn rc no nn nc] w fun e w'=>e=.returned (.bool (rightR G))/\Below w.heap.size w w':=by
 obtain ⟨b1,b2⟩:=hr
 obtain ⟨b3,b4⟩:=hn
 rw [rrright_siz (by rw [e1,e2];exact hsz)]
 have HB:=Lib.hid (al1 (Below.refl w.heap.size w) (.cells #[.slice ro rn rc,.slice no nn nc] 25))
 unfold grv
 clear e1 e2
 by_cases h1:rn=0
 ·subst h1
  clear hsz
  go_enter Tryz.func129,Tryz.ntmps129
  go_wp2_with fail
  exact bodyPost_ret (v:=.bool false) (by simp [results,Tryz.results129,go_sem]) rfl ⟨rfl,HB.out⟩
 ·have t1:¬ (rn:Int) < 1:=by omega
  by_cases h2:rn<=32
  ·have h2':(rn:Int)<=32:=by omega
   have h3:(2048:Int) < nn:=by omega
   clear hsz
   go_enter Tryz.func129,Tryz.ntmps129
   go_wp2_with fail
   exact bodyPost_ret (v:=.bool false) (by simp [results,Tryz.results129,go_sem]) rfl ⟨rfl,HB.out⟩
  ·have h2':(32:Int) < rn:=by omega
   clear hsz
   go_enter Tryz.func129,Tryz.ntmps129
   go_wp2_with fail
   exact bodyPost_ret (v:=.bool false) (by simp [results,Tryz.results129,go_sem]) rfl ⟨rfl,HB.out⟩
theorem rright_any (w:World) (ro:Option Addr) (rn rc:Nat) (no:Option Addr) (nn nc:Nat) (NK:List (Nd×(Option Addr×Nat))) (G:Gr) (hG:GrW w ro rn rc no nn nc NK G):
  Calls Tryz.prog 129 #[grv ro rn rc no nn nc] w fun e w'=>e=.returned (.bool (rightR G))/\Below w.heap.size w w':=by
 have hrl:=hG.rul.n_eq ruc_len (by decide)
 have hnl:G.nodes.length=nn:=by rw [← hG.eq,List.length_map];exact hG.nod.sv.n_eq ndc_len (by decide)
 by_cases hsz:¬ (1<=rn/\rn<=32/\nn<=2048)
 ·exact rright_small w ro rn rc no nn nc G hG.rul.bound hG.nod.sv.bound hrl hnl hsz
 have hsz':1<=rn/\rn<=32/\nn<=2048:=by omega
 obtain ⟨h1,h2,h3⟩:=hsz'
 obtain ⟨b1,b2⟩:=hG.rul.bound
 obtain ⟨b3,b4⟩:=hG.nod.sv.bound
 have t1:¬ ((rn:Int) < 1):=by omega
 have h2':(rn:Int)<=32:=by omega
 have h3':(nn:Int)<=2048:=by omega
 have HG:=Lib.hid hG
 have HRl:=Lib.hid hrl
 have HNl:=Lib.hid hnl
 unfold grv
 clear hG hrl hnl hsz
 go_enter Tryz.func129,Tryz.ntmps129
 go_wp2_with fail
 have HB0:=Lib.hid (al1 (Below.refl w.heap.size w) (.cells #[.slice ro rn rc,.slice no nn nc] 25))
 have HG0:=Lib.hid (hrow.new w #[.slice ro rn rc,.slice no nn nc] 25)
 revert HB0 HG0
 generalize w.alloc (.cells #[.slice ro rn rc,.slice no nn nc] 25)=w0
 intro HB0 HG0
 have HL:=Lib.hid (show NK.length=nn by rw [← HNl.out,← HG.out.eq,List.length_map])
 go_loopw [3] (fun i wr=>∃ k:Nat,k<=nn/\i=.int .i64 k/\Hid (Below w0.heap.size w0 wr/\∀ i,(h:i < k)->(h':i < NK.length)->nodeB rn (NK[i]'h').1=true)) (fun i _=>nn - (intOf i).toNat)
 case atStart=>exact ⟨0,by omega,rfl,Below.refl _ _,fun i h=>absurd h (by omega)⟩
 case round=>
  obtain ⟨k,hk,rfl,HI⟩:=hrel
  obtain ⟨bg0,bg1⟩:=((HG0.out.below HI.out.1)).c2
  have HBw:=Lib.hid (HB0.out.trans (HI.out.1.mono HB0.out.size))
  by_cases hlt2:k < nn
  ·have hk':(k:Int) < nn:=by omega
   have hkz:(0:Int)<=k:=by omega
   have hkl:k < NK.length:=by have:=HL.out;omega
   have hmem:NK[k]'hkl ∈ NK:=List.getElem_mem hkl
   obtain ⟨ra,rfl,hc⟩:=Sv.at ndc_len (HG.out.nod.below HBw.out).sv (by decide) k hkl
   have htx:=HG.out.nod.txt _ hmem
   have HY:Hid (nodeB rn (NK[k]'hkl).1=false->¬ (NK.map (·.1)).all (nodeB rn)=true):=fun h hall=>by
    have:=List.all_eq_true.1 hall (NK[k]'hkl).1 (List.mem_map.2 ⟨_,hmem,rfl⟩)
    rw [h] at this;cases this
   have HM:Hid (nodeB rn (NK[k]'hkl).1=true->∀ i,(h:i < k+1)->(h':i < NK.length)->nodeB rn (NK[i]'h').1=true):=fun h i hi h'=>by
    by_cases e:i=k
    ·subst e;exact h
    ·exact HI.out.2 i (by omega) h'
   clear hmem
   generalize NK[k]'hkl=q at *
   obtain ⟨⟨kd,a,b,c,d,t,r,l,kids⟩,ka,kc⟩:=q
   simp only [] at htx HY HM
   have c0:wr.cell? (ra.add (k * 9))=some (.int .i64 kd):=hc 0 _ rfl
   have cc:=fun j v (hj:0 < j) (h:(ndc (⟨kd,a,b,c,d,t,r,l,kids⟩,ka,kc))[j]?=some v)=>(add_off ra (k * 9) j hj) ▸ hc j v h
   have c1:wr.cell? ⟨(ra.add (k * 9)).block,(ra.add (k * 9)).off+1,none⟩=some (.int .u64 a):=cc 1 _ (by decide) rfl
   have c2:wr.cell? ⟨(ra.add (k * 9)).block,(ra.add (k * 9)).off+2,none⟩=some (.int .u64 b):=cc 2 _ (by decide) rfl
   have c3:wr.cell? ⟨(ra.add (k * 9)).block,(ra.add (k * 9)).off+3,none⟩=some (.int .u64 c):=cc 3 _ (by decide) rfl
   have c4:wr.cell? ⟨(ra.add (k * 9)).block,(ra.add (k * 9)).off+4,none⟩=some (.int .u64 d):=cc 4 _ (by decide) rfl
   have c5:wr.cell? ⟨(ra.add (k * 9)).block,(ra.add (k * 9)).off+5,none⟩=some (.string t):=cc 5 _ (by decide) rfl
   have c6:wr.cell? ⟨(ra.add (k * 9)).block,(ra.add (k * 9)).off+6,none⟩=some (.int .i64 r):=cc 6 _ (by decide) rfl
   have c7:wr.cell? ⟨(ra.add (k * 9)).block,(ra.add (k * 9)).off+7,none⟩=some (.int .i64 l):=cc 7 _ (by decide) rfl
   have c8:wr.cell? ⟨(ra.add (k * 9)).block,(ra.add (k * 9)).off+8,none⟩=some (.slice ka kids.length kc):=cc 8 _ (by decide) rfl
   clear hc cc
   have HNd:=Lib.hid (fun W=>rnode_any W ⟨kd,a,b,c,d,t,r,l,kids⟩ ka kc rn htx)
   clear htx
   go_wp2_with fail
   go_region_with ((go_at_call 159;refine (HNd.out _).mono ?_;rintro e w3 ⟨rfl,hb3⟩))
   all_goals
    have HI3:=Lib.hid (HI.out.1.trans (((Below.refl wr.heap.size wr).drew.trans hb3).mono HI.out.1.size))
    have HB3:=Lib.hid (HB0.out.trans (HI3.out.mono HB0.out.size))
    clear hb3
    cases hb:nodeB rn ⟨kd,a,b,c,d,t,r,l,kids⟩
    ·have HF:=Lib.hid (rrright_nod (G:=G) (by rw [← HG.out.eq,HRl.out];exact Bool.eq_false_iff.2 (HY.out hb)))
     clear hb HY HM
     go_wp2_with fail
     exact bodyPost_ret (v:=.bool false) (by simp [results,Tryz.results129,go_sem]) rfl ⟨by rw [HF.out],HB3.out⟩
    ·have HRes:=Lib.hid (HM.out hb)
     clear hb HY HM
     go_wp2_with fail
     go_roundw
     case rel=>exact ⟨k+1,by omega,by go_num,HI3.out,HRes.out⟩
     case measure=>simp [intOf];omega
  ·have hge:(nn:Int)<=k:=by omega
   have HAll:Hid (G.nodes.all (nodeB G.rules.length)=true):=by
    show _=_
    rw [← HG.out.eq,HRl.out,List.all_eq_true]
    intro x hx
    obtain ⟨y,hy,rfl⟩:=List.mem_map.1 hx
    obtain ⟨i,hi,rfl⟩:=List.getElem_of_mem hy
    exact HI.out.2 i (by have:=HL.out;omega) hi
   have HP:=Lib.hid (rrright_run (G:=G) (by rw [HRl.out,HNl.out];exact ⟨h1,h2,h3⟩) HAll.out)
   have HI1:=Lib.hid HI.out.1
   clear HI
   go_wp2_with fail
   go_loopw [4,5] (fun nx k wr=>∃ i n:Nat,k=.int .i64 i/\nx=.int .i64 n/\i<=rn/\n<=nn/\Hid (Below w0.heap.size w0 wr)/\Hid (rulR G (G.rules.drop i) i n=rulR G G.rules 0 0)) (fun _ k _=>rn - (intOf k).toNat)
   case atStart=>exact ⟨0,0,rfl,rfl,Nat.zero_le _,Nat.zero_le _,HI1.out,rfl⟩
   case round=>
    clear HBw HI1 bg0 bg1
    obtain ⟨i,n,rfl,rfl,hi,hn,HI,HQ⟩:=hrel
    obtain ⟨bg0,bg1⟩:=((HG0.out.below HI.out)).c2
    have HBw:=Lib.hid (HB0.out.trans (HI.out.mono HB0.out.size))
    by_cases hit:i < rn
    ·have hit':(i:Int) < rn:=by omega
     have hiz:(0:Int)<=i:=by omega
     have hil:i < G.rules.length:=by have:=HRl.out;omega
     obtain ⟨ra,rfl,hc⟩:=Sv.at ruc_len (HG.out.below HBw.out).rul (by decide) i hil
     have c0:wr.cell? (ra.add (i * 2))=some (.string (G.rules[i]'hil).name):=hc 0 _ rfl
     have c1:wr.cell? ⟨(ra.add (i * 2)).block,(ra.add (i * 2)).off+1,none⟩=some (.int .i64 (G.rules[i]'hil).body):=by
      have:=hc 1 _ rfl
      rw [add_off _ _ _ (by decide)] at this
      exact this
     have hns:(G.rules[i]'hil).name.size<=9223372036854775807:=HG.out.nam _ (List.getElem_mem hil)
     have HQ2:=Lib.hid ((rulR_cons (G:=G) (n:=n) hil).symm.trans HQ.out)
     clear hc HQ
     generalize G.rules[i]'hil=r at *
     clear hil
     obtain ⟨nm,bo⟩:=r
     simp only [] at c0 c1 hns HQ2
     have d0:∀ y:Later wr,y.val.cell? ⟨w.heap.size,0,none⟩=some (.slice (some ra) rn rc):=fun y=>(HG0.out.below (HI.out.trans (y.ok.mono HI.out.size))).cell 0
     have d1:∀ y:Later wr,y.val.cell? ⟨w.heap.size,1,none⟩=some (.slice no nn nc):=fun y=>(HG0.out.below (HI.out.trans (y.ok.mono HI.out.size))).cell 1
     have d2:∀ y:Later wr,y.val.cell? (ra.add (i * 2))=some (.string nm):=fun y=>(y.ok.cell (World.block_lt_of_cell? _ _ c0)).trans c0
     have d3:∀ y:Later wr,y.val.cell? ⟨(ra.add (i * 2)).block,(ra.add (i * 2)).off+1,none⟩=some (.int .i64 bo):=fun y=>(y.ok.cell (World.block_lt_of_cell? _ _ c1)).trans c1
     have HNm:=Lib.hid (fun y:Later wr=>rname_any y.val nm hns)
     have HRu:=Lib.hid (fun y:Later wr=>rrule_any y.val (some ra) rn rc no nn nc G.rules ((HG.out.below HBw.out).below y.ok).rul nm)
     clear hns
     go_upto_region 12 with (fail)
     generalize hrx:ruleIx G.rules nm=rx at HRu HQ2
     by_cases hall:nameB nm=true/\rx=(i:Int)/\bo=(n:Int)
     case neg=>
      have HF:=Lib.hid (bad_ofR HQ2.out hall HP.out)
      generalize nameB nm=b at *
      refine wp_region_later (by kernel_rfl) (by kernel_rfl) ?_
      cases b
      ·repeat (go_big_quiet_step (first | (go_at_call 160;exact Calls.later (HNm.out _)) | (go_at_call 66;exact Calls.later (HRu.out _))))
       refine wpQuiet_nil ?_
       intro w5 hw5
       obtain ⟨y,rfl⟩:=hw5
       have HB5:=Lib.hid (HBw.out.trans (y.ok.mono HBw.out.size))
       go_wp2_with fail
       exact bodyPost_ret (v:=.bool false) (by simp [results,Tryz.results129,go_sem]) rfl ⟨by rw [HF.out],HB5.out⟩
      ·by_cases h1:rx=(i:Int)
       ·have h2:(bo != (n:Int))=true:=by simp;intro h;exact hall ⟨rfl,h1,h⟩
        have h1':(rx != (i:Int))=false:=by simp [h1]
        clear HQ2 hall
        repeat (go_big_quiet_step (first | (go_at_call 160;exact Calls.later (HNm.out _)) | (go_at_call 66;exact Calls.later (HRu.out _))))
        refine wpQuiet_nil ?_
        intro w5 hw5
        obtain ⟨y,rfl⟩:=hw5
        have HB5:=Lib.hid (HBw.out.trans (y.ok.mono HBw.out.size))
        go_wp2_with fail
        exact bodyPost_ret (v:=.bool false) (by simp [results,Tryz.results129,go_sem]) rfl ⟨by rw [HF.out],HB5.out⟩
       ·have h1':(rx != (i:Int))=true:=by simpa using h1
        clear HQ2 hall
        repeat (go_big_quiet_step (first | (go_at_call 160;exact Calls.later (HNm.out _)) | (go_at_call 66;exact Calls.later (HRu.out _))))
        refine wpQuiet_nil ?_
        intro w5 hw5
        obtain ⟨y,rfl⟩:=hw5
        have HB5:=Lib.hid (HBw.out.trans (y.ok.mono HBw.out.size))
        go_wp2_with fail
        exact bodyPost_ret (v:=.bool false) (by simp [results,Tryz.results129,go_sem]) rfl ⟨by rw [HF.out],HB5.out⟩
     case pos=>
      have hq:=HQ2.out
      rw [if_pos hall] at hq
      have HQ3:=Lib.hid hq
      clear hq HQ2
      obtain ⟨hb,h1,h2⟩:=hall
      rw [hb] at HNm
      subst h1
      subst h2
      have h1':((i:Int) != (i:Int))=false:=by simp
      have h2':((n:Int) != (n:Int))=false:=by simp
      refine wp_region_later (by kernel_rfl) (by kernel_rfl) ?_
      repeat (go_big_quiet_step (first | (go_at_call 160;exact Calls.later (HNm.out _)) | (go_at_call 66;exact Calls.later (HRu.out _))))
      refine wpQuiet_nil ?_
      intro w5 hw5
      obtain ⟨y,rfl⟩:=hw5
      have HB5:=Lib.hid (HBw.out.trans (y.ok.mono HBw.out.size))
      have HI5:=Lib.hid (HI.out.trans (y.ok.mono HI.out.size))
      have e0:=d0 y
      have e1:=d1 y
      clear d0 d1 d2 d3 HNm HRu
      generalize y.val=w5 at *
      clear y
      have HAf:=Lib.hid (raft_any (some ra) rn rc no nn nc NK 16 w5 n (HG.out.below HB5.out).nod (by decide) (by omega) h3)
      rw [HG.out.eq] at HAf
      go_wp2_with fail
      refine (HAf.out).mono ?_
      rintro e w6 ⟨rfl,hb6⟩
      have HI6:=Lib.hid (HI5.out.trans (hb6.mono HI5.out.size))
      have HB6:=Lib.hid (HB0.out.trans (HI6.out.mono HB0.out.size))
      clear hb6 HAf
      cases ea:aft G.nodes 16 n with
      | none=>
       have HF:Hid (rightR G=false):=by
        show _=_
        have h:=HQ3.out
        rw [ea] at h
        rw [HP.out,← h]
        rfl
       have HV:aftI G.nodes 16 n=(-1,0):=by unfold aftI;rw [ea]
       rw [HV]
       clear HV ea HQ3
       go_wp2_with fail
       exact bodyPost_ret (v:=.bool false) (by simp [results,Tryz.results129,go_sem]) rfl ⟨by rw [HF.out],HB6.out⟩
      | some q=>
       obtain ⟨m1,hh⟩:=q
       have hm1:m1<=nn:=by have:=(aft_range ea).2.1;have:=HNl.out;omega
       have hmz:(0:Int)<=m1:=by omega
       have HQ4:Hid (rulR G (G.rules.drop (i+1)) (i+1) m1=rulR G G.rules 0 0):=by
        show _=_
        have h:=HQ3.out
        rw [ea] at h
        exact h
       have HV:aftI G.nodes 16 n=((m1:Int),(hh:Int)):=by unfold aftI;rw [ea]
       rw [HV]
       clear HV ea HQ3
       go_wp2_with fail
       exact ⟨⟨i+1,m1,by go_num,rfl,by omega,hm1,HI6.out,HQ4.out⟩,by simp [intOf];omega⟩
    ·have hge:(rn:Int)<=i:=by omega
     have HR:Hid (rightR G=(((n:Nat):Int) == (nn:Int))):=by
      show _=_
      rw [HP.out,← HQ.out,List.drop_eq_nil_of_le (by have:=HRl.out;omega)]
      simp only [rulR]
      rw [Bool.eq_iff_iff,beq_iff_eq,beq_iff_eq,HNl.out]
      simp only [Option.some.injEq]
      omega
     clear HP HQ
     go_wp2_with fail
     exact bodyPost_ret (v:=.bool ((n:Int) == (nn:Int))) (by simp [results,Tryz.results129,go_sem]) rfl ⟨by rw [HR.out],HBw.out⟩
end Go.Proofs.YtgjhepblpdnkcaaGreatDoor
namespace Go.Proofs.YtgjhepblpdnkcaaGreatDoor
open Go.RowKit
set_option maxRecDepth 100000
set_option maxHeartbeats 8000000

theorem ris_any (w:World) (ro:Option Addr) (rc:Nat) (no:Option Addr) (nc:Nat) (NK:List Nk) (G:Gr) (hG:GrW w ro G.rules.length rc no NK.length nc NK G) (rule:Int):
  Calls Tryz.prog 86 #[grv ro G.rules.length rc no NK.length nc,.int .i64 rule] w fun e w'=>e=.returned (.bool (okR G rule))/\Below w.heap.size w w':=by
 have hb:=(Below.refl _ w).alloc (Nat.le_refl _) (.cells #[.slice ro G.rules.length rc,.slice no NK.length nc] 25)
 obtain ⟨z,hz⟩:∃ z,w.alloc (.cells #[.slice ro G.rules.length rc,.slice no NK.length nc] 25)=z:=⟨_,rfl⟩
 obtain ⟨g,hg⟩:∃ g,w.heap.size=g:=⟨_,rfl⟩
 have hr:=hrow.new w #[.slice ro G.rules.length rc,.slice no NK.length nc] 25
 rw [hz] at hb hr
 rw [hg] at hr
 have HRI:=Lib.hid (rright_any z ro G.rules.length rc no NK.length nc NK G (hG.below hb))
 have HGG:=Lib.hid hg;have HZ:=Lib.hid hz;have HB:=Lib.hid hb;have H1:=Lib.hid hr
 obtain ⟨rn,hrn⟩:∃ n,G.rules.length=n:=⟨_,rfl⟩
 have HRN:=Lib.hid hrn
 rw [hrn] at HRI HZ H1 ⊢
 clear hG hg hz hb hr hrn
 unfold grv at HRI ⊢
 go_enter Tryz.func86,Tryz.ntmps86
 go_upto_region 1 with (fail)
 rw [HZ.out,HGG.out]
 go_wp2_with (refine load_gram rfl (.tmp 2) rfl g rfl _ H1.out rfl ?_)
 refine HRI.out.mono ?_
 rintro e y ⟨rfl,hb⟩
 rw [← rightP_rightR]
 have hk:=(H1.out.below hb).cell 0
 have HB2:=Lib.hid (HB.out.trans (hb.mono HB.out.size))
 have HOK:Hid (okR G rule=(rightP G && (decide (0<=rule) && decide (rule < rn)))):=by unfold Hid okR;rw [HRN.out]
 clear hb HRI H1 HZ HB
 cases hR:rightP G with
 | false=>
  rw [hR] at HOK
  go_wp2_with fail
  go_ret
  exact ⟨by rw [HOK.out];rfl,HB2.out⟩
 | true=>
  rw [hR] at HOK
  by_cases h1:0<=rule
  ·by_cases h2:rule < rn
   ·have HV:Hid (okR G rule=true):=by unfold Hid;rw [HOK.out];simp [h1,h2]
    go_wp2_with fail
    go_ret
    exact ⟨by rw [HV.out];first | rfl | simp [h2],HB2.out⟩
   ·have HV:Hid (okR G rule=false):=by unfold Hid;rw [HOK.out];simp [h2]
    go_wp2_with fail
    go_ret
    exact ⟨by rw [HV.out];first | rfl | simp [h2],HB2.out⟩
  ·have HV:Hid (okR G rule=false):=by unfold Hid;rw [HOK.out];simp [h1]
   go_wp2_with fail
   go_ret
   exact ⟨by rw [HV.out];rfl,HB2.out⟩
theorem listed_any (w:World) (bo:Option Addr) (n cap:Nat) (hn:n<=1000000) (p:Nat->Bool) (hs:Sv w bo n cap 1 (arrF n (bitF p)).toList):
  Calls Tryz.prog 88 #[.slice bo n cap] w fun e w'=>∃ v,e=.returned v/\Own w w' 3 1 v (lisF n p).length (inc (lisF n p)):=by
 have hbd:=hs.bound
 have HS:=Lib.hid hs;have HN:=Lib.hid hn
 have HO:=Lib.hid (show Own w w 3 1 (.slice none 0 0) (lisF 0 p).length (inc (lisF 0 p)) from Own.nil w 3 1)
 clear hs hn
 go_enter Tryz.func88,Tryz.ntmps88
 go_wp2_with fail
 go_loopw [3,4] (fun v3 v4 wr=>∃ k:Nat,k<=n/\v4=.int .i64 k/\Hid (Own w wr 3 1 v3 (lisF k p).length (inc (lisF k p)))) (fun _ v4 _=>n - (intOf v4).toNat)
 case atStart=>exact ⟨0,Nat.zero_le _,rfl,HO.out⟩
 case round=>
  clear HO
  obtain ⟨k,hk,rfl,HO⟩:=hrel
  by_cases hlt:k < n
  ·have hltI:(k:Int) < n:=by omega
   have HKB:Hid ((k:Int)+1<=1000000):=by have:=HN.out;unfold Hid;omega
   have HLT:=Lib.hid hlt
   have HSx:=Lib.hid (lisF_succ k p)
   have HLL:=Lib.hid (lisF_len k p)
   obtain ⟨a,rfl,hc⟩:=(HS.out.below HO.out.2).cell k (by simp [arrF];exact hlt)
   have hc2:wr.cell? (a.add k)=some (.bool (p k)):=by rw [hc];simp [arrF,bitF,hlt]
   obtain ⟨b,hb⟩:∃ b,p k=b:=⟨_,rfl⟩
   rw [hb] at HSx hc2
   clear hlt hk hb hc
   cases b with
   | true=>
    have HB1:Hid (((lisF k p).length+1) * 8<=140737488355328/\(lisF k p).length+1<=maxLen):=by have:=HLL.out;have:=HN.out;have:=HLT.out;unfold Hid maxLen;omega
    have H1:Hid (∀ u ∈ (#[.int .i64 k]:Array Value).toList,u.oneCell'=true):=by unfold Hid;simp [Value.oneCell']
    generalize hll:(lisF k p).length=ll at *
    go_wp2_with (at_builtin;refine wpList_app1 w _ rfl (.tmp 15) (.tmp 17) 26 3 rfl elIntS _ ll (inc (lisF k p)) rfl HO.out #[.int .i64 k] rfl rfl H1.out HB1.out.1 HB1.out.2 ?_;intro v' w8 hO8;have HO8:=Lib.hid hO8;clear hO8)
    have hkb:=HKB.out
    go_roundw
    case rel=>
     refine ⟨k+1,by have:=HLT.out;omega,by go_num,?_⟩
     have h1:=HSx.out
     rw [if_pos (by trivial)] at h1
     unfold Hid
     rw [h1,List.length_append,hll]
     have h2:=HO8.out
     simpa [inc] using h2
    case measure=>have:=HLT.out;simp [intOf];omega
   | false=>
    have hkb:=HKB.out
    go_wp2_with fail
    go_roundw
    case rel=>
     refine ⟨k+1,by have:=HLT.out;omega,by go_num,?_⟩
     have h1:=HSx.out
     rw [if_neg (by decide)] at h1
     unfold Hid
     rw [h1]
     exact HO.out
    case measure=>have:=HLT.out;simp [intOf];omega
  ·have hltI:¬ (k:Int) < n:=by omega
   obtain rfl:k=n:=by omega
   clear hlt hk
   go_wp2_with fail
   go_ret
   exact ⟨_,rfl,HO.out⟩
end Go.Proofs.YtgjhepblpdnkcaaGreatDoor
namespace Go.Proofs.YtgjhepblpdnkcaaGreatDoor
open Go.RowKit

end Go.Proofs.YtgjhepblpdnkcaaGreatDoor
namespace Go.Proofs.YtgjhepblpdnkcaaGreatDoor
open Go.RowKit

/-- What append has left: in place, or anew. -/
def AppTo (w:World) (base:Nat) (e:TypeId) (size:Nat) (v:Value) (n:Nat) (xs:List Value) (m:Nat) (news:List Value) (v':Value) (w':World):Prop:=
 (∃ g cap,v=.slice (some ⟨g,0,none⟩) n cap/\v'=.slice (some ⟨g,0,none⟩) (n+m) cap/\Fr (fun k=>k=g) w w'/\w'.ownsRow base e size v' (n+m) (xs ++ news)/\w'.ownsRow base e size v n xs)∨
 Own w w' e size v' (n+m) (xs ++ news)

theorem run_append_fine {P:Program} (w:World) (base:Nat) (t ty e:TypeId) {size bytes:Nat} {z:Value} (he:Elem P t e size bytes z) (v:Value) (n:Nat) (xs:List Value) (hown:w.ownsRow base e size v n xs)
  (ad:Addr) (m c:Nat) (news:List Value) (hl:news.length=m * size) (hnews:∀ j u,news[j]?=some u->w.cell? (ad.add j)=some u) (h1:∀ u ∈ news,u.oneCell'=true)
  (hm:0 < m) (h63:n+m<=maxLen) (hbytes:(n+m) * bytes<=140737488355328):
  ∃ v' w',(Builtin.append_ #[t,t] ty #[v,.slice (some ad) m c]).run P w=.ok v' w'/\AppTo w base e size v n xs m news v' w':=by
 obtain ⟨ht,hi0,hzs,hpos⟩:=he
 obtain ⟨i,hi,hz,hz1,hz2⟩:=info_parts hi0
 clear hi0
 subst hz1 hz2
 have hsmall:n+m<=9223372036854775807:=by simp only [maxLen] at h63;omega
 have hlen:(xs ++ news).length=(n+m) * i.size:=by rw [List.length_append,hown.1,hl,Nat.add_mul]
 have grown:∀ (old:Nat),old < n+m->
   Own w (w.drew.alloc (.cells (xs.toArray ++ news.toArray ++ Builtin.zeroCells z.cells (grownCap w (n+m) old e - (n+m))) e)) e i.size
    (.slice (some ⟨w.heap.size,0,none⟩) (n+m) (grownCap w (n+m) old e)) (n+m) (xs ++ news):=by
  intro old ho
  have hge:=grownCap_ge w (n+m) old e
  have hcm:grownCap w (n+m) old e<=maxLen:=grownCap_le_maxLen w (n+m) old e h63
  refine ⟨⟨hlen,.inr ⟨w.heap.size,_,_,rfl,Nat.le_refl _,heap_alloc_new w.drew _,hge,hcm,?_,?_⟩⟩,(Below.refl _ _).drew.alloc (Nat.le_refl _) _⟩
  ·simp only [Array.size_append,List.size_toArray,size_zeroCells,hzs,hown.1,hl,← Nat.add_mul]
   congr 1
   omega
  ·simp only [Array.toList_append,List.append_assoc]
   rw [← List.append_assoc,← hlen]
   exact List.take_left
 rcases hown.2 with ⟨rfl,rfl⟩ | ⟨g,cap,cur,rfl,hbg,hg,hnc,hcm,hcs,htake⟩
 ·have hx:xs=[]:=List.eq_nil_of_length_eq_zero (by simpa using hown.1)
  subst hx
  have hr:=run_append_nil (P:=P) w t ty e i z ht hi hz ad m c news hl hnews (by omega) (by omega) (by have hb:=hbytes;simp only [Nat.zero_add] at hb;omega)
  have hgr:=grown 0 (by omega)
  simp only [Nat.zero_add,List.nil_append,Array.empty_append] at hgr
  refine ⟨_,_,hr,.inr ?_⟩
  simpa using hgr
 ·by_cases hroom:n+m<=cap
  ·have hfit:n * i.size+news.length<=cur.size:=by rw [hl,hcs,← Nat.add_mul];exact Nat.mul_le_mul_right _ hroom
   have hr:=run_append_room (P:=P) w t ty e i ht hi g n cap cur hg ad m c news hl hnews h1 hroom hfit
   have hsz:(cur.toList.take (n * i.size) ++ news ++ cur.toList.drop (n * i.size+news.length)).toArray.size=cap * i.size:=by
    simp only [List.size_toArray,List.length_append,List.length_take,List.length_drop,Array.length_toList]
    omega
   refine ⟨_,_,hr,.inl ⟨g,cap,rfl,rfl,⟨rfl,rfl,rfl,by simp,fun k _ hk=>setRow_other w g k _ (fun e=>hk e)⟩,
    ⟨hlen,.inr ⟨g,cap,_,rfl,hbg,setRow_heap w g cur _ e _ hg,hroom,hcm,hsz,?_⟩⟩,⟨hown.1,.inr ⟨g,cap,_,rfl,hbg,setRow_heap w g cur _ e _ hg,hnc,hcm,hsz,?_⟩⟩⟩⟩
   ·rw [htake,← hlen]
    exact List.take_left
   ·rw [htake]
    simp only [List.append_assoc]
    rw [← hown.1]
    exact List.take_left
  ·have holds:∀ j u,xs[j]?=some u->w.cell? ((⟨g,0,none⟩:Addr).add j)=some u:=hown.cells (g:=g) rfl
   have hr:=run_append_grow (P:=P) w t ty e i z ht hi hz ⟨g,0,none⟩ n cap xs hown.1 holds ad m c news hl hnews (by omega) (by omega) (growslice_fits (by omega) hbytes)
   exact ⟨_,_,hr,.inr (grown cap (by omega))⟩

/-- At the operation. -/
theorem wpList_appf {P:Program} (wr:World) (base:Nat) {ops:Array Oper} {rest:List Oper} {o:Oper} {a:Act} {Q:Exit->Act->World->Prop} (hgd:o.guard=none) (s x:Operand) (t e:TypeId) {size bytes:Nat} {z:Value}
  (ho:o.op=.call { callee:=.builtin .append,args:=#[s,x],argTypes:=#[t,t] }) (he:Elem P t e size bytes z)
  (v:Value) (n:Nat) (xs:List Value) (hs:a.eval s=v) (hO:wr.ownsRow base e size v n xs) (ao:Option Addr) (m cap:Nat) (ys:List Value) (hx:a.eval x=.slice ao m cap) (hsl:Sv wr ao m cap size ys) (h1:∀ u ∈ ys,u.oneCell'=true)
  (hm:0 < m) (hlen:(n+m) * bytes<=140737488355328/\n+m<=maxLen)
  (h:∀ v' w',AppTo wr base e size v n xs m ys v' w'->wpList P ops Q rest (a.put o.dst v') w'):wpList P ops Q (o :: rest) a wr:=by
 have hl:=hsl.len
 have:0 < m * size:=Nat.mul_pos hm he.pos
 obtain ⟨ad,rfl,_⟩:=hsl.cell 0 (by omega)
 obtain ⟨v',w',hr,h2⟩:=run_append_fine (P:=P) wr base t o.type e he v n xs hO ad m cap ys hl (fun j u hj=>by
  obtain ⟨ad',h,hc⟩:=hsl.cell j (List.getElem?_eq_some_iff.1 hj).1
  cases h
  exact hc.trans hj) h1 hm hlen.2 hlen.1
 refine wpList_plain hgd fun K hK=>?_
 unfold Oper.wp execOp
 simp only [ho,resolve,invoke,builtin,Sem.run_bind,Sem.run_pure,Result.andThen_ok,List.map_toArray,List.map_cons,List.map_nil,hs,hx,hr]
 exact hK _ _ (h v' w' h2)
end Go.Proofs.YtgjhepblpdnkcaaGreatDoor
