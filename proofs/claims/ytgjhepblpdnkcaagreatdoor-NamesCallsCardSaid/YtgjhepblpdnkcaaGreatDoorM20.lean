/- Walks and plain laws: Gs Gt Gu Gv Gw Gx Yb Gl. -/
import Derived.Test.YtgjhepblpdnkcaaGreatDoorM19
import Derived.Test.YtgjhepblpdnkcaaGreatDoorM18
import Derived.Test.YtgjhepblpdnkcaaGreatDoorM16
namespace Go.Proofs.YtgjhepblpdnkcaaGreatDoor
open Go.RowKit
set_option maxRecDepth 100000
set_option maxHeartbeats 4000000

/-- The numbers of which something is so. -/
def lisF (n:Nat) (p:Nat->Bool):List Int:=((List.range n).filter p).map fun (i:Nat)=>(i:Int)
theorem lisF_succ (n:Nat) (p:Nat->Bool):lisF (n+1) p=if p n then lisF n p ++ [(n:Int)] else lisF n p:=by
 unfold lisF
 rw [List.range_succ,List.filter_append,List.map_append]
 by_cases h:p n <;> simp [h]
theorem lisF_len (n:Nat) (p:Nat->Bool):(lisF n p).length<=n:=by
 unfold lisF
 rw [List.length_map]
 exact Nat.le_trans (List.length_filter_le _ _) (by simp)
theorem which_any (w:World) (ao:Option Addr) (n cap:Nat) (hn:n<=1000000) (p:Nat->Bool) (fn:Nat) (lb:Array Value) (hen:∀ (args:Array Value) (x:World),(callFunc fn args).run Tryz.prog x=.ok (.enter fn args) x)
  (hf:∀ k:Nat,k < n->∀ x,Below w.heap.size w x->Calls Tryz.prog fn (#[.int .i64 k] ++ lb) x fun e w'=>e=.returned (.bool (p k))/\Below x.heap.size x w'):
  Calls Tryz.prog 57 #[.slice ao n cap,.func (.func fn) #[] lb] w fun e w'=>∃ v,e=.returned v/\Own w w' 3 1 v (lisF n p).length (inc (lisF n p)):=by
 have HF:=Lib.hid hf;have HN:=Lib.hid hn
 have HO:=Lib.hid (show Own w w 3 1 (.slice none 0 0) (lisF 0 p).length (inc (lisF 0 p)) from Own.nil w 3 1)
 clear hf hn
 go_enter Tryz.func57,Tryz.ntmps57
 go_wp2_with fail
 go_loopw [4,5,8] (fun v4 _ v8 wr=>∃ k:Nat,k<=n/\v8=.int .i64 k/\Hid (Own w wr 3 1 v4 (lisF k p).length (inc (lisF k p)))) (fun _ _ v8 _=>n - (intOf v8).toNat)
 case atStart=>exact ⟨0,Nat.zero_le _,rfl,HO.out⟩
 case round=>
  clear HO
  obtain ⟨k,hk,rfl,HO⟩:=hrel
  by_cases hlt:k < n
  ·have hltI:(k:Int) < n:=by omega
   have hkb:(k:Int)+1<=1000000:=by have:=HN.out;omega
   have HLT:=Lib.hid hlt
   have HC:=Lib.hid (HF.out k hlt wr HO.out.2)
   have HS:=Lib.hid (lisF_succ k p)
   obtain ⟨b,hb⟩:∃ b,p k=b:=⟨_,rfl⟩
   rw [hb] at HC HS
   have HLL:=Lib.hid (lisF_len k p)
   clear hlt hk hb
   go_wp2_with fail
   refine HC.out.mono ?_
   rintro e x ⟨rfl,hb⟩
   have HO2:=Lib.hid (HO.out.below hb)
   clear hb HO HC
   cases b with
   | true=>
    have HB1:Hid (((lisF k p).length+1) * 8<=140737488355328/\(lisF k p).length+1<=maxLen):=by have:=HLL.out;have:=HN.out;have:=HLT.out;unfold Hid maxLen;omega
    have H1:Hid (∀ u ∈ (#[.int .i64 k]:Array Value).toList,u.oneCell'=true):=by unfold Hid;simp [Value.oneCell']
    generalize hll:(lisF k p).length=ll at *
    go_wp2_with (at_builtin;refine wpList_app1 w _ rfl (.tmp 14) (.tmp 16) 26 3 rfl elIntS _ ll (inc (lisF k p)) rfl HO2.out #[.int .i64 k] rfl rfl H1.out HB1.out.1 HB1.out.2 ?_;intro v' w8 hO8;have HO8:=Lib.hid hO8;clear hO8)
    go_roundw
    case rel=>
     refine ⟨k+1,by have:=HLT.out;omega,by go_num,?_⟩
     have h1:=HS.out
     rw [if_pos (by trivial)] at h1
     unfold Hid
     rw [h1,List.length_append,hll]
     have h2:=HO8.out
     simpa [inc] using h2
    case measure=>have:=HLT.out;simp [intOf];omega
   | false=>
    go_wp2_with fail
    go_roundw
    case rel=>
     refine ⟨k+1,by have:=HLT.out;omega,by go_num,?_⟩
     have h1:=HS.out
     rw [if_neg (by decide)] at h1
     unfold Hid
     rw [h1]
     exact HO2.out
    case measure=>have:=HLT.out;simp [intOf];omega
  ·have hltI:¬ (k:Int) < n:=by omega
   obtain rfl:k=n:=by omega
   clear hlt hk
   go_wp2_with fail
   go_ret
   exact ⟨_,rfl,HO.out⟩
end Go.Proofs.YtgjhepblpdnkcaaGreatDoor
namespace Go.Proofs.YtgjhepblpdnkcaaGreatDoor
open Go.RowKit
set_option maxRecDepth 100000
set_option maxHeartbeats 4000000

/-- The rules that call a rule; the rules that it calls. -/
def clrL (G:Gr) (rule:Int):List Int:=if okR G rule then lisF G.rules.length (fun k=>edgB G k rule.toNat) else []
def cldL (G:Gr) (rule:Int):List Int:=if okR G rule then lisF G.rules.length (edgB G rule.toNat) else []
section
variable {w:World} {B gb gt g3 n:Nat} {bs:Nat->Nat} {E:Nat->Nat->Bool}
theorem GphW.at (h:GphW w B gb bs n E) {i j:Nat} (hi:i < n) (hj:j < n):w.cell? ⟨gb,i,none⟩=some (.slice (some ⟨bs i,0,none⟩) n n)/\w.cell? ⟨bs i,j,none⟩=some (.bool (E i j)):=
 ⟨(h.row.cell i).trans (arrF_get _ _ _ hi),((h.bit i hi).cell j).trans (arrF_get _ _ _ hj)⟩
theorem callers1_any (hg:GphW w B gb bs n E) (hb:hrow w gt #[.slice (some ⟨gb,0,none⟩) n n] 108) (r k:Nat) (h3:hrow w g3 #[.int .i64 r] 3) (hr:r < n) (hk:k < n):
  Calls Tryz.prog 58 (#[.int .i64 k] ++ #[.pointer (some ⟨gt,0,none⟩),.pointer (some ⟨g3,0,none⟩)]) w fun e w'=>e=.returned (.bool (E k r))/\Below w.heap.size w w':=by
 have c0:∀ v:Later w,v.val.cell? ⟨gt,0,none⟩=some (.slice (some ⟨gb,0,none⟩) n n):=fun v=>(hb.below v.ok).cell 0
 have c1:∀ v:Later w,v.val.cell? ⟨g3,0,none⟩=some (.int .i64 r):=fun v=>(h3.below v.ok).cell 0
 have c2:∀ v:Later w,v.val.cell? ⟨gb,k,none⟩=some (.slice (some ⟨bs k,0,none⟩) n n):=fun v=>((hg.below v.ok).at hk hr).1
 have c3:∀ v:Later w,v.val.cell? ⟨bs k,r,none⟩=some (.bool (E k r)):=fun v=>((hg.below v.ok).at hk hr).2
 have hrI:(r:Int) < n:=by omega
 have hkI:(k:Int) < n:=by omega
 have hr0:(0:Int)<=r:=by omega
 have hk0:(0:Int)<=k:=by omega
 clear hg hb h3 hr hk
 go_enter Tryz.func58,Tryz.ntmps58
 go_upto_region 1 with (fail)
 refine wp_region_later (by kernel_rfl) (by kernel_rfl) ?_
 repeat (go_big_quiet_step (fail))
 refine wpQuiet_nil ?_
 intro w5 hw5
 obtain ⟨y,rfl⟩:=hw5
 go_wp2_with fail
 go_ret
 exact ⟨rfl,y.ok⟩
theorem called1_any (hg:GphW w B gb bs n E) (hb:hrow w gt #[.slice (some ⟨gb,0,none⟩) n n] 108) (r k:Nat) (h3:hrow w g3 #[.int .i64 r] 3) (hr:r < n) (hk:k < n):
  Calls Tryz.prog 59 (#[.int .i64 k] ++ #[.pointer (some ⟨gt,0,none⟩),.pointer (some ⟨g3,0,none⟩)]) w fun e w'=>e=.returned (.bool (E r k))/\Below w.heap.size w w':=by
 have c0:=hb.cell 0
 have c1:=h3.cell 0
 have c2:=(hg.at hr hk).1
 have c3:=(hg.at hr hk).2
 have hrI:(r:Int) < n:=by omega
 have hkI:(k:Int) < n:=by omega
 clear hg hb h3 hr hk
 go_enter Tryz.func59,Tryz.ntmps59
 go_wp2_with fail
 go_ret
 exact ⟨rfl,Below.refl _ _⟩
end
theorem callers_any (w:World) (ro:Option Addr) (rc:Nat) (no:Option Addr) (nc:Nat) (NK:List Nk) (G:Gr) (hG:GrW w ro G.rules.length rc no NK.length nc NK G) (hkl:∀ x ∈ NK,x.1.kids.length<=1000000) (hnl:NK.length<=1000000) (rule:Int):
  Calls Tryz.prog 20 #[grv ro G.rules.length rc no NK.length nc,.int .i64 rule] w fun e w'=>∃ v,e=.returned v/\Own w w' 3 1 v (clrL G rule).length (inc (clrL G rule)):=by
 have hmf:∀ (fn:Fn) (first cap:Array Value) (w:World),(Instr.makeFunc fn first cap).run Tryz.prog w=.ok (.func fn first cap) w:=fun _ _ _ _=>rfl
 obtain ⟨g,hg⟩:∃ g,w.heap.size=g:=⟨_,rfl⟩
 obtain ⟨z,hz,z1,z2,zb⟩:=three0 w g hg #[.slice ro G.rules.length rc,.slice no NK.length nc] #[.int .i64 rule] 25 3
 have HOF:=Lib.hid (ofg_any z ro rc no nc NK G (hG.below zb) hkl hnl rule)
 have HZ:=Lib.hid hz;have HG:=Lib.hid hg;have H1:=Lib.hid z1;have H2:=Lib.hid z2;have HB:=Lib.hid zb
 have hn32:rightP G=true->G.rules.length<=1000000:=fun h=>by have:=(right_sizes h).2.1;omega
 have HNN:=Lib.hid hn32
 clear hz hg z1 z2 zb hG hkl hnl hn32
 unfold grv at HOF ⊢
 obtain ⟨rn,hrn⟩:∃ n,G.rules.length=n:=⟨_,rfl⟩
 have HRN:=Lib.hid hrn
 unfold OfgP at HOF
 rw [hrn] at HZ H1 HOF HNN ⊢
 clear hrn
 have c2:=H2.out.cell 0
 go_enter Tryz.func20,Tryz.ntmps20
 go_upto_region 1 with (fail)
 rw [HZ.out,HG.out]
 go_wp2_with (refine load_gram rfl (.tmp 2) rfl g rfl _ H1.out rfl ?_)
 refine HOF.out.mono ?_
 cases hok:okR G rule with
 | false=>
  rintro e x ⟨hbx,he⟩
  rw [if_neg (by decide)] at he
  subst he
  have HOK:Hid (clrL G rule=[]):=by unfold Hid clrL;rw [hok];rfl
  have HB2:=Lib.hid (HB.out.trans (hbx.mono HB.out.size))
  have hal:=Lib.hid ((Below.refl _ x).alloc (Nat.le_refl _) (.cells #[.slice none 0 0] 108))
  clear hbx c2
  go_wp2_with fail
  go_ret
  refine ⟨_,rfl,?_⟩
  rw [HOK.out]
  exact (Own.nil w 3 1).below (HB2.out.trans (hal.out.mono HB2.out.size))
 | true=>
  rintro e x ⟨hbx,he⟩
  rw [if_pos rfl] at he
  obtain ⟨gb,bs,rfl,hgr⟩:=he
  have hr0:0<=rule/\rule < rn/\rightP G=true:=by
   unfold okR at hok
   rw [HRN.out] at hok
   simp only [Bool.and_eq_true,decide_eq_true_eq] at hok
   exact ⟨hok.2.1,hok.2.2,hok.1⟩
  have HLL:Hid (clrL G rule=lisF rn (fun k=>edgB G k rule.toNat)):=by unfold Hid clrL;rw [hok,HRN.out];rfl
  obtain ⟨r,rfl⟩:∃ r:Nat,rule=(r:Int):=⟨rule.toNat,by omega⟩
  have hal:=(Below.refl _ x).alloc (Nat.le_refl _) (.cells #[.slice (some ⟨gb,0,none⟩) rn rn] 108)
  have HBX:=Lib.hid hal
  have HGX:=Lib.hid (hrow.new x #[.slice (some ⟨gb,0,none⟩) rn rn] 108)
  have HGR:=Lib.hid (hgr.below hal)
  have H22:=Lib.hid (H2.out.below (hbx.trans (hal.mono hbx.size)))
  have HB2:=Lib.hid (HB.out.trans ((hbx.trans (hal.mono hbx.size)).mono HB.out.size))
  have HRR:Hid (r < rn/\rn<=1000000):=⟨by have:=hr0.2.1;omega,HNN.out hr0.2.2⟩
  clear hbx hgr hal hr0 hok c2 HBX
  go_upto_region 2 with (fail)
  revert HGX HGR H22 HB2
  generalize x.alloc (.cells #[.slice (some ⟨gb,0,none⟩) rn rn] 108)=y
  generalize x.heap.size=gx
  intro HGX HGR H22 HB2
  have HWH:=Lib.hid (which_any y (some ⟨gb,0,none⟩) rn rn HRR.out.2 (fun k=>edgB G k r) 58 #[.pointer (some ⟨gx,0,none⟩),.pointer (some ⟨g+1,0,none⟩)] (enters_of Tryz.func58 (by kernel_rfl) rfl) (fun k hk v hv=>callers1_any (HGR.out.below hv) (HGX.out.below hv) r k (H22.out.below hv) HRR.out.1 hk))
  have k0:=HGX.out.cell 0
  go_wp2_with fail
  refine HWH.out.mono ?_
  rintro e u ⟨v,rfl,ho⟩
  have HO:=Lib.hid (ho.since HB2.out)
  clear ho HWH k0
  go_wp2_with fail
  go_ret
  refine ⟨_,rfl,?_⟩
  rw [HLL.out]
  exact HO.out
theorem called_any (w:World) (ro:Option Addr) (rc:Nat) (no:Option Addr) (nc:Nat) (NK:List Nk) (G:Gr) (hG:GrW w ro G.rules.length rc no NK.length nc NK G) (hkl:∀ x ∈ NK,x.1.kids.length<=1000000) (hnl:NK.length<=1000000) (rule:Int):
  Calls Tryz.prog 21 #[grv ro G.rules.length rc no NK.length nc,.int .i64 rule] w fun e w'=>∃ v,e=.returned v/\Own w w' 3 1 v (cldL G rule).length (inc (cldL G rule)):=by
 have hmf:∀ (fn:Fn) (first cap:Array Value) (w:World),(Instr.makeFunc fn first cap).run Tryz.prog w=.ok (.func fn first cap) w:=fun _ _ _ _=>rfl
 obtain ⟨g,hg⟩:∃ g,w.heap.size=g:=⟨_,rfl⟩
 obtain ⟨z,hz,z1,z2,zb⟩:=three0 w g hg #[.slice ro G.rules.length rc,.slice no NK.length nc] #[.int .i64 rule] 25 3
 have HOF:=Lib.hid (ofg_any z ro rc no nc NK G (hG.below zb) hkl hnl rule)
 have HZ:=Lib.hid hz;have HG:=Lib.hid hg;have H1:=Lib.hid z1;have H2:=Lib.hid z2;have HB:=Lib.hid zb
 have hn32:rightP G=true->G.rules.length<=1000000:=fun h=>by have:=(right_sizes h).2.1;omega
 have HNN:=Lib.hid hn32
 clear hz hg z1 z2 zb hG hkl hnl hn32
 unfold grv at HOF ⊢
 obtain ⟨rn,hrn⟩:∃ n,G.rules.length=n:=⟨_,rfl⟩
 have HRN:=Lib.hid hrn
 unfold OfgP at HOF
 rw [hrn] at HZ H1 HOF HNN ⊢
 clear hrn
 have c2:=H2.out.cell 0
 go_enter Tryz.func21,Tryz.ntmps21
 go_upto_region 1 with (fail)
 rw [HZ.out,HG.out]
 go_wp2_with (refine load_gram rfl (.tmp 2) rfl g rfl _ H1.out rfl ?_)
 refine HOF.out.mono ?_
 cases hok:okR G rule with
 | false=>
  rintro e x ⟨hbx,he⟩
  rw [if_neg (by decide)] at he
  subst he
  have HOK:Hid (cldL G rule=[]):=by unfold Hid cldL;rw [hok];rfl
  have HB2:=Lib.hid (HB.out.trans (hbx.mono HB.out.size))
  have hal:=Lib.hid ((Below.refl _ x).alloc (Nat.le_refl _) (.cells #[.slice none 0 0] 108))
  clear hbx c2
  go_wp2_with fail
  go_ret
  refine ⟨_,rfl,?_⟩
  rw [HOK.out]
  exact (Own.nil w 3 1).below (HB2.out.trans (hal.out.mono HB2.out.size))
 | true=>
  rintro e x ⟨hbx,he⟩
  rw [if_pos rfl] at he
  obtain ⟨gb,bs,rfl,hgr⟩:=he
  have hr0:0<=rule/\rule < rn/\rightP G=true:=by
   unfold okR at hok
   rw [HRN.out] at hok
   simp only [Bool.and_eq_true,decide_eq_true_eq] at hok
   exact ⟨hok.2.1,hok.2.2,hok.1⟩
  have HLL:Hid (cldL G rule=lisF rn (edgB G rule.toNat)):=by unfold Hid cldL;rw [hok,HRN.out];rfl
  obtain ⟨r,rfl⟩:∃ r:Nat,rule=(r:Int):=⟨rule.toNat,by omega⟩
  have hal:=(Below.refl _ x).alloc (Nat.le_refl _) (.cells #[.slice (some ⟨gb,0,none⟩) rn rn] 108)
  have HBX:=Lib.hid hal
  have HGX:=Lib.hid (hrow.new x #[.slice (some ⟨gb,0,none⟩) rn rn] 108)
  have HGR:=Lib.hid (hgr.below hal)
  have H22:=Lib.hid (H2.out.below (hbx.trans (hal.mono hbx.size)))
  have HB2:=Lib.hid (HB.out.trans ((hbx.trans (hal.mono hbx.size)).mono HB.out.size))
  have HRR:Hid (r < rn/\rn<=1000000):=⟨by have:=hr0.2.1;omega,HNN.out hr0.2.2⟩
  clear hbx hgr hal hr0 hok c2 HBX
  go_upto_region 2 with (fail)
  revert HGX HGR H22 HB2
  generalize x.alloc (.cells #[.slice (some ⟨gb,0,none⟩) rn rn] 108)=y
  generalize x.heap.size=gx
  intro HGX HGR H22 HB2
  have HWH:=Lib.hid (which_any y (some ⟨gb,0,none⟩) rn rn HRR.out.2 (edgB G r) 59 #[.pointer (some ⟨gx,0,none⟩),.pointer (some ⟨g+1,0,none⟩)] (enters_of Tryz.func59 (by kernel_rfl) rfl) (fun k hk v hv=>called1_any (HGR.out.below hv) (HGX.out.below hv) r k (H22.out.below hv) HRR.out.1 hk))
  have k0:=HGX.out.cell 0
  go_wp2_with fail
  refine HWH.out.mono ?_
  rintro e u ⟨v,rfl,ho⟩
  have HO:=Lib.hid (ho.since HB2.out)
  clear ho HWH k0
  go_wp2_with fail
  go_ret
  refine ⟨_,rfl,?_⟩
  rw [HLL.out]
  exact HO.out
end Go.Proofs.YtgjhepblpdnkcaaGreatDoor
namespace Go.Proofs.YtgjhepblpdnkcaaGreatDoor
open Go.RowKit
set_option maxRecDepth 100000
set_option maxHeartbeats 4000000

def setB (S:Nat->Bool) (r:Nat):Nat->Bool:=fun i=>if i=r then true else S i
/-- What is marked when a rule has been gone through, depth first. -/
def rchF (E:Nat->Nat->Bool) (n:Nat):Nat->Nat->(Nat->Bool)->(Nat->Bool)
 | 0,_,S=>S
 | f+1,r,S=>(List.range n).foldl (fun T k=>if E r k && !T k then rchF E n f k T else T) (setB S r)
/-- How many are not marked. -/
def cntU (n:Nat) (S:Nat->Bool):Nat:=((List.range n).filter fun i=>!S i).length
theorem cntU_mono {n:Nat} {S T:Nat->Bool} (h:∀ i,S i=true->T i=true):cntU n T<=cntU n S:=by
 unfold cntU
 rw [← List.countP_eq_length_filter,← List.countP_eq_length_filter]
 refine List.countP_mono_left (fun i _ hi=>?_)
 simp only [Bool.not_eq_eq_eq_not,Bool.not_true] at hi ⊢
 cases hs:S i with
 | false=>rfl
 | true=>rw [h i hs] at hi;cases hi
theorem setB_sub (S:Nat->Bool) (r:Nat):∀ i,S i=true->setB S r i=true:=fun i h=>by unfold setB;split <;> simp [h]
theorem cntU_set:∀ (n:Nat) (S:Nat->Bool) (k:Nat),k < n->S k=false->cntU n (setB S k) < cntU n S
 | 0,_,_,h,_=>by omega
 | n+1,S,k,h,hk=>by
  have hs:∀ T:Nat->Bool,cntU (n+1) T=cntU n T+if T n then 0 else 1:=fun T=>by
   unfold cntU
   rw [List.range_succ,List.filter_append,List.length_append]
   cases h0:T n <;> simp [h0]
  rw [hs,hs]
  by_cases e:k=n
  ·subst e
   have h1:setB S k k=true:=by unfold setB;simp
   have h2:=cntU_mono (n:=k) (setB_sub S k)
   rw [h1,hk]
   simp only [if_true,Bool.false_eq_true,if_false]
   omega
  ·have h1:setB S k n=S n:=by unfold setB;rw [if_neg (fun e2=>e e2.symm)]
   have h2:=cntU_set n S k (by omega) hk
   rw [h1]
   omega
theorem foldl_sub {E:Nat->Bool} {F:Nat->(Nat->Bool)->(Nat->Bool)} (hF:∀ k T i,T i=true->F k T i=true):∀ (l:List Nat) (S:Nat->Bool) (i:Nat),S i=true->l.foldl (fun T k=>if E k && !T k then F k T else T) S i=true
 | [],_,_,h=>h
 | k :: l,S,i,h=>by
  refine foldl_sub hF l _ i ?_
  show (if (E k && !S k)=true then F k S else S) i=true
  split
  ·exact hF k S i h
  ·exact h
theorem rchF_sub (E:Nat->Nat->Bool) (n:Nat):∀ (f r:Nat) (S:Nat->Bool) (i:Nat),S i=true->rchF E n f r S i=true
 | 0,_,_,_,h=>h
 | f+1,r,S,i,h=>foldl_sub (fun k T i h=>rchF_sub E n f k T i h) _ _ i (setB_sub S r i h)
theorem foldl_range_succ {α:Type} (g:α->Nat->α) (a:α) (m:Nat):(List.range (m+1)).foldl g a=g ((List.range m).foldl g a) m:=by
 rw [List.range_succ,List.foldl_append];rfl
theorem hrow_set {w:World} {b n:Nat} {S:Nat->Bool} (h:hrow w b (arrF n (bitF S)) 4) (r:Nat):hrow (w.setCell ⟨b,r,none⟩ (.bool true)) b (arrF n (bitF (setB S r))) 4:=by
 have h1:=h.setCell r (.bool true)
 rw [arrF_set] at h1
 refine (congrArg (fun a=>hrow _ b a _) (arrF_congr fun i _=>?_)).mp h1
 unfold bitF setB
 by_cases e:i=r <;> simp [e]
theorem reach_any (E:Nat->Nat->Bool) (n B gb bi:Nat) (bs:Nat->Nat) (hn:n<=1000000) (hne:∀ i,i < n->bi ≠ bs i):∀ (f r:Nat) (S:Nat->Bool) (w:World),r < n->cntU n (setB S r) < f->GphW w B gb bs n E->hrow w bi (arrF n (bitF S)) 4->
  Calls Tryz.prog 60 #[.slice (some ⟨gb,0,none⟩) n n,.slice (some ⟨bi,0,none⟩) n n,.int .i64 r] w fun e w'=>e=.returned (.tuple #[])/\hrow w' bi (arrF n (bitF (rchF E n f r S))) 4/\Fr (fun k=>k=bi) w w':=by
 intro f
 induction f with
 | zero=>intro r S w _ h _ _;omega
 | succ f ih=>
  intro r S w hr hc hg hb
  have HIH:=Lib.hid ih;have HG:=Lib.hid hg;have HC:=Lib.hid hc;have HNE:=Lib.hid hne;have HR:=Lib.hid hr;have HN:=Lib.hid hn
  have HB0:=Lib.hid (hrow_set hb r)
  have HF0:=Lib.hid (Fr.setCell w ⟨bi,r,none⟩ (.bool true))
  have hrI:(r:Int) < n:=by omega
  have c0:=(hb.cell r).trans (arrF_get _ _ _ hr)
  have c1:=hb.frozen r
  unfold bitF at c0
  have HGB:Hid (gb ≠ bi):=fun e=>by
   have h1:=hg.row.h;have h2:=hb.h
   rw [e,h2] at h1
   simp only [Option.some.injEq,Obj.cells.injEq] at h1
   exact absurd h1.2.1 (by decide)
  clear hg hc hb ih
  go_enter Tryz.func60,Tryz.ntmps60
  go_wp2_with fail
  revert HB0 HF0
  generalize w.setCell ⟨bi,r,none⟩ (.bool true)=w1
  intro HB0 HF0
  clear c0 c1
  go_loopw [6,12] (fun _ p wr=>∃ m:Nat,m<=n/\p=.int .i64 m/\Hid (hrow wr bi (arrF n (bitF ((List.range m).foldl (fun T k=>if E r k && !T k then rchF E n f k T else T) (setB S r)))) 4)/\Hid (Fr (fun k=>k=bi) w wr)) (fun _ p _=>n - (intOf p).toNat)
  case atStart=>exact ⟨0,Nat.zero_le _,rfl,HB0.out,HF0.out⟩
  case round=>
   clear HB0 HF0
   obtain ⟨m,hm,rfl,HB,HF⟩:=hrel
   by_cases hlt:m < n
   ·have hltI:(m:Int) < n:=by omega
    have HLT:=Lib.hid hlt
    have HS:=Lib.hid (foldl_range_succ (fun T k=>if E r k && !T k then rchF E n f k T else T) (setB S r) m)
    have HSB:Hid (∀ i,setB S r i=true->(List.range m).foldl (fun T k=>if E r k && !T k then rchF E n f k T else T) (setB S r) i=true):=fun i h=>foldl_sub (fun k T i h=>rchF_sub E n f k T i h) _ _ i h
    obtain ⟨T,hT⟩:∃ T,(List.range m).foldl (fun T k=>if E r k && !T k then rchF E n f k T else T) (setB S r)=T:=⟨_,rfl⟩
    rw [hT] at HB HS HSB
    have hg:GphW wr B gb bs n E:=by
     have h0:=HG.out
     refine ⟨h0.row.fr HF.out (fun e=>?_),fun i hi=>(h0.bit i hi).fr HF.out (fun e=>HNE.out i hi e.symm),h0.inj,h0.lo⟩
     exact HGB.out e
    have k1:=(hg.at HR.out hlt).1
    have k2:=(hg.at HR.out hlt).2
    have k3:=(HB.out.cell m).trans (arrF_get _ _ _ hlt)
    unfold bitF at k3
    have HGR:=Lib.hid hg
    have hm0:(m:Int)+1<=1000000:=by have:=HN.out;omega
    clear hg hlt hm hT
    cases hE:E r m with
    | false=>
     rw [hE] at k2
     have HE:=Lib.hid hE
     clear hE
     go_wp2_with fail
     go_roundw
     case rel=>exact ⟨m+1,by have:=HLT.out;omega,by go_num,by unfold Hid;rw [HS.out,HE.out];exact HB.out,HF.out⟩
     case measure=>have:=HLT.out;simp [intOf];omega
    | true=>
     rw [hE] at k2
     have HE:=Lib.hid hE
     clear hE
     cases hT:T m with
     | true=>
      rw [hT] at k3
      have HT:=Lib.hid hT
      clear hT
      go_wp2_with fail
      go_roundw
      case rel=>exact ⟨m+1,by have:=HLT.out;omega,by go_num,by unfold Hid;rw [HS.out,HE.out,HT.out];exact HB.out,HF.out⟩
      case measure=>have:=HLT.out;simp [intOf];omega
     | false=>
      rw [hT] at k3
      have HT:=Lib.hid hT
      have hcn:cntU n (setB T m) < f:=by
       have h1:=cntU_set n T m HLT.out hT
       have h2:=cntU_mono (n:=n) HSB.out
       have h3:=HC.out
       omega
      have HCL:=Lib.hid (HIH.out m T wr HLT.out hcn HGR.out HB.out)
      clear hT hcn
      go_wp2_with fail
      refine HCL.out.mono ?_
      rintro e x ⟨rfl,hb,hf⟩
      have HB2:=Lib.hid hb;have HF2:=Lib.hid (HF.out.trans hf (fun _ _ e=>e))
      clear hb hf HCL HB HF k1 k2 k3
      go_wp2_with fail
      go_roundw
      case rel=>exact ⟨m+1,by have:=HLT.out;omega,by go_num,by unfold Hid;rw [HS.out,HE.out,HT.out];exact HB2.out,HF2.out⟩
      case measure=>have:=HLT.out;simp [intOf];omega
   ·have hltI:¬ (m:Int) < n:=by omega
    obtain rfl:m=n:=by omega
    clear hlt hm
    go_wp2_with fail
    go_end0
    exact ⟨rfl,HB.out,HF.out⟩
end Go.Proofs.YtgjhepblpdnkcaaGreatDoor
namespace Go.Proofs.YtgjhepblpdnkcaaGreatDoor

/-- What can be reached, step by step. -/
inductive Rch (E:Nat->Nat->Bool) (n r:Nat):Nat->Prop
 | refl:Rch E n r r
 | step {a b:Nat}:Rch E n r a->E a b=true->b < n->Rch E n r b
theorem Rch.lt {E:Nat->Nat->Bool} {n r i:Nat} (h:Rch E n r i) (hr:r < n):i < n:=by
 cases h with
 | refl=>exact hr
 | step _ _ h=>exact h
theorem Rch.trans {E:Nat->Nat->Bool} {n r a b:Nat} (h:Rch E n r a) (h2:Rch E n a b):Rch E n r b:=by
 induction h2 with
 | refl=>exact h
 | step _ he hn ih=>exact .step ih he hn
theorem rchF_law (E:Nat->Nat->Bool) (n:Nat):∀ (f r:Nat) (S:Nat->Bool),r < n->cntU n (setB S r) < f->
  rchF E n f r S r=true/\(∀ i,rchF E n f r S i=true->S i=true∨Rch E n r i)/\(∀ i,i < n->rchF E n f r S i=true->S i=false->∀ j,j < n->E i j=true->rchF E n f r S j=true):=by
 intro f
 induction f with
 | zero=>intro r S _ h;omega
 | succ f ih=>
  intro r S hr hc
  have key:∀ m,m<=n->(∀ i,setB S r i=true->(List.range m).foldl (fun T k=>if E r k && !T k then rchF E n f k T else T) (setB S r) i=true)/\
    (∀ i,(List.range m).foldl (fun T k=>if E r k && !T k then rchF E n f k T else T) (setB S r) i=true->S i=true∨Rch E n r i)/\
    (∀ i,i < n->(List.range m).foldl (fun T k=>if E r k && !T k then rchF E n f k T else T) (setB S r) i=true->S i=false->i ≠ r->∀ j,j < n->E i j=true->(List.range m).foldl (fun T k=>if E r k && !T k then rchF E n f k T else T) (setB S r) j=true)/\
    (∀ k,k < m->E r k=true->(List.range m).foldl (fun T k=>if E r k && !T k then rchF E n f k T else T) (setB S r) k=true):=by
   intro m
   induction m with
   | zero=>
    intro _
    refine ⟨fun i h=>h,fun i h=>?_,fun i _ h h1 h2=>?_,fun k h=>by omega⟩
    ·have h':(if i=r then true else S i)=true:=h
     by_cases e:i=r
     ·subst e;exact .inr .refl
     ·rw [if_neg e] at h';exact .inl h'
    ·have h':(if i=r then true else S i)=true:=h
     rw [if_neg h2,h1] at h';cases h'
   | succ m ihm=>
    intro hm
    obtain ⟨a0,a1,a2,a3⟩:=ihm (by omega)
    rw [foldl_range_succ]
    obtain ⟨U,hU⟩:∃ U,(List.range m).foldl (fun T k=>if E r k && !T k then rchF E n f k T else T) (setB S r)=U:=⟨_,rfl⟩
    rw [hU] at a0 a1 a2 a3 ⊢
    cases hE:E r m with
    | false=>
     simp only [Bool.false_and,Bool.false_eq_true,if_false]
     refine ⟨a0,a1,a2,fun k hk he=>?_⟩
     by_cases e:k=m
     ·subst e;rw [hE] at he;cases he
     ·exact a3 k (by omega) he
    | true=>
     cases hT:U m with
     | true=>
      simp only [Bool.not_true,Bool.and_false,Bool.false_eq_true,if_false]
      refine ⟨a0,a1,a2,fun k hk he=>?_⟩
      by_cases e:k=m
      ·subst e;exact hT
      ·exact a3 k (by omega) he
     | false=>
      simp only [Bool.not_false,Bool.and_true,if_true]
      have hcn:cntU n (setB U m) < f:=by
       have h1:=cntU_set n U m (by omega) hT
       have h2:=cntU_mono (n:=n) a0
       omega
      obtain ⟨b1,b2,b3⟩:=ih m U (by omega) hcn
      have b0:=fun i h=>rchF_sub E n f m U i h
      have hrm:Rch E n r m:=.step .refl hE (by omega)
      refine ⟨fun i h=>b0 i (a0 i h),fun i h=>?_,fun i hi h h1 h2 j hj he=>?_,fun k hk he=>?_⟩
      ·rcases b2 i h with h | h
       ·exact a1 i h
       ·exact .inr (hrm.trans h)
      ·cases hUi:U i with
       | true=>exact b0 j (a2 i hi hUi h1 h2 j hj he)
       | false=>exact b3 i hi h hUi j hj he
      ·by_cases e:k=m
       ·subst e;exact b1
       ·exact b0 k (a3 k (by omega) he)
  obtain ⟨a0,a1,a2,a3⟩:=key n (Nat.le_refl _)
  have hrr:setB S r r=true:=by unfold setB;rw [if_pos rfl]
  refine ⟨a0 r hrr,a1,fun i hi h h1 j hj he=>?_⟩
  by_cases e:i=r
  ·subst e;exact a3 j hj he
  ·exact a2 i hi h h1 e j hj he
/-- All that a rule reaches. -/
def rcB (E:Nat->Nat->Bool) (n r:Nat):Nat->Bool:=rchF E n (n+1) r (fun _=>false)
theorem cntU_le (n:Nat) (S:Nat->Bool):cntU n S<=n:=by
 unfold cntU
 exact Nat.le_trans (List.length_filter_le _ _) (by simp)
theorem rcB_iff {E:Nat->Nat->Bool} {n r:Nat} (hr:r < n) (i:Nat):rcB E n r i=true ↔ Rch E n r i:=by
 obtain ⟨h1,h2,h3⟩:=rchF_law E n (n+1) r (fun _=>false) hr (by have:=cntU_le n (setB (fun _=>false) r);omega)
 constructor
 ·intro h
  rcases h2 i h with h | h
  ·cases h
  ·exact h
 ·intro h
  induction h with
  | refl=>exact h1
  | step h he hn ih=>exact h3 _ (h.lt hr) ih rfl _ hn he
end Go.Proofs.YtgjhepblpdnkcaaGreatDoor
namespace Go.Proofs.YtgjhepblpdnkcaaGreatDoor

def rlx (E:Nat->Nat->Bool) (T:Nat->Bool) (a:Nat):Nat->Bool:=if T a then (fun j=>T j || E a j) else T
def rnd (E:Nat->Nat->Bool) (n:Nat) (T:Nat->Bool):Nat->Bool:=(List.range n).foldl (rlx E) T
def rnds (E:Nat->Nat->Bool) (n:Nat):Nat->(Nat->Bool)->Nat->Bool
 | 0,T=>T
 | k+1,T=>rnd E n (rnds E n k T)
theorem rlx_sub (E:Nat->Nat->Bool) (T:Nat->Bool) (a i:Nat) (h:T i=true):rlx E T a i=true:=by
 unfold rlx;split <;> simp [h]
theorem rlx_t (E:Nat->Nat->Bool) {T:Nat->Bool} {a:Nat} (h:T a=true) (i:Nat):rlx E T a i=(T i || E a i):=by unfold rlx;rw [if_pos h]
theorem rlx_f (E:Nat->Nat->Bool) {T:Nat->Bool} {a:Nat} (h:¬ T a=true) (i:Nat):rlx E T a i=T i:=by unfold rlx;rw [if_neg h]
theorem rlxs_sub (E:Nat->Nat->Bool):∀ (l:List Nat) (T:Nat->Bool) (i:Nat),T i=true->l.foldl (rlx E) T i=true
 | [],_,_,h=>h
 | a :: l,T,i,h=>rlxs_sub E l _ i (rlx_sub E T a i h)
theorem rnds_sub (E:Nat->Nat->Bool) (n:Nat) (T:Nat->Bool) (i:Nat) (h:T i=true):∀ k,rnds E n k T i=true
 | 0=>h
 | k+1=>rlxs_sub E _ _ i (rnds_sub E n T i h k)
/-- What is marked calls what is marked. -/
def Clo (E:Nat->Nat->Bool) (n:Nat) (T:Nat->Bool):Prop:=∀ a j,a < n->j < n->T a=true->E a j=true->T j=true
theorem clo_keep {E:Nat->Nat->Bool} {n:Nat} {T:Nat->Bool} (h:Clo E n T):∀ m,m<=n->∀ i,i < n->(List.range m).foldl (rlx E) T i=T i
 | 0,_,_,_=>rfl
 | m+1,hm,i,hi=>by
  rw [foldl_range_succ]
  have h1:=clo_keep h m (by omega)
  by_cases hc:(List.range m).foldl (rlx E) T m=true
  ·rw [rlx_t E hc,h1 i hi]
   cases ht:T i with
   | true=>rfl
   | false=>
    simp only [Bool.false_or]
    cases he:E m i with
    | false=>rfl
    | true=>rw [h1 m (by omega)] at hc;rw [h m i (by omega) hi hc he] at ht;cases ht
  ·rw [rlx_f E hc];exact h1 i hi
theorem rnd_eq_clo {E:Nat->Nat->Bool} {n:Nat} {T:Nat->Bool} (h:∀ i,i < n->rnd E n T i=T i):Clo E n T:=fun a j ha hj hT hE=>by
 rw [← h j hj]
 unfold rnd
 have key:∀ m,a < m->(List.range m).foldl (rlx E) T j=true:=by
  intro m
  induction m with
  | zero=>intro h;omega
  | succ m ih=>
   intro hm
   rw [foldl_range_succ]
   by_cases e:a=m
   ·subst e
    rw [rlx_t E (rlxs_sub E _ _ a hT),hE,Bool.or_true]
   ·exact rlx_sub _ _ _ _ (ih (by omega))
 exact key n ha
theorem cntU_eq {n:Nat} {S T:Nat->Bool} (h:∀ i,S i=true->T i=true) (hc:cntU n S<=cntU n T):∀ i,i < n->T i=S i:=by
 induction n with
 | zero=>intro i hi;omega
 | succ n ih=>
  have hs:∀ T:Nat->Bool,cntU (n+1) T=cntU n T+if T n then 0 else 1:=fun T=>by
   unfold cntU
   rw [List.range_succ,List.filter_append,List.length_append]
   cases h0:T n <;> simp [h0]
  rw [hs,hs] at hc
  have hm:=cntU_mono (n:=n) h
  have h3:=h n
  have key:T n=S n/\cntU n S<=cntU n T:=by
   cases h1:S n <;> cases h2:T n <;> simp [h1,h2] at hc h3 ⊢ <;> omega
  intro i hi
  by_cases e:i=n
  ·subst e;exact key.1
  ·exact ih key.2 i (by omega)
theorem rnds_clo (E:Nat->Nat->Bool) (n:Nat) (T:Nat->Bool):∀ k,Clo E n (rnds E n k T)∨cntU n (rnds E n k T)+k<=cntU n T
 | 0=>.inr (Nat.le_refl _)
 | k+1=>by
  rcases rnds_clo E n T k with h | h
  ·refine .inl (fun a j ha hj hT hE=>?_)
   have e:∀ i,i < n->rnds E n (k+1) T i=rnds E n k T i:=clo_keep h n (Nat.le_refl _)
   rw [e a ha] at hT
   rw [e j hj]
   exact h a j ha hj hT hE
  ·have hsub:∀ i,rnds E n k T i=true->rnds E n (k+1) T i=true:=fun i hi=>rlxs_sub E _ _ i hi
   by_cases hc:cntU n (rnds E n k T)<=cntU n (rnds E n (k+1) T)
   ·have e:=cntU_eq hsub hc
    have hcl:=rnd_eq_clo (E:=E) (n:=n) (T:=rnds E n k T) e
    refine .inl (fun a j ha hj hT hE=>?_)
    rw [e a ha] at hT
    rw [e j hj]
    exact hcl a j ha hj hT hE
   ·exact .inr (by omega)
theorem rnds_sound {E:Nat->Nat->Bool} {n r:Nat} {T:Nat->Bool} (h:∀ i,i < n->T i=true->Rch E n r i):∀ k i,i < n->rnds E n k T i=true->Rch E n r i
 | 0=>h
 | k+1=>by
  have key:∀ m,m<=n->∀ i,i < n->(List.range m).foldl (rlx E) (rnds E n k T) i=true->Rch E n r i:=by
   intro m
   induction m with
   | zero=>intro _;exact rnds_sound h k
   | succ m ih=>
    intro hm i hi
    rw [foldl_range_succ]
    intro hx
    by_cases hc:(List.range m).foldl (rlx E) (rnds E n k T) m=true
    ·rw [rlx_t E hc,Bool.or_eq_true] at hx
     rcases hx with hx | hx
     ·exact ih (by omega) i hi hx
     ·exact .step (ih (by omega) m (by omega) hc) hx hi
    ·rw [rlx_f E hc] at hx;exact ih (by omega) i hi hx
  exact key n (Nat.le_refl _)
/-- What the document tells of all that a rule reaches. -/
def rrB (E:Nat->Nat->Bool) (n r:Nat):Nat->Bool:=rnds E n n (setB (fun _=>false) r)
theorem rrB_iff {E:Nat->Nat->Bool} {n r:Nat} (hr:r < n) (i:Nat) (hi:i < n):rrB E n r i=true ↔ Rch E n r i:=by
 unfold rrB
 have h0:setB (fun _=>false) r r=true:=by unfold setB;rw [if_pos rfl]
 constructor
 ·refine rnds_sound (fun i hi h=>?_) n i hi
  have h':(if i=r then true else false)=true:=h
  by_cases e:i=r
  ·subst e;exact .refl
  ·rw [if_neg e] at h';cases h'
 ·rcases rnds_clo E n (setB (fun _=>false) r) n with h | h
  ·intro hx
   have hx2:Rch E n r i:=hx
   clear hi
   induction hx with
   | refl=>exact rnds_sub E n _ r h0 n
   | step h1 he hn ih=>exact h _ _ (h1.lt hr) hn (ih h1) he
  ·have h1:=cntU_set n (fun _=>false) r hr rfl
   have h2:=cntU_le n (fun _=>false)
   omega
theorem rcB_rrB {E:Nat->Nat->Bool} {n r:Nat} (hr:r < n) (i:Nat) (hi:i < n):rcB E n r i=rrB E n r i:=by
 rw [Bool.eq_iff_iff,rcB_iff hr,rrB_iff hr i hi]
theorem lisF_congr {n:Nat} {p q:Nat->Bool} (h:∀ i,i < n->p i=q i):lisF n p=lisF n q:=by
 unfold lisF
 congr 1
 exact List.filter_congr (fun i hi=>h i (List.mem_range.1 hi))
/-- A rule's calls, as far as its nodes have been gone through. -/
def tabR (G:Gr) (b n:Nat) (j:Nat):Bool:=(List.range (n - b)).any fun k=>decide ((ndAt G (b+k)).kind=5) && decide ((ndAt G (b+k)).rule=j)
theorem tabR_zero (G:Gr) (b j:Nat):tabR G b b j=false:=by unfold tabR;simp
theorem tabR_succ (G:Gr) (b n j:Nat) (h:b<=n):tabR G b (n+1) j=(tabR G b n j || (decide ((ndAt G n).kind=5) && decide ((ndAt G n).rule=j))):=by
 unfold tabR
 rw [show n+1 - b=(n - b)+1 by omega,List.range_succ,List.any_append]
 simp only [List.any_cons,List.any_nil,Bool.or_false]
 rw [show b+(n - b)=n by omega]
def tabB (G:Gr) (i j:Nat):Bool:=tabR G (ruAt G.rules i).body.toNat (endI G i) j
theorem edg_tab {G:Gr} (hR:rightP G=true) {i:Nat} (hi:i < G.rules.length) (j:Nat):edgB G i j=tabB G i j:=by
 obtain ⟨b,h1,h2,h3,h4⟩:=right_rule hR hi
 unfold edgB tabB tabR
 rw [h1,Int.toNat_natCast,← h3,show b+sizN G b - b=sizN G b by omega,Bool.eq_iff_iff]
 simp only [decide_eq_true_eq,List.any_eq_true,List.mem_range,Bool.and_eq_true]
 unfold edgL edgI walkL
 simp only [List.mem_flatMap,List.mem_range,List.mem_map,List.mem_filter,decide_eq_true_eq,Prod.mk.injEq]
 constructor
 ·rintro ⟨i',_,y,⟨⟨k,hk,rfl⟩,hy⟩,rfl,hj⟩
  rw [h1,Int.toNat_natCast] at hk hy hj
  exact ⟨k,hk,hy,hj⟩
 ·rintro ⟨k,hk,hy,hj⟩
  refine ⟨i,hi,_,⟨⟨k,?_,rfl⟩,?_⟩,rfl,?_⟩
  ·rw [h1];exact hk
  ·rw [h1];exact hy
  ·rw [h1];exact hj
end Go.Proofs.YtgjhepblpdnkcaaGreatDoor
namespace Go.Proofs.YtgjhepblpdnkcaaGreatDoor

/-- All that a rule reaches, as it is told. -/
def recL (G:Gr) (rule:Int):List Int:=if okR G rule then lisF G.rules.length (rcB (edgB G) G.rules.length rule.toNat) else []
/-- Does a row have a number? -/
def hasB (l:List Int) (n:Int):Bool:=l.any fun x=>x == n
theorem hasB_append (l:List Int) (x n:Int):hasB (l ++ [x]) n=(hasB l n || x == n):=by unfold hasB;rw [List.any_append];simp
theorem hasB_lis (n:Nat) (p:Nat->Bool) (k:Nat):hasB (lisF n p) (k:Int)=(decide (k < n) && p k):=by
 rw [Bool.eq_iff_iff]
 unfold hasB lisF
 simp only [List.any_eq_true,List.mem_map,List.mem_filter,List.mem_range,beq_iff_eq,Bool.and_eq_true,decide_eq_true_eq]
 constructor
 ·rintro ⟨x,⟨i,hi,rfl⟩,e⟩
  obtain rfl:i=k:=by omega
  exact hi
 ·intro h;exact ⟨k,⟨k,h,rfl⟩,rfl⟩
theorem lisF_mem {n:Nat} {p:Nat->Bool} {x:Int} (h:x ∈ lisF n p):∃ k:Nat,x=k/\k < n/\p k=true:=by
 unfold lisF at h
 simp only [List.mem_map,List.mem_filter,List.mem_range] at h
 obtain ⟨i,hi,rfl⟩:=h
 exact ⟨i,rfl,hi.1,hi.2⟩
theorem lisF_rise (n:Nat) (p:Nat->Bool):(lisF n p).Pairwise (· < ·):=by
 unfold lisF
 rw [List.pairwise_map]
 refine List.Pairwise.filter _ ?_
 exact List.Pairwise.imp (fun h=>by omega) (List.pairwise_lt_range)
theorem Rch.head {E:Nat->Nat->Bool} {n r i:Nat} (h:Rch E n r i):i=r∨∃ k,k < n/\E r k=true/\Rch E n k i:=by
 induction h with
 | refl=>exact .inl rfl
 | step h he hn ih=>
  rcases ih with rfl | ⟨k,h1,h2,h3⟩
  ·exact .inr ⟨_,hn,he,.refl⟩
  ·exact .inr ⟨k,h1,h2,.step h3 he hn⟩
theorem okR_pick {G:Gr} (hR:rightP G=true) {k:Nat} (hk:k < G.rules.length):okR G (k:Int)=true:=by
 unfold okR;rw [hR];simp;omega
theorem clr_has {G:Gr} (hR:rightP G=true) {x y:Nat} (hx:x < G.rules.length) (hy:y < G.rules.length):hasB (clrL G y) x=edgB G x y:=by
 unfold clrL;rw [okR_pick hR hy,if_pos rfl,hasB_lis];simp [hx]
theorem cld_has {G:Gr} (hR:rightP G=true) {x y:Nat} (hx:x < G.rules.length) (hy:y < G.rules.length):hasB (cldL G x) y=edgB G x y:=by
 unfold cldL;rw [okR_pick hR hx,if_pos rfl,hasB_lis];simp [hy]
theorem rec_has {G:Gr} (hR:rightP G=true) {x y:Nat} (hx:x < G.rules.length) (hy:y < G.rules.length):hasB (recL G x) y=rcB (edgB G) G.rules.length x y:=by
 unfold recL;rw [okR_pick hR hx,if_pos rfl,hasB_lis];simp [hy]
theorem rec_self {G:Gr} (hR:rightP G=true) {x:Nat} (hx:x < G.rules.length):hasB (recL G x) x=true:=by
 rw [rec_has hR hx hx,rcB_iff hx];exact .refl
/-- Reached at once, or from one of the first so many that are called. -/
def inB (G:Gr) (x y:Nat) (m:Nat):Bool:=(y == x) || ((cldL G x).take m).any fun k=>hasB (recL G k) y
theorem inB_zero (G:Gr) (x y:Nat):inB G x y 0=(y == x):=by simp [inB]
theorem inB_succ (G:Gr) (x y m:Nat) (h:m < (cldL G x).length):inB G x y (m+1)=(inB G x y m || hasB (recL G ((cldL G x)[m])) y):=by
 unfold inB
 rw [List.take_succ_eq_append_getElem h,List.any_append]
 simp [Bool.or_assoc]
theorem in_all {G:Gr} (hR:rightP G=true) {x y:Nat} (hx:x < G.rules.length) (hy:y < G.rules.length):inB G x y (cldL G x).length=hasB (recL G x) y:=by
 rw [rec_has hR hx hy,Bool.eq_iff_iff,rcB_iff hx]
 unfold inB
 rw [List.take_length]
 simp only [Bool.or_eq_true,beq_iff_eq,List.any_eq_true]
 have hc:cldL G x=lisF G.rules.length (edgB G x):=by unfold cldL;rw [okR_pick hR hx,if_pos rfl];rfl
 constructor
 ·rintro (rfl | ⟨k,hk,h⟩)
  ·exact .refl
  ·rw [hc] at hk
   obtain ⟨k,rfl,h1,h2⟩:=lisF_mem hk
   rw [rec_has hR h1 hy,rcB_iff h1] at h
   exact (Rch.step .refl h2 h1).trans h
 ·intro h
  rcases h.head with h | ⟨k,h1,h2,h3⟩
  ·exact .inl h
  ·refine .inr ⟨(k:Int),?_,?_⟩
   ·rw [hc];unfold lisF
    exact List.mem_map.2 ⟨k,List.mem_filter.2 ⟨List.mem_range.2 h1,h2⟩,rfl⟩
   ·rw [rec_has hR h1 hy,rcB_iff h1];exact h3
end Go.Proofs.YtgjhepblpdnkcaaGreatDoor
namespace Go.Proofs.YtgjhepblpdnkcaaGreatDoor
open Go.RowKit
set_option maxRecDepth 100000
set_option maxHeartbeats 4000000

theorem reached1_any {w:World} {gi bi n:Nat} {T:Nat->Bool} (hb:hrow w gi #[.slice (some ⟨bi,0,none⟩) n n] 112) (hr:hrow w bi (arrF n (bitF T)) 4) (k:Nat) (hk:k < n):
  Calls Tryz.prog 61 (#[.int .i64 k] ++ #[.pointer (some ⟨gi,0,none⟩)]) w fun e w'=>e=.returned (.bool (T k))/\Below w.heap.size w w':=by
 have c0:=hb.cell 0
 have c1:w.cell? ⟨bi,k,none⟩=some (.bool (T k)):=(hr.cell k).trans (arrF_get _ _ _ hk)
 have hkI:(k:Int) < n:=by omega
 clear hb hr hk
 go_enter Tryz.func61,Tryz.ntmps61
 go_wp2_with fail
 go_ret
 exact ⟨rfl,Below.refl _ _⟩
theorem reached_any (w:World) (ro:Option Addr) (rc:Nat) (no:Option Addr) (nc:Nat) (NK:List Nk) (G:Gr) (hG:GrW w ro G.rules.length rc no NK.length nc NK G) (hkl:∀ x ∈ NK,x.1.kids.length<=1000000) (hnl:NK.length<=1000000) (rule:Int):
  Calls Tryz.prog 22 #[grv ro G.rules.length rc no NK.length nc,.int .i64 rule] w fun e w'=>∃ v,e=.returned v/\Own w w' 3 1 v (recL G rule).length (inc (recL G rule)):=by
 have hmf:∀ (fn:Fn) (first cap:Array Value) (w:World),(Instr.makeFunc fn first cap).run Tryz.prog w=.ok (.func fn first cap) w:=fun _ _ _ _=>rfl
 obtain ⟨g,hg⟩:∃ g,w.heap.size=g:=⟨_,rfl⟩
 obtain ⟨z,hz⟩:∃ z,w.alloc (.cells #[.slice ro G.rules.length rc,.slice no NK.length nc] 25)=z:=⟨_,rfl⟩
 have zb:=(Below.refl _ w).alloc (Nat.le_refl _) (.cells #[.slice ro G.rules.length rc,.slice no NK.length nc] 25)
 have z1:=hrow.new w #[.slice ro G.rules.length rc,.slice no NK.length nc] 25
 rw [hz] at zb z1
 rw [hg] at z1
 have HOF:=Lib.hid (ofg_any z ro rc no nc NK G (hG.below zb) hkl hnl rule)
 have HZ:=Lib.hid hz;have HG:=Lib.hid hg;have H1:=Lib.hid z1;have HB:=Lib.hid zb
 have hn32:rightP G=true->G.rules.length<=1000000:=fun h=>by have:=(right_sizes h).2.1;omega
 have HNN:=Lib.hid hn32
 clear hz hg z1 zb hG hkl hnl hn32
 unfold grv at HOF ⊢
 obtain ⟨rn,hrn⟩:∃ n,G.rules.length=n:=⟨_,rfl⟩
 have HRN:=Lib.hid hrn
 unfold OfgP at HOF
 rw [hrn] at HZ H1 HOF HNN ⊢
 clear hrn
 go_enter Tryz.func22,Tryz.ntmps22
 go_upto_region 1 with (fail)
 rw [HZ.out,HG.out]
 go_wp2_with (refine load_gram rfl (.tmp 2) rfl g rfl _ H1.out rfl ?_)
 refine HOF.out.mono ?_
 cases hok:okR G rule with
 | false=>
  rintro e x ⟨hbx,he⟩
  rw [if_neg (by decide)] at he
  subst he
  have HOK:Hid (recL G rule=[]):=by unfold Hid recL;rw [hok];rfl
  have HB2:=Lib.hid (HB.out.trans (hbx.mono HB.out.size))
  clear hbx
  go_wp2_with fail
  go_ret
  refine ⟨_,rfl,?_⟩
  rw [HOK.out]
  exact (Own.nil w 3 1).below HB2.out
 | true=>
  rintro e x ⟨hbx,he⟩
  rw [if_pos rfl] at he
  obtain ⟨gb,bs,rfl,hgr⟩:=he
  have hr0:0<=rule/\rule < rn/\rightP G=true:=by
   unfold okR at hok
   rw [HRN.out] at hok
   simp only [Bool.and_eq_true,decide_eq_true_eq] at hok
   exact ⟨hok.2.1,hok.2.2,hok.1⟩
  have HLL:Hid (recL G rule=lisF rn (rcB (edgB G) rn rule.toNat)):=by unfold Hid recL;rw [hok,HRN.out];rfl
  obtain ⟨r,rfl⟩:∃ r:Nat,rule=(r:Int):=⟨rule.toNat,by omega⟩
  rw [Int.toNat_natCast] at HLL
  have HRR:Hid (r < rn/\rn<=1000000):=⟨by have:=hr0.2.1;omega,HNN.out hr0.2.2⟩
  have hmk2:=run_make_row' (P:=Tryz.prog) 112 4 (.bool false) 1 (by kernel_rfl) infoBool rfl .i64 .i64 rn (by have:=HRR.out;omega) (by have:=HRR.out;omega)
  rw [made_arrF] at hmk2
  have HGR:=Lib.hid hgr
  have HB2:=Lib.hid (HB.out.trans (hbx.mono HB.out.size))
  clear hbx hgr hr0 hok
  go_upto_region 4 with (fail)
  obtain ⟨y,hy,y1,y2,yb⟩:=three0 x x.heap.size rfl (arrF rn (bitF fun _=>false)) #[.slice (some ⟨x.heap.size,0,none⟩) rn rn] 4 112
  have hy':(x.alloc (.cells (arrF rn fun _=>.bool false) 4)).alloc (.cells #[.slice (some ⟨x.heap.size,0,none⟩) rn rn] 112)=y:=hy
  go_upto_region 5 with (fail)
  have HY1:=Lib.hid y1;have HY2:=Lib.hid y2
  have HNE:Hid (∀ i,i < rn->x.heap.size ≠ bs i):=fun i hi e=>by have:=(HGR.out.bit i hi).lt;omega
  have HGRY:=Lib.hid (HGR.out.below yb)
  have HBY:=Lib.hid (HB2.out.trans (yb.mono HB2.out.size))
  have HXS:=Lib.hid HB2.out.size
  clear hy hy' y1 y2 yb hmk2
  generalize x.heap.size=bi at *
  have c1:=HY2.out.cell 0
  have HRC:=Lib.hid (reach_any (edgB G) rn w.heap.size gb bi bs HRR.out.2 HNE.out (rn+1) r (fun _=>false) y HRR.out.1 (by have:=cntU_le rn (setB (fun _=>false) r);omega) (by
   have h:=HGRY.out
   exact ⟨h.row,h.bit,h.inj,⟨Nat.le_trans HB.out.size h.lo.1,fun i hi=>Nat.le_trans HB.out.size (h.lo.2 i hi)⟩⟩) HY1.out)
  go_wp2_with fail
  refine HRC.out.mono ?_
  rintro e u ⟨rfl,hbu,hfu⟩
  have HU1:Hid (hrow u bi (arrF rn (bitF (rcB (edgB G) rn r))) 4):=hbu
  have HU2:=Lib.hid (HY2.out.fr hfu (by omega))
  have HBU:=Lib.hid (HBY.out.trans (hfu.below HBY.out.size (fun k hk e=>by have:=HXS.out;have e':k=bi:=e;omega)))
  clear hbu hfu HRC c1
  have HWH:=Lib.hid (which_any u (some ⟨gb,0,none⟩) rn rn HRR.out.2 (rcB (edgB G) rn r) 61 #[.pointer (some ⟨bi+1,0,none⟩)] (enters_of Tryz.func61 (by kernel_rfl) rfl) (fun k hk v hv=>reached1_any (HU2.out.below hv) (HU1.out.below hv) k hk))
  go_wp2_with fail
  refine HWH.out.mono ?_
  rintro e u2 ⟨v,rfl,ho⟩
  have HO:=Lib.hid (ho.since HBU.out)
  clear ho HWH
  go_wp2_with fail
  go_ret
  refine ⟨_,rfl,?_⟩
  rw [HLL.out]
  exact HO.out
end Go.Proofs.YtgjhepblpdnkcaaGreatDoor
namespace Go.Proofs.YtgjhepblpdnkcaaGreatDoor
open Go.RowKit
set_option maxRecDepth 100000
set_option maxHeartbeats 4000000

def resD (R:List Ru) (NM:List ByteArray) (i:Nat) (x:Nd):Nd:=if x.kind=5 then { x with rule:=(((fixF R (NM.getD i ⟨#[]⟩) 0).getD 0:Nat):Int) } else x
def resN (R:List Ru) (NM:List ByteArray) (N:List Nd):List Nd:=N.mapIdx (resD R NM)
def resK (R:List Ru) (NM:List ByteArray) (i:Nat) (x:Nk):Nk:=(resD R NM i x.1,x.2)
def resL (R:List Ru) (NM:List ByteArray) (m:Nat) (NK:List Nk):List Nk:=NK.mapIdx fun i x=>if i < m then resK R NM i x else x
theorem resD_kids (R:List Ru) (NM:List ByteArray) (i:Nat) (x:Nd):(resD R NM i x).kids=x.kids:=by unfold resD;split <;> rfl
theorem resL_len (R:List Ru) (NM:List ByteArray) (m:Nat) (NK:List Nk):(resL R NM m NK).length=NK.length:=by simp [resL]
theorem resL_zero (R:List Ru) (NM:List ByteArray) (NK:List Nk):resL R NM 0 NK=NK:=by
 apply List.ext_getElem (by simp [resL])
 intro i h1 h2
 simp [resL]
theorem resL_at (R:List Ru) (NM:List ByteArray) (m:Nat) (NK:List Nk) (h:m < NK.length):(resL R NM m NK)[m]'(by rw [resL_len];exact h)=NK[m]:=by simp [resL]
theorem resL_step (R:List Ru) (NM:List ByteArray) (m:Nat) (NK:List Nk) (h:m < NK.length):resL R NM (m+1) NK=(resL R NM m NK).set m (resK R NM m NK[m]):=by
 apply List.ext_getElem (by simp [resL])
 intro i h1 h2
 rw [List.getElem_set]
 by_cases e:m=i
 ·subst e;simp [resL]
 ·rw [if_neg e]
  simp only [resL,List.getElem_mapIdx]
  by_cases h3:i < m
  ·rw [if_pos h3,if_pos (by omega)]
  ·rw [if_neg h3,if_neg (by omega)]
theorem resL_skip (R:List Ru) (NM:List ByteArray) (m:Nat) (NK:List Nk) (h:m < NK.length) (hk:NK[m].1.kind ≠ 5):resL R NM (m+1) NK=resL R NM m NK:=by
 rw [resL_step R NM m NK h]
 have e:resK R NM m NK[m]=(resL R NM m NK)[m]'(by rw [resL_len];exact h):=by
  rw [resL_at]
  unfold resK resD
  rw [if_neg hk]
 rw [e,List.set_getElem_self]
theorem resL_all (R:List Ru) (NM:List ByteArray) (NK:List Nk):(resL R NM NK.length NK).map (·.1)=resN R NM (NK.map (·.1)):=by
 apply List.ext_getElem (by simp [resL,resN])
 intro i h1 h2
 have h3:i < NK.length:=by simpa [resL] using h1
 simp [resL,resN,h3,resK]
theorem resL_mem {R:List Ru} {NM:List ByteArray} {m:Nat} {NK:List Nk} {y:Nk} (h:y ∈ resL R NM m NK):∃ x ∈ NK,y.2=x.2/\y.1.kids=x.1.kids:=by
 obtain ⟨i,hi,rfl⟩:=List.mem_iff_getElem.1 h
 have h3:i < NK.length:=by rw [resL_len] at hi;exact hi
 refine ⟨NK[i],List.getElem_mem h3,?_⟩
 simp only [resL,List.getElem_mapIdx]
 split
 ·exact ⟨rfl,resD_kids _ _ _ _⟩
 ·exact ⟨rfl,rfl⟩
theorem resL_apart {R:List Ru} {NM:List ByteArray} {m:Nat} {NK:List Nk} (h:NK.Pairwise ApK):(resL R NM m NK).Pairwise ApK:=by
 rw [List.pairwise_iff_getElem] at h ⊢
 intro i j hi hj hij
 have h1:i < NK.length:=by rw [resL_len] at hi;exact hi
 have h2:j < NK.length:=by rw [resL_len] at hj;exact hj
 have h3:=h i j h1 h2 hij
 have e:∀ (k:Nat) (hk:k < NK.length),((resL R NM m NK)[k]'(by rw [resL_len];exact hk)).2=NK[k].2/\((resL R NM m NK)[k]'(by rw [resL_len];exact hk)).1.kids=NK[k].1.kids:=by
  intro k hk
  simp only [resL,List.getElem_mapIdx]
  split
  ·exact ⟨rfl,resD_kids _ _ _ _⟩
  ·exact ⟨rfl,rfl⟩
 unfold ApK at h3 ⊢
 rw [(e i h1).1,(e i h1).2,(e j h2).1,(e j h2).2]
 exact h3
/-- A grammar in rows of its own. -/
structure GrO (w:World) (B:Nat) (vr vn:Value) (R:List Ru) (N:List Nd):Prop where
 r:w.ownsRow B 49 2 vr R.length (R.flatMap ruc)
 n:∃ NK:List Nk,w.ownsRow B 45 9 vn NK.length (NK.flatMap ndc)/\NK.map (·.1)=N/\(∀ x ∈ NK,XN B x w)/\NK.Pairwise ApK
theorem GrO.nil (w:World) (B:Nat):GrO w B (.slice none 0 0) (.slice none 0 0) [] []:=⟨World.ownsRow_nil _ _ _ _,[],World.ownsRow_nil _ _ _ _,rfl,fun _ h=>by simp at h,List.Pairwise.nil⟩
/-- What is told of a tree: the error and where, or the grammar. -/
def resE (R:List Ru) (N:List Nk) (RA NA:List Int) (NM:List ByteArray):Int×Int:=
 if whoB R N RA NA NM then
  match twcF R N RA NA NM with
  | some k=>(8,bt RA k)
  | none=>match lstF R N RA NA NM with
   | some n=>(5,bt NA n)
   | none=>(0,0)
 else (4,0)
def ResP (w:World) (R:List Ru) (NK:List Nk) (RA NA:List Int) (NM:List ByteArray) (e:Ending) (w':World):Prop:=
 ∃ vr vn,e=.returned (.tuple #[.agg #[vr,vn],.agg #[.int .i64 (resE R NK RA NA NM).1,.int .i64 (resE R NK RA NA NM).2]])/\Below w.heap.size w w'/\
  GrO w' w.heap.size vr vn (if (resE R NK RA NA NM).1=0 then R else []) (if (resE R NK RA NA NM).1=0 then resN R NM (NK.map (·.1)) else [])
/-- While the calls are resolved. -/
structure RsI (w4:World) (g1:Nat) (vr vn:Value) (R:List Ru) (NM:List ByteArray) (NK:List Nk) (m:Nat) (wr:World):Prop where
 o:hrow wr g1 #[vr,vn] 25
 r:wr.ownsRow w4.heap.size 49 2 vr R.length (R.flatMap ruc)
 n:wr.ownsRow w4.heap.size 45 9 vn NK.length ((resL R NM m NK).flatMap ndc)
 k:∀ x ∈ NK,XN w4.heap.size x wr
 fr:Fr (fun k=>k=g1) w4 wr
theorem owns_ne {w:World} {b b' e e' s s' n n' g:Nat} {v v':Value} {xs xs':List Value} (h:w.ownsRow b e s v n xs) (h':w.ownsRow b' e' s' v' n' xs') (hne:e ≠ e') (hv':v'.ownBlock=some g):v.ownBlock ≠ some g:=fun hv=>by
 rcases h.2 with ⟨h1,-⟩ | ⟨k,c,cur,h1,-,hh,-⟩
 ·rw [h1] at hv;cases hv
 ·rcases h'.2 with ⟨h2,-⟩ | ⟨k',c',cur',h2,-,hh',-⟩
  ·rw [h2] at hv';cases hv'
  ·rw [h1] at hv;rw [h2] at hv'
   cases hv;cases hv'
   rw [hh] at hh';cases hh';exact hne rfl
theorem fl_set {α:Type} {f:α->List Value} {s:Nat} (hf:∀ x,(f x).length=s):∀ (l:List α) (m:Nat) (y:α) (j:Nat) (u:Value) (hm:m < l.length),j < s->f y=(f l[m]).set j u->(l.set m y).flatMap f=(l.flatMap f).set (m * s+j) u
 | x :: l,0,y,j,u,_,hj,e=>by
  simp only [List.set_cons_zero,List.flatMap_cons,List.getElem_cons_zero] at e ⊢
  rw [e,Nat.zero_mul,Nat.zero_add,List.set_append_left _ _ (by rw [hf];exact hj)]
 | x :: l,m+1,y,j,u,hm,hj,e=>by
  simp only [List.set_cons_succ,List.flatMap_cons,List.getElem_cons_succ] at e ⊢
  rw [fl_set hf l m y j u (by simpa using hm) hj e,List.set_append_right _ _ (by rw [hf,Nat.succ_mul];omega),hf]
  congr 2
  rw [Nat.succ_mul];omega
/-- One call is resolved. -/
theorem RsI.step {w4 wr:World} {g1 gn c:Nat} {vr:Value} {R:List Ru} {NM:List ByteArray} {NK:List Nk} {m:Nat} (h:RsI w4 g1 vr (.slice (some ⟨gn,0,none⟩) NK.length c) R NM NK m wr) (hm:m < NK.length) (hk:NK[m].1.kind=5) (hg:g1 < w4.heap.size):
  RsI w4 g1 vr (.slice (some ⟨gn,0,none⟩) NK.length c) R NM NK (m+1) (wr.setCell ⟨gn,m * 9+6,none⟩ (.int .i64 (((fixF R (NM.getD m ⟨#[]⟩) 0).getD 0:Nat):Int))):=by
 have hgn:w4.heap.size<=gn:=(h.n.lt gn rfl).1
 have hf:=Fr.setCell wr ⟨gn,m * 9+6,none⟩ (.int .i64 (((fixF R (NM.getD m ⟨#[]⟩) 0).getD 0:Nat):Int))
 refine ⟨h.o.fr hf (fun e=>by have e':g1=gn:=e;omega),owns_fr h.r hf (fun k hk e=>by have e':k=gn:=e;subst e';exact owns_ne h.r h.n (by decide) rfl hk),?_,fun x hx=>owns_fr (h.k x hx) hf (fun k hk e=>by have e':k=gn:=e;subst e';exact owns_ne (h.k x hx) h.n (by decide) rfl hk),h.fr.trans hf (fun k hk e=>by have e':k=gn:=e;omega)⟩
 have h1:=(h.n.stored (m * 9+6) (.int .i64 (((fixF R (NM.getD m ⟨#[]⟩) 0).getD 0:Nat):Int))).1
 rw [resL_step R NM m NK hm,fl_set ndc_len (resL R NM m NK) m _ 6 _ (by rw [resL_len];exact hm) (by decide) ?_]
 ·exact h1
 ·rw [resL_at R NM m NK hm]
  unfold resK resD
  rw [if_pos hk]
  rfl
theorem RsI.skip {w4 wr:World} {g1:Nat} {vr vn:Value} {R:List Ru} {NM:List ByteArray} {NK:List Nk} {m:Nat} (h:RsI w4 g1 vr vn R NM NK m wr) (hm:m < NK.length) (hk:NK[m].1.kind ≠ 5):RsI w4 g1 vr vn R NM NK (m+1) wr:=by
 refine ⟨h.o,h.r,?_,h.k,h.fr⟩
 rw [resL_skip R NM m NK hm hk]
 exact h.n
theorem RsI.below {w4 wr w':World} {g1:Nat} {vr vn:Value} {R:List Ru} {NM:List ByteArray} {NK:List Nk} {m:Nat} (h:RsI w4 g1 vr vn R NM NK m wr) (hb:Below wr.heap.size wr w'):RsI w4 g1 vr vn R NM NK m w':=by
 have hf:=Fr.of_below (F:=fun _=>False) hb
 exact ⟨h.o.below hb,owns_fr h.r hf (fun _ _ e=>e),owns_fr h.n hf (fun _ _ e=>e),fun x hx=>owns_fr (h.k x hx) hf (fun _ _ e=>e),h.fr.trans hf (fun _ _ e=>e.elim)⟩
end Go.Proofs.YtgjhepblpdnkcaaGreatDoor
