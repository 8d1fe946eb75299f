/- Walks and plain laws: Zf FKc FKd FKe FKf FKg FKh. -/
import Derived.Test.YtgjhepblpdnkcaaGreatDoorC05
import Derived.Test.YtgjhepblpdnkcaaGreatDoorC04
import Derived.OwnWalk
import Derived.Test.YtgjhepblpdnkcaaGreatDoorM08
import Derived.Test.YtgjhepblpdnkcaaGreatDoorM09
namespace Go.Proofs.YtgjhepblpdnkcaaGreatDoor
open Go.RowKit
set_option maxRecDepth 100000
set_option maxHeartbeats 8000000

/-- The lists anew, where nothing of theirs was touched. -/
theorem Fl.again {α:Type} {f:α->List Value} {e eL s:Nat} {w0 w w':World} {B K lg lc:Nat} {R G:Nat->Value} {n:Nat->Nat} {Y Z:Nat->List α} (h:Fl f e eL s w0 w B K lg lc R n Y 0 G Z) {F:Nat->Prop} (hf:Fr F w w') (h1:∀ i g,i < K->(R i).ownBlock=some g->¬ F g) (h2:¬ F lg):Fl f e eL s w' w' B K lg lc R n Y 0 R Y:=
 ⟨Two.start (fun i hi=>owns_fr (h.two.own1 i hi) hf (fun g hg=>h1 i g hi hg)) (fun i j g hi hj h1 h2=>h.two.ap i j g hi hj (.inl h1) (.inl h2)) R Y,owns_fr h.ls hf (fun g hg=>by have e:lg=g:=(by simpa [Value.ownBlock] using hg);subst e;exact h2),h.len,Fr.refl _ _,fun i g hi=>absurd hi (by omega)⟩
def ownF (K:Nat) (R:Nat->Value):Nat->Prop:=fun b=>∃ i,i < K/\(R i).ownBlock=some b
theorem bag_info:(bagV (.slice none 0 0) (.slice none 0 0) (.slice none 0 0) (.slice none 0 0))=#[.slice none 0 0,.slice none 0 0,.slice none 0 0,.slice none 0 0,.slice none 0 0,.slice none 0 0,.slice none 0 0,.slice none 0 0,.slice none 0 0,.slice none 0 0,.slice none 0 0,.slice none 0 0,.slice none 0 0,.slice none 0 0]:=rfl
theorem BagI.new (w:World):BagI w w.heap.size [] [] [] [] (w.alloc (.cells (bagV (.slice none 0 0) (.slice none 0 0) (.slice none 0 0) (.slice none 0 0)) 132)):=
 ⟨⟨_,_,_,_,hrow.new _ _ _,World.ownsRow_nil _ _ _ _,World.ownsRow_nil _ _ _ _,World.ownsRow_nil _ _ _ _,World.ownsRow_nil _ _ _ _,fun _=>rfl,fun _=>rfl,fun _=>rfl,fun _=>rfl⟩,(Below.refl _ _).alloc (Nat.le_refl _) _,Nat.le_refl _⟩
/-- A bag with lists of ints alone. -/
theorem apartI_bag (w0 w:World) (gb B K:Nat) (hK:K<=1000) (hK0:0 < K) (R:Nat->Value) (n:Nat->Nat) (Y:Nat->List Int) (h:BagI w0 gb ((List.range K).map R) [] [] [] w) (hBg:B<=gb) (hT:Two icf B 3 1 w K R Y 0 R Y) (hl:∀ k,k < K->(Y k).length=n k) (hn:∀ k,k < K->n k<=5000):
  Calls Tryz.prog 73 #[.pointer (some ⟨gb,0,none⟩)] w fun r w'=>r=.returned (.bool true)/\Fr (ownF K R) w w':=by
 obtain ⟨vi,vn,vr,vg,h1,hI,hN,hR,hG,e1,e2,e3,e4⟩:=h.ex
 obtain rfl:=e2 rfl
 obtain rfl:=e3 rfl
 obtain rfl:=e4 rfl
 simp only [List.length_map,List.length_range] at hI
 obtain ⟨lg,lc,rfl,hlg,hll⟩:=World.ownsRow.form hI hK0
 have hFl:Fl icf 3 26 1 w w B K lg lc R n Y 0 R Y:=⟨hT,hI.mono hBg,hl,Fr.refl _ _,fun i g hi=>absurd hi (by omega)⟩
 refine (apart_gen w gb _ _ _ _ (ownF K R) (fun _=>False) (fun _=>False) (fun _=>False) (fun v=>Fl icf 3 26 1 v v B K lg lc R n Y 0 R Y) (fun _=>True) (fun _=>True) (fun _=>True) h1 hFl trivial trivial trivial
  (fun v hv=>flatI_some mkI (Lib.hid mark_below) v B K lg lc hK hK0 R n Y hv hn)
  (fun v _=>(flat58_none v).mono (by rintro e w' ⟨rfl,hb⟩;exact ⟨rfl,Fr.of_below hb⟩))
  (fun v _=>(flat59_none v).mono (by rintro e w' ⟨rfl,hb⟩;exact ⟨rfl,Fr.of_below hb⟩))
  (fun v _=>(flat61_none v).mono (by rintro e w' ⟨rfl,hb⟩;exact ⟨rfl,Fr.of_below hb⟩))
  (fun v v' hv hf=>hv.again hf (fun _ _ _ _ e=>e) (fun e=>e)) (fun _ _ _ _=>trivial) (fun _ _ _ _=>trivial) (fun _ _ _ _=>trivial) ⟨?_,fun e=>e,fun e=>e,fun e=>e⟩).mono ?_
 ·rintro ⟨i,hi,hg⟩
  exact hrow_owns h1 (hT.own1 i hi) (by decide) hg
 ·rintro e w' ⟨rfl,hf⟩
  refine ⟨rfl,hf.weak (fun b hb=>?_)⟩
  rcases hb with h | h | h | h
  ·exact h
  ·exact h.elim
  ·exact h.elim
  ·exact h.elim
theorem apartInts_any (w:World) (B K:Nat) (hK:K<=1000) (hK0:0 < K) (hB:B<=w.heap.size) (lo:Option Addr) (lc:Nat) (R:Nat->Value) (n:Nat->Nat) (Y:Nat->List Int)
  (hls:Sv w lo K lc 1 ((List.range K).map R)) (hT:Two icf B 3 1 w K R Y 0 R Y) (hl:∀ k,k < K->(Y k).length=n k) (hn:∀ k,k < K->n k<=5000):
  Calls Tryz.prog 49 #[.slice lo K lc] w fun r w'=>r=.returned (.bool true)/\Below B w w':=by
 have hlb:=hls.bound
 have HLs:=Lib.hid hls;have HT:=Lib.hid hT;have HLe:=Lib.hid hl;have HN:=Lib.hid hn;have HK:=Lib.hid hK;have HK0:=Lib.hid hK0;have HB:=Lib.hid hB
 have HB0:=Lib.hid (BagI.new w)
 clear hls hT hl hn hK hK0 hB
 rw [bag_info] at HB0
 go_enter Tryz.func49,Tryz.ntmps49
 go_wp2_with fail
 revert HB0
 generalize w.alloc _=w1
 generalize hgb:w.heap.size=gb
 intro HB0
 have HGb:=Lib.hid hgb
 clear hgb
 go_loopw [4] (fun i wr=>∃ k:Nat,k<=K/\i=.int .i64 k/\Hid (BagI w gb ((List.range k).map R) [] [] [] wr)) (fun i _=>K - (intOf i).toNat)
 case atStart=>exact ⟨0,Nat.zero_le _,rfl,HB0.out⟩
 case round=>
  clear HB0
  obtain ⟨k,hk,rfl,HI⟩:=hrel
  by_cases hkt:k < K
  ·have hktI:(k:Int) < K:=by omega
   have HKT:=Lib.hid hkt
   have HKB:Hid ((k:Int)+1<=1000000):=by have:=HK.out;unfold Hid;omega
   obtain ⟨ao,cap,hv,_⟩:=Sv.of_owns (HT.out.own1 k hkt)
   obtain ⟨la,rfl,hc⟩:=(HLs.out.below HI.out.bel).cell k (by simp;omega)
   have hck:wr.cell? (la.add k)=some (.slice ao (Y k).length cap):=by rw [hc];simp [hkt,hv]
   have HPu:=Lib.hid (putI_any w wr gb ((List.range k).map R) [] [] [] HI.out (by rw [List.length_map,List.length_range];have:=HK.out;omega) ao (Y k).length cap)
   have HV:=Lib.hid hv
   clear hc hv hkt hk
   go_wp2_with fail
   refine HPu.out.mono ?_
   rintro e w5 ⟨rfl,h5⟩
   have HI5:Hid (BagI w gb ((List.range (k+1)).map R) [] [] [] w5):=by
    unfold Hid
    rw [List.range_succ,List.map_append,List.map_singleton,HV.out];exact h5
   clear h5 hck HPu
   have hkb:=HKB.out
   go_wp2_with fail
   go_roundw
   case rel=>exact ⟨k+1,by have:=HKT.out;omega,by go_num,HI5⟩
   case measure=>have:=HKT.out;simp [intOf];omega
  ·have hktI:¬ (k:Int) < K:=by omega
   obtain rfl:k=K:=by omega
   have hBg:B<=gb:=by have:=HB.out;have:=HGb.out;omega
   have HAp:=Lib.hid (apartI_bag w wr gb B k HK.out HK0.out R n Y HI.out hBg (HT.out.below (Nat.zero_le _) HI.out.bel) HLe.out HN.out)
   have HOw:=Lib.hid (fun i hi g=>((HT.out.below (Nat.zero_le _) HI.out.bel).own1 i hi).lt g)
   clear hBg hk hkt
   go_wp2_with fail
   refine HAp.out.mono ?_
   rintro e w6 ⟨rfl,hf6⟩
   have HB6:Hid (Below B w w6):=(HI.out.bel.mono HB.out).trans (hf6.below (Nat.le_trans HB.out HI.out.bel.size) (by rintro q hq ⟨i,hi,hg⟩;have:=(HOw.out i hi q hg).1;omega))
   clear hf6 HAp
   go_wp2_with fail
   go_ret
   exact ⟨rfl,HB6.out⟩
end Go.Proofs.YtgjhepblpdnkcaaGreatDoor
namespace Go.Proofs.YtgjhepblpdnkcaaGreatDoor
open Go.RowKit
set_option maxRecDepth 100000
set_option maxHeartbeats 2000000

def es0:ByteArray:=⟨#[]⟩
def mkR (μ:Int->Int->Int) (k i:Int):Ru:=⟨es0,μ k i⟩
def MrC (μ:Int->Int->Int):Prop:=∀ (w:World) (k i:Int),0<=k->k<=100000->0<=i->i<=10000->
  Calls Tryz.prog 126 #[.int .i64 k,.int .i64 i] w fun r w'=>r=.returned (.agg #[.string es0,.int .i64 (μ k i)])/\Below w.heap.size w w'
theorem markRu_all:MrC mkI:=by
 intro w k i h0 h1 h2 h3
 have HM:=Lib.hid (fun w'=>mark_any w' k i h0 h1 h2 h3)
 clear h0 h1 h2 h3
 go_enter Tryz.func126,Tryz.ntmps126
 go_wp2_with (first | (go_at_call 100;refine (HM.out _).mono ?_;rintro e w2 ⟨rfl,rfl⟩))
 exact bodyPost_ret (v:=.agg #[.string es0,.int .i64 (mkI k i)]) (by simp [results,Tryz.results126,go_sem,es0]) rfl ⟨rfl,(Below.refl _ _).alloc (Nat.le_refl _) _⟩
def rmarks (β:Int->Int->Int) (k:Nat):List Ru:=(List.range k).map fun i:Nat=>mkR β 1 (i:Int)
theorem rmarks_len (β:Int->Int->Int) (k:Nat):(rmarks β k).length=k:=by simp [rmarks]
theorem rmarks_succ (β:Int->Int->Int) (k:Nat):rmarks β (k+1)=rmarks β k ++ [mkR β 1 (k:Int)]:=by simp [rmarks,List.range_succ]
theorem ruc_one (t:List Ru):∀ u ∈ t.flatMap ruc,u.oneCell'=true:=by
 intro u hu
 simp only [List.mem_flatMap,ruc] at hu
 obtain ⟨x,_,hx⟩:=hu
 simp at hx
 rcases hx with rfl | rfl <;> rfl
theorem infoRu:(Tryz.prog.info? 49).map (fun i=>(i.zero,i.size,i.bytes))=some (some (.agg #[.string es0,.int .i64 0]),2,24):=by kernel_rfl
theorem two_new (w:World) (t:TypeId) (x y:Value):∀ j u,[x,y][j]?=some u->(w.alloc (.cells #[x,y] t)).cell? ((⟨w.heap.size,0,none⟩:Addr).add j)=some u:=
 fun j u h=>World.news_of_block (heap_alloc_new w (.cells #[x,y] t)) j u h

theorem lentRu_any (β:Int->Int->Int) (HMb:Hid (MrC β)) (w:World) (ao:Option Addr) (n cap:Nat) (R:List Ru) (hs:Sv w ao n cap 2 (R.flatMap ruc)) (hbig:n<=100000):
  Calls Tryz.prog 84 #[.slice ao n cap] w fun r w'=>r=.returned (.slice (some ⟨w.heap.size,0,none⟩) n (n+12))/\hrow w' w.heap.size ((R ++ rmarks β 12).flatMap ruc).toArray 49/\Below w.heap.size w w':=by
 obtain ⟨h1,h2⟩:=hs.bound
 have hwl:=hs.n_eq ruc_len (by decide)
 have HSl:=Lib.hid hs;have HWl:=Lib.hid hwl;clear hs hwl
 obtain ⟨i0,hi,hz0,hz1,hz2⟩:=info_parts infoRu
 have Hi:=Lib.hid hi;have Hz0:=Lib.hid hz0;have Hz1:=Lib.hid hz1;have Hz2:=Lib.hid hz2
 clear hi hz0 hz1 hz2
 have e12:((n:Int)+12)=((n+12:Nat):Int):=by omega
 have HE:=Lib.hid e12;clear e12
 have HBy:=Lib.hid (show i0.bytes * (n+12)<=281474976710656 by rw [Hz2.out];omega)
 have HOc:=Lib.hid (ruc_one R)
 go_enter Tryz.func84,Tryz.ntmps84
 go_wp2_with (first
  | (at_make;refine wpList_make_own _ rfl _ _ 22 rfl w.heap.size 49 i0 _ 2 Tryz.underlying22 Hi.out Hz0.out Hz1.out _ _ _ (n+12) rfl rfl HE.out HBy.out (by unfold maxLen;omega) (Nat.le_refl _) ?_;intro w1 hown1 hg1;have HO1:=Lib.hid hown1;have HB1:=Lib.hid (((Below.refl w.heap.size w).grown hg1 (Nat.le_refl _) (by simp)));clear hown1 hg1)
  | (at_builtin;refine wpList_append_fits_any _ rfl (.tmp 9) (.tmp 10) 22 rfl w.heap.size 49 i0 2 Tryz.underlying22 Hi.out Hz1.out w.heap.size 0 (n+12) [] rfl HO1.out ao n cap (R.flatMap ruc) rfl HSl.out.len ?_ ?_ HOc.out (by omega) ?_))
 ·intro hn
  have h:=HSl.out.nn hn
  omega
 ·intro ad had j u hj
  obtain ⟨ad',h1,h2⟩:=(HSl.out.below HB1.out).cell j (List.getElem?_eq_some_iff.1 hj).1
  rw [had] at h1;cases h1
  exact h2.trans hj
 intro w2 hown2 hg2
 have HO2:=Lib.hid hown2
 have HB2:=Lib.hid (HB1.out.grown hg2 HB1.out.size (by intro k hk;cases hk;exact Nat.le_refl _))
 clear hown2 hg2 HO1 HB1
 go_wp2_with fail
 go_loopw [3,4] (fun v i wr=>∃ k:Nat,k<=12/\i=.int .i64 k/\v=.slice (some ⟨w.heap.size,0,none⟩) (n+k) (n+12)/\
   Hid (wr.ownsRow w.heap.size 49 2 (.slice (some ⟨w.heap.size,0,none⟩) (n+k) (n+12)) (n+k) ((R ++ rmarks β k).flatMap ruc)/\Below w.heap.size w wr)) (fun _ i _=>12 - (intOf i).toNat)
 case atStart=>exact ⟨0,by omega,rfl,rfl,by simpa [rmarks] using HO2.out,HB2.out⟩
 case round=>
  obtain ⟨k,hk,rfl,rfl,hI⟩:=hrel
  have HO:=Lib.hid hI.out.1
  have HB:=Lib.hid hI.out.2
  clear hI
  by_cases hlt:k < 12
  ·go_wp2_with fail
   refine (HMb.out _ _ _ (by decide) (by decide) (by omega) (by omega)).mono ?_
   rintro e w' ⟨rfl,hb'⟩
   have HO':=Lib.hid (owns_fr HO.out (Fr.of_below (F:=fun _=>False) hb') (fun _ _ h=>h))
   have HB':=Lib.hid (HB.out.trans (hb'.mono HB.out.size))
   clear hb' HO HB
   go_wp2_with (at_builtin;refine wpList_append_fits _ rfl (.tmp 16) (.tmp 19) 22 rfl w.heap.size 49 i0 2 Tryz.underlying22 Hi.out Hz1.out w.heap.size (n+k) (n+12) _ rfl (HO'.out.alloc _) ⟨w'.heap.size,0,none⟩ 1 1 [_,_] rfl rfl (two_new _ _ _ _) (by simp [Value.oneCell']) (by omega) ?_;intro w3 hown3 hg3;have HO3:=Lib.hid hown3;have HB3:=Lib.hid ((HB'.out.alloc HB'.out.size _).grown hg3 (by have:=HB'.out.size;simp;omega) (by intro k hk;cases hk;exact Nat.le_refl _));clear hown3 hg3)
   go_roundw
   case rel=>
    refine ⟨k+1,by omega,by go_num,rfl,?_,HB3.out⟩
    have:=HO3.out
    rw [rmarks_succ]
    simpa [Nat.add_assoc,ruc,mkR] using this
   case measure=>simp [intOf];omega
  ·have hke:k=12:=by omega
   subst hke
   go_wp2_with fail
   go_ret
   refine ⟨rfl,?_,HB.out⟩
   rcases HO.out.2 with ⟨h,_⟩ | ⟨g,c,cur,h,_,hh,h3,h4,h5,h6⟩
   ·cases h
   ·cases h
    have hcur:cur=((R ++ rmarks β 12).flatMap ruc).toArray:=by
     apply Array.toList_inj.1
     rw [← h6,List.take_of_length_le (by simp [h5])]
    rw [← hcur];exact hh
end Go.Proofs.YtgjhepblpdnkcaaGreatDoor
namespace Go.Proofs.YtgjhepblpdnkcaaGreatDoor
open Go.RowKit
set_option maxRecDepth 100000
set_option maxHeartbeats 2000000

theorem keptRu_any (β:Int->Int->Int) (HMb:Hid (MrC β)) (w:World) (g:Nat) (ao:Option Addr) (n cap:Nat) (R:List Ru) (hr:hrow w g ((R ++ rmarks β 12).flatMap ruc).toArray 49) (hs:Sv w ao n cap 2 (R.flatMap ruc)) (hbig:n<=5000):
  Calls Tryz.prog 89 #[.slice (some ⟨g,0,none⟩) n (n+12),.slice ao n cap] w fun r w'=>r=.returned (.bool true)/\Below w.heap.size w w':=by
 obtain ⟨h1,h2⟩:=hs.bound
 have hwl:=hs.n_eq ruc_len (by decide)
 have hcell:∀ w',Below w.heap.size w w'->∀ j (hj:j < (R ++ rmarks β 12).length),w'.cell? ⟨g,j * 2,none⟩=some (.string ((R ++ rmarks β 12)[j]'hj).name)/\w'.cell? ⟨g,j * 2+1,none⟩=some (.int .i64 ((R ++ rmarks β 12)[j]'hj).body):=fun w' hb j hj=>by
  have e0:=fl_get ruc_len (R ++ rmarks β 12) j 0 hj (by decide)
  have e1:=fl_get ruc_len (R ++ rmarks β 12) j 1 hj (by decide)
  rw [Nat.add_zero] at e0
  refine ⟨?_,?_⟩
  ·rw [(hr.below hb).cell,List.getElem?_toArray,e0];rfl
  ·rw [(hr.below hb).cell,List.getElem?_toArray,e1];rfl
 have HC:=Lib.hid hcell;have HS:=Lib.hid (fun w' (hb:Below w.heap.size w w')=>hs.below hb);have HWl:=Lib.hid hwl
 have HLl:Hid ((R ++ rmarks β 12).length=n+12):=by show _=_;rw [List.length_append,rmarks_len];omega
 clear hcell hr hs hwl
 go_enter Tryz.func89,Tryz.ntmps89
 go_wp2_with fail
 go_loopw [6] (fun i wr=>∃ k:Nat,k<=n+12/\i=.int .i64 k/\Hid (Below w.heap.size w wr)) (fun i _=>n+12 - (intOf i).toNat)
 case atStart=>exact ⟨0,by omega,rfl,Below.refl _ _⟩
 case round=>
  obtain ⟨k,hk,rfl,HB⟩:=hrel
  by_cases hlt:k < n+12
  ·have hlt':(k:Int) < (n:Int)+12:=by omega
   obtain ⟨hc0,hc1⟩:=HC.out wr HB.out k (by have:=HLl.out;omega)
   by_cases hkn:k < n
   ·have hkR:k < R.length:=by have:=HWl.out;omega
    rw [List.getElem_append_left hkR] at hc0 hc1
    have hkn':(k:Int) < n:=by omega
    have t1:decide (k < n)=true:=decide_eq_true hkn
    have t2:decide (n<=k)=false:=decide_eq_false (by omega)
    obtain ⟨aw,rfl,hq0,hq1⟩:=(HS.out wr HB.out).ru2 hkR
    generalize R[k]=c at *
    obtain ⟨c1,c2⟩:=c
    simp only [] at hc0 hc1 hq0 hq1
    have later:∀ (p:Addr) (v:Value),wr.cell? p=some v->∀ y:Later wr,y.val.cell? p=some v:=fun p v h y=>(y.ok.cell (World.block_lt_of_cell? wr _ h)).trans h
    have hc0:=later _ _ hc0;have hc1:=later _ _ hc1;have hq0:=later _ _ hq0;have hq1:=later _ _ hq1
    clear later
    go_wp2_with fail
    refine wp_region_later (by kernel_rfl) (by kernel_rfl) ?_
    repeat (go_big_quiet_step (fail))
    refine wpQuiet_nil ?_
    intro w5 hw5
    obtain ⟨y,rfl⟩:=hw5
    have HB5:=Lib.hid (HB.out.trans (y.ok.mono HB.out.size))
    clear hc0 hc1 hq0 hq1
    generalize y.val=w5 at *
    go_wp2_with fail
    go_roundw
    case rel=>exact ⟨k+1,by omega,by go_num,HB5⟩
    case measure=>simp [intOf];omega
   ·have hkn':(n:Int)<=k:=by omega
    have t1:decide (k < n)=false:=decide_eq_false hkn
    have t2:decide (n<=k)=true:=decide_eq_true (by omega)
    have hwR:=HWl.out
    have hx:((R ++ rmarks β 12)[k]'(by have:=HLl.out;omega))=mkR β 1 ((k:Int) - n):=by
     rw [List.getElem_append_right (by omega)]
     simp [rmarks,show ((k - R.length:Nat):Int)=(k:Int) - n by omega]
    rw [hx] at hc0 hc1
    simp only [mkR] at hc0 hc1
    have HM:=Lib.hid (fun y:Later wr=>HMb.out y.val 1 ((k:Int) - n) (by decide) (by decide) (by omega) (by omega))
    clear hx hwR
    generalize β 1 ((k:Int) - n)=c at *
    have later:∀ (p:Addr) (v:Value),wr.cell? p=some v->∀ y:Later wr,y.val.cell? p=some v:=fun p v h y=>(y.ok.cell (World.block_lt_of_cell? wr _ h)).trans h
    have hc0:=later _ _ hc0;have hc1:=later _ _ hc1
    clear later
    go_wp2_with fail
    refine wp_region_later (by kernel_rfl) (by kernel_rfl) ?_
    repeat (go_big_quiet_step ((go_at_call 126;exact Calls.later (HM.out _))))
    refine wpQuiet_nil ?_
    intro w5 hw5
    obtain ⟨y,rfl⟩:=hw5
    have HB5:=Lib.hid (HB.out.trans (y.ok.mono HB.out.size))
    clear hc0 hc1 HM
    generalize y.val=w5 at *
    go_wp2_with fail
    go_roundw
    case rel=>exact ⟨k+1,by omega,by go_num,HB5⟩
    case measure=>simp [intOf];omega
  ·have hge:(n:Int)+12<=k:=by omega
   go_wp2_with fail
   go_ret
   exact ⟨rfl,HB.out⟩
end Go.Proofs.YtgjhepblpdnkcaaGreatDoor
namespace Go.Proofs.YtgjhepblpdnkcaaGreatDoor
open Go.RowKit
set_option maxRecDepth 100000
set_option maxHeartbeats 2000000

def set9 (w:World) (g:Nat) (x0 x1 x2 x3 x4 x5 x6 x7 x8:Value):World:=(((((((((w.setCell ⟨g,0,none⟩ x0).setCell ⟨g,1,none⟩ x1).setCell ⟨g,2,none⟩ x2).setCell ⟨g,3,none⟩ x3).setCell ⟨g,4,none⟩ x4).setCell ⟨g,5,none⟩ x5).setCell ⟨g,6,none⟩ x6).setCell ⟨g,7,none⟩ x7).setCell ⟨g,8,none⟩ x8)
theorem set9_fr (w:World) (g:Nat) (x0 x1 x2 x3 x4 x5 x6 x7 x8:Value):Fr (fun k=>k=g) w (set9 w g x0 x1 x2 x3 x4 x5 x6 x7 x8):=by
 have h0:=Fr.setCell w ⟨g,0,none⟩ x0
 have h1:=h0.trans (Fr.setCell _ ⟨g,1,none⟩ x1) (fun _ _ h=>h)
 have h2:=h1.trans (Fr.setCell _ ⟨g,2,none⟩ x2) (fun _ _ h=>h)
 have h3:=h2.trans (Fr.setCell _ ⟨g,3,none⟩ x3) (fun _ _ h=>h)
 have h4:=h3.trans (Fr.setCell _ ⟨g,4,none⟩ x4) (fun _ _ h=>h)
 have h5:=h4.trans (Fr.setCell _ ⟨g,5,none⟩ x5) (fun _ _ h=>h)
 have h6:=h5.trans (Fr.setCell _ ⟨g,6,none⟩ x6) (fun _ _ h=>h)
 have h7:=h6.trans (Fr.setCell _ ⟨g,7,none⟩ x7) (fun _ _ h=>h)
 have h8:=h7.trans (Fr.setCell _ ⟨g,8,none⟩ x8) (fun _ _ h=>h)
 exact h8
theorem fset9_row {w:World} {g:Nat} {a0 a1 a2 a3 a4 a5 a6 a7 a8:Value} {t:TypeId} (x0 x1 x2 x3 x4 x5 x6 x7 x8:Value) (h:hrow w g #[a0,a1,a2,a3,a4,a5,a6,a7,a8] t):hrow (set9 w g x0 x1 x2 x3 x4 x5 x6 x7 x8) g #[x0,x1,x2,x3,x4,x5,x6,x7,x8] t:=by
 have k0:hrow (w.setCell ⟨g,0,none⟩ x0) g #[x0,a1,a2,a3,a4,a5,a6,a7,a8] t:=heap_setCell_same _ _ _ _ _ _ h.h
 have k1:hrow ((w.setCell ⟨g,0,none⟩ x0).setCell ⟨g,1,none⟩ x1) g #[x0,x1,a2,a3,a4,a5,a6,a7,a8] t:=heap_setCell_same _ _ _ _ _ _ k0.h
 have k2:hrow (((w.setCell ⟨g,0,none⟩ x0).setCell ⟨g,1,none⟩ x1).setCell ⟨g,2,none⟩ x2) g #[x0,x1,x2,a3,a4,a5,a6,a7,a8] t:=heap_setCell_same _ _ _ _ _ _ k1.h
 have k3:hrow ((((w.setCell ⟨g,0,none⟩ x0).setCell ⟨g,1,none⟩ x1).setCell ⟨g,2,none⟩ x2).setCell ⟨g,3,none⟩ x3) g #[x0,x1,x2,x3,a4,a5,a6,a7,a8] t:=heap_setCell_same _ _ _ _ _ _ k2.h
 have k4:hrow (((((w.setCell ⟨g,0,none⟩ x0).setCell ⟨g,1,none⟩ x1).setCell ⟨g,2,none⟩ x2).setCell ⟨g,3,none⟩ x3).setCell ⟨g,4,none⟩ x4) g #[x0,x1,x2,x3,x4,a5,a6,a7,a8] t:=heap_setCell_same _ _ _ _ _ _ k3.h
 have k5:hrow ((((((w.setCell ⟨g,0,none⟩ x0).setCell ⟨g,1,none⟩ x1).setCell ⟨g,2,none⟩ x2).setCell ⟨g,3,none⟩ x3).setCell ⟨g,4,none⟩ x4).setCell ⟨g,5,none⟩ x5) g #[x0,x1,x2,x3,x4,x5,a6,a7,a8] t:=heap_setCell_same _ _ _ _ _ _ k4.h
 have k6:hrow (((((((w.setCell ⟨g,0,none⟩ x0).setCell ⟨g,1,none⟩ x1).setCell ⟨g,2,none⟩ x2).setCell ⟨g,3,none⟩ x3).setCell ⟨g,4,none⟩ x4).setCell ⟨g,5,none⟩ x5).setCell ⟨g,6,none⟩ x6) g #[x0,x1,x2,x3,x4,x5,x6,a7,a8] t:=heap_setCell_same _ _ _ _ _ _ k5.h
 have k7:hrow ((((((((w.setCell ⟨g,0,none⟩ x0).setCell ⟨g,1,none⟩ x1).setCell ⟨g,2,none⟩ x2).setCell ⟨g,3,none⟩ x3).setCell ⟨g,4,none⟩ x4).setCell ⟨g,5,none⟩ x5).setCell ⟨g,6,none⟩ x6).setCell ⟨g,7,none⟩ x7) g #[x0,x1,x2,x3,x4,x5,x6,x7,a8] t:=heap_setCell_same _ _ _ _ _ _ k6.h
 have k8:hrow (((((((((w.setCell ⟨g,0,none⟩ x0).setCell ⟨g,1,none⟩ x1).setCell ⟨g,2,none⟩ x2).setCell ⟨g,3,none⟩ x3).setCell ⟨g,4,none⟩ x4).setCell ⟨g,5,none⟩ x5).setCell ⟨g,6,none⟩ x6).setCell ⟨g,7,none⟩ x7).setCell ⟨g,8,none⟩ x8) g #[x0,x1,x2,x3,x4,x5,x6,x7,x8] t:=heap_setCell_same _ _ _ _ _ _ k7.h
 exact k8
def MnC (μ:Int->Int->Int):Prop:=∀ (w:World) (k i:Int),0<=k->k<=100000->0<=i->i<=10000->
  Calls Tryz.prog 128 #[.int .i64 k,.int .i64 i] w fun r w'=>r=.returned (.agg #[.int .i64 0,.int .u64 0,.int .u64 0,.int .u64 0,.int .u64 0,.string es0,.int .i64 (μ k i),.int .i64 0,.slice none 0 0])/\Below w.heap.size w w'
theorem markNo_all:MnC mkI:=by
 intro w k i h0 h1 h2 h3
 have HM:=Lib.hid (fun w'=>mark_any w' k i h0 h1 h2 h3)
 clear h0 h1 h2 h3
 go_enter Tryz.func128,Tryz.ntmps128
 go_wp2_with (first | (go_at_call 100;refine (HM.out _).mono ?_;rintro e w2 ⟨rfl,rfl⟩))
 exact bodyPost_ret (v:=.agg #[.int .i64 0,.int .u64 0,.int .u64 0,.int .u64 0,.int .u64 0,.string es0,.int .i64 (mkI k i),.int .i64 0,.slice none 0 0]) (by simp [results,Tryz.results128,go_sem,es0]) rfl ⟨rfl,(Below.refl _ _).alloc (Nat.le_refl _) _⟩
theorem lentNo_any (β:Int->Int->Int) (HMb:Hid (MiC β)) (w:World) (x:Nd) (ao:Option Addr) (cap:Nat) (hs:Sv w ao x.kids.length cap 1 (inc x.kids)) (hbig:x.kids.length<=100000):
  Calls Tryz.prog 127 #[.agg #[.int .i64 x.kind,.int .u64 x.c0,.int .u64 x.c1,.int .u64 x.c2,.int .u64 x.c3,.string x.text,.int .i64 x.rule,.int .i64 x.lev,.slice ao x.kids.length cap]] w fun r w'=>∃ g,r=.returned (.agg #[.int .i64 x.kind,.int .u64 x.c0,.int .u64 x.c1,.int .u64 x.c2,.int .u64 x.c3,.string x.text,.int .i64 x.rule,.int .i64 x.lev,.slice (some ⟨g,0,none⟩) x.kids.length (x.kids.length+12)])/\hrow w' g (inc (x.kids ++ imarks β 12)).toArray 3/\w.heap.size<=g/\Below w.heap.size w w':=by
 have HL:=Lib.hid (fun w' (hb:Below w.heap.size w w')=>lentIn_any β HMb w' ao x.kids.length cap x.kids (hs.below hb) hbig)
 have HB0:=Lib.hid (al2 (Below.refl w.heap.size w) (.cells #[.int .i64 x.kind,.int .u64 x.c0,.int .u64 x.c1,.int .u64 x.c2,.int .u64 x.c3,.string x.text,.int .i64 x.rule,.int .i64 x.lev,.slice ao x.kids.length cap] 45) (.cells #[.int .i64 0,.int .u64 0,.int .u64 0,.int .u64 0,.int .u64 0,.string ⟨#[]⟩,.int .i64 0,.int .i64 0,.slice none 0 0] 45))
 have HA0:=Lib.hid ((hrow.new w #[.int .i64 x.kind,.int .u64 x.c0,.int .u64 x.c1,.int .u64 x.c2,.int .u64 x.c3,.string x.text,.int .i64 x.rule,.int .i64 x.lev,.slice ao x.kids.length cap] 45).below ((Below.refl _ _).alloc (Nat.le_refl _) (.cells #[.int .i64 0,.int .u64 0,.int .u64 0,.int .u64 0,.int .u64 0,.string ⟨#[]⟩,.int .i64 0,.int .i64 0,.slice none 0 0] 45)))
 have HZ0:Hid (hrow ((w.alloc (.cells #[.int .i64 x.kind,.int .u64 x.c0,.int .u64 x.c1,.int .u64 x.c2,.int .u64 x.c3,.string x.text,.int .i64 x.rule,.int .i64 x.lev,.slice ao x.kids.length cap] 45)).alloc (.cells #[.int .i64 0,.int .u64 0,.int .u64 0,.int .u64 0,.int .u64 0,.string ⟨#[]⟩,.int .i64 0,.int .i64 0,.slice none 0 0] 45)) (w.heap.size+1) #[.int .i64 0,.int .u64 0,.int .u64 0,.int .u64 0,.int .u64 0,.string ⟨#[]⟩,.int .i64 0,.int .i64 0,.slice none 0 0] 45):=by have h:=hrow.new (w.alloc (.cells #[.int .i64 x.kind,.int .u64 x.c0,.int .u64 x.c1,.int .u64 x.c2,.int .u64 x.c3,.string x.text,.int .i64 x.rule,.int .i64 x.lev,.slice ao x.kids.length cap] 45)) #[.int .i64 0,.int .u64 0,.int .u64 0,.int .u64 0,.int .u64 0,.string ⟨#[]⟩,.int .i64 0,.int .i64 0,.slice none 0 0] 45;rwa [World.size_alloc] at h
 have hkb:=hs.bound
 clear hs hbig
 go_enter Tryz.func127,Tryz.ntmps127
 go_upto_region 1 with (fail)
 revert HB0 HA0 HZ0
 generalize (w.alloc _).alloc _=w1
 generalize hh1:w.heap.size+1=h1
 generalize hh0:w.heap.size=h0
 intro HB0 HA0 HZ0
 have HH:Hid (w.heap.size=h0/\h0+1=h1):=⟨hh0,by omega⟩
 have hne:h0 ≠ h1:=by omega
 have HB1:Hid (Below w.heap.size w w1):=by rw [hh0];exact HB0.out
 clear HB0 hh0 hh1
 have HL1:=Lib.hid (HL.out w1 HB1.out)
 have a8:w1.cell? ⟨h0,8,none⟩=some (.slice ao x.kids.length cap):=HA0.out.cell 8
 clear HL
 go_wp2_with fail
 refine (HL1.out).mono ?_
 rintro e w2 ⟨rfl,hk,hb2⟩
 have hg:w1.heap.size < w2.heap.size:=hk.lt
 have HA2:=Lib.hid (HA0.out.below hb2)
 have HZ2:=Lib.hid (HZ0.out.below hb2)
 have HB2:=Lib.hid (HB1.out.trans (hb2.mono HB1.out.size))
 have HK2:=Lib.hid hk
 have HGe:Hid (h1 < w1.heap.size):=HZ0.out.lt
 clear hb2 hk a8 HL1 HA0 HZ0 HB1
 revert HK2 HGe hg
 generalize w1.heap.size=g
 intro hg HK2 HGe
 have b8:w2.cell? ⟨h0,8,none⟩=some (.slice ao x.kids.length cap):=HA2.out.cell 8
 have b8f:=HA2.out.frozen 8
 have hf3:=Fr.setCell w2 ⟨h0,8,none⟩ (.slice (some ⟨g,0,none⟩) x.kids.length (x.kids.length+12))
 have HA3:Hid (hrow (w2.setCell ⟨h0,8,none⟩ (.slice (some ⟨g,0,none⟩) x.kids.length (x.kids.length+12))) h0 #[.int .i64 x.kind,.int .u64 x.c0,.int .u64 x.c1,.int .u64 x.c2,.int .u64 x.c3,.string x.text,.int .i64 x.rule,.int .i64 x.lev,.slice (some ⟨g,0,none⟩) x.kids.length (x.kids.length+12)] 45):=heap_setCell_same _ _ _ _ _ _ HA2.out.h
 have HZ3:=Lib.hid (HZ2.out.fr hf3 (fun e=>hne e.symm))
 have HK3:=Lib.hid (HK2.out.fr hf3 (fun e=>by have e':g=h0:=e;have h1:=HH.out;have h2:=HGe.out;omega))
 have HB3:=Lib.hid (HB2.out.setCell (p:=⟨h0,8,none⟩) (by have:=HH.out;show w.heap.size<=h0;omega) (.slice (some ⟨g,0,none⟩) x.kids.length (x.kids.length+12)))
 go_upto_region 2 with (fail)
 clear b8 b8f HA2 HZ2 HB2 HK2 hf3
 revert HA3 HZ3 HK3 HB3
 generalize w2.setCell _ _=w3
 intro HA3 HZ3 HK3 HB3
 obtain ⟨a0,a1,a2,a3,a4,a5,a6,a7,a8⟩:=(HA3.out).c9
 obtain ⟨zq0,zq1,zq2,zq3,zq4,zq5,zq6,zq7,zq8⟩:=(HZ3.out).c9
 obtain ⟨zf0,zf1,zf2,zf3,zf4,zf5,zf6,zf7,zf8⟩:=(HZ3.out).f9
 have zr:=fset9_row (.int .i64 x.kind) (.int .u64 x.c0) (.int .u64 x.c1) (.int .u64 x.c2) (.int .u64 x.c3) (.string x.text) (.int .i64 x.rule) (.int .i64 x.lev) (.slice (some ⟨g,0,none⟩) x.kids.length (x.kids.length+12)) HZ3.out
 have zf:=set9_fr w3 h1 (.int .i64 x.kind) (.int .u64 x.c0) (.int .u64 x.c1) (.int .u64 x.c2) (.int .u64 x.c3) (.string x.text) (.int .i64 x.rule) (.int .i64 x.lev) (.slice (some ⟨g,0,none⟩) x.kids.length (x.kids.length+12))
 unfold set9 at zr zf
 have ZR:=Lib.hid zr
 have ZF:=Lib.hid zf
 clear zr zf
 go_wp2_with fail
 revert ZR ZF
 generalize ((((((((w3.setCell _ _).setCell _ _).setCell _ _).setCell _ _).setCell _ _).setCell _ _).setCell _ _).setCell _ _).setCell _ _=wz
 intro ZR ZF
 obtain ⟨zc0,zc1,zc2,zc3,zc4,zc5,zc6,zc7,zc8⟩:=(ZR.out).c9
 exact bodyPost_ret (v:=.agg #[.int .i64 x.kind,.int .u64 x.c0,.int .u64 x.c1,.int .u64 x.c2,.int .u64 x.c3,.string x.text,.int .i64 x.rule,.int .i64 x.lev,.slice (some ⟨g,0,none⟩) x.kids.length (x.kids.length+12)]) (by simp [results,Tryz.results127,go_sem,zc0,zc1,zc2,zc3,zc4,zc5,zc6,zc7,zc8]) rfl ⟨g,rfl,HK3.out.fr ZF.out (fun e=>by have e':g=h1:=e;have:=HGe.out;omega),by have h1:=HH.out;have h2:=HGe.out;omega,HB3.out.trans (ZF.out.below HB3.out.size (fun k hk e=>by have e':k=h1:=e;have:=HH.out;omega))⟩
end Go.Proofs.YtgjhepblpdnkcaaGreatDoor
namespace Go.Proofs.YtgjhepblpdnkcaaGreatDoor
open Go.RowKit
set_option maxRecDepth 100000
set_option maxHeartbeats 2000000

theorem Sv.of_pre {w:World} {g:Nat} {t:TypeId} {xs ys:List Value} (h:hrow w g (xs ++ ys).toArray t) (n cap size:Nat) (hl:xs.length=n * size) (hc:n<=cap) (hm:cap<=maxLen):Sv w (some ⟨g,0,none⟩) n cap size xs:=
 ⟨hl,hc,hm,fun h=>by simp at h,fun j hj=>⟨_,rfl,by
  have e:(⟨g,0,none⟩:Addr).add j=⟨g,j,none⟩:=by unfold Addr.add;by_cases hz:j=0 <;> simp [hz]
  rw [e,h.cell,List.getElem?_toArray,List.getElem?_append_left hj]⟩⟩

theorem keptNo_any (β:Int->Int->Int) (HMb:Hid (MiC β)) (w:World) (x:Nd) (g:Nat) (bo:Option Addr) (bc:Nat) (ha:hrow w g (inc (x.kids ++ imarks β 12)).toArray 3) (hb:Sv w bo x.kids.length bc 1 (inc x.kids)) (hbig:x.kids.length<=5000):
  Calls Tryz.prog 130 #[.agg #[.int .i64 x.kind,.int .u64 x.c0,.int .u64 x.c1,.int .u64 x.c2,.int .u64 x.c3,.string x.text,.int .i64 x.rule,.int .i64 x.lev,.slice (some ⟨g,0,none⟩) x.kids.length (x.kids.length+12)],.agg #[.int .i64 x.kind,.int .u64 x.c0,.int .u64 x.c1,.int .u64 x.c2,.int .u64 x.c3,.string x.text,.int .i64 x.rule,.int .i64 x.lev,.slice bo x.kids.length bc]] w fun r w'=>r=.returned (.bool true)/\Below w.heap.size w w':=by
 have e0:inc x.kids ++ inc (imarks β 12)=inc (x.kids ++ imarks β 12):=by simp [inc]
 have hsa:Sv w (some ⟨g,0,none⟩) x.kids.length (x.kids.length+12) 1 (inc x.kids):=Sv.of_pre (ys:=inc (imarks β 12)) (by rw [e0];exact ha) _ _ _ (by simp [inc]) (by omega) (by simp only [maxLen];omega)
 clear e0
 have HS:=Lib.hid (fun w' (hw:Below w.heap.size w w')=>sameNo_any w' x _ bo _ bc (hsa.below hw) (hb.below hw))
 have HK:=Lib.hid (fun w' (hw:Below w.heap.size w w')=>keptIn_any β HMb w' g bo x.kids.length bc x.kids (ha.below hw) (hb.below hw) hbig)
 have HB0:=Lib.hid (al2 (Below.refl w.heap.size w) (.cells #[.int .i64 x.kind,.int .u64 x.c0,.int .u64 x.c1,.int .u64 x.c2,.int .u64 x.c3,.string x.text,.int .i64 x.rule,.int .i64 x.lev,.slice (some ⟨g,0,none⟩) x.kids.length (x.kids.length+12)] 45) (.cells #[.int .i64 x.kind,.int .u64 x.c0,.int .u64 x.c1,.int .u64 x.c2,.int .u64 x.c3,.string x.text,.int .i64 x.rule,.int .i64 x.lev,.slice bo x.kids.length bc] 45))
 have HA0:=Lib.hid ((hrow.new w #[.int .i64 x.kind,.int .u64 x.c0,.int .u64 x.c1,.int .u64 x.c2,.int .u64 x.c3,.string x.text,.int .i64 x.rule,.int .i64 x.lev,.slice (some ⟨g,0,none⟩) x.kids.length (x.kids.length+12)] 45).below ((Below.refl _ _).alloc (Nat.le_refl _) (.cells #[.int .i64 x.kind,.int .u64 x.c0,.int .u64 x.c1,.int .u64 x.c2,.int .u64 x.c3,.string x.text,.int .i64 x.rule,.int .i64 x.lev,.slice bo x.kids.length bc] 45)))
 have HZ0:Hid (hrow ((w.alloc (.cells #[.int .i64 x.kind,.int .u64 x.c0,.int .u64 x.c1,.int .u64 x.c2,.int .u64 x.c3,.string x.text,.int .i64 x.rule,.int .i64 x.lev,.slice (some ⟨g,0,none⟩) x.kids.length (x.kids.length+12)] 45)).alloc (.cells #[.int .i64 x.kind,.int .u64 x.c0,.int .u64 x.c1,.int .u64 x.c2,.int .u64 x.c3,.string x.text,.int .i64 x.rule,.int .i64 x.lev,.slice bo x.kids.length bc] 45)) (w.heap.size+1) #[.int .i64 x.kind,.int .u64 x.c0,.int .u64 x.c1,.int .u64 x.c2,.int .u64 x.c3,.string x.text,.int .i64 x.rule,.int .i64 x.lev,.slice bo x.kids.length bc] 45):=by have h:=hrow.new (w.alloc (.cells #[.int .i64 x.kind,.int .u64 x.c0,.int .u64 x.c1,.int .u64 x.c2,.int .u64 x.c3,.string x.text,.int .i64 x.rule,.int .i64 x.lev,.slice (some ⟨g,0,none⟩) x.kids.length (x.kids.length+12)] 45)) #[.int .i64 x.kind,.int .u64 x.c0,.int .u64 x.c1,.int .u64 x.c2,.int .u64 x.c3,.string x.text,.int .i64 x.rule,.int .i64 x.lev,.slice bo x.kids.length bc] 45;rwa [World.size_alloc] at h
 clear ha hb hsa
 go_enter Tryz.func130,Tryz.ntmps130
 go_upto_region 1 with (fail)
 revert HB0 HA0 HZ0
 generalize (w.alloc _).alloc _=w1
 generalize hh:w.heap.size+1=h1
 intro HB0 HA0 HZ0
 have HS1:=Lib.hid (HS.out w1 HB0.out)
 obtain ⟨a0,a1,a2,a3,a4,a5,a6,a7,a8⟩:=(HA0.out).c9
 obtain ⟨b0,b1,b2,b3,b4,b5,b6,b7,b8⟩:=(HZ0.out).c9
 go_wp2_with fail
 refine (HS1.out).mono ?_
 rintro e w2 ⟨rfl,hb2⟩
 have HA2:=Lib.hid (HA0.out.below hb2)
 have HZ2:=Lib.hid (HZ0.out.below hb2)
 have HB2:=Lib.hid (HB0.out.trans (hb2.mono HB0.out.size))
 have HK2:=Lib.hid (HK.out w2 HB2.out)
 clear hb2 a0 a1 a2 a3 a4 a5 a6 a7 a8 b0 b1 b2 b3 b4 b5 b6 b7 b8
 have a8:w2.cell? ⟨w.heap.size,8,none⟩=some (.slice (some ⟨g,0,none⟩) x.kids.length (x.kids.length+12)):=(HA2.out).cell 8
 have b8:w2.cell? ⟨h1,8,none⟩=some (.slice bo x.kids.length bc):=(HZ2.out).cell 8
 go_wp2_with fail
 refine (HK2.out).mono ?_
 rintro e w3 ⟨rfl,hb3⟩
 have HB3:=Lib.hid (HB2.out.trans (hb3.mono HB2.out.size))
 clear hb3
 go_wp2_with fail
 go_ret
 exact ⟨rfl,HB3.out⟩
end Go.Proofs.YtgjhepblpdnkcaaGreatDoor
namespace Go.Proofs.YtgjhepblpdnkcaaGreatDoor
open Go.RowKit
set_option maxRecDepth 100000
set_option maxHeartbeats 2000000

def mkN (μ:Int->Int->Int) (k i:Int):Nd×(Option Addr×Nat):=(⟨0,0,0,0,0,es0,μ k i,0,[]⟩,(none,0))
def nmarks (β:Int->Int->Int) (k:Nat):List (Nd×(Option Addr×Nat)):=(List.range k).map fun i:Nat=>mkN β 1 (i:Int)
theorem nmarks_len (β:Int->Int->Int) (k:Nat):(nmarks β k).length=k:=by simp [nmarks]
theorem nmarks_succ (β:Int->Int->Int) (k:Nat):nmarks β (k+1)=nmarks β k ++ [mkN β 1 (k:Int)]:=by simp [nmarks,List.range_succ]
theorem infoNo:(Tryz.prog.info? 45).map (fun i=>(i.zero,i.size,i.bytes))=some (some (.agg #[.int .i64 0,.int .u64 0,.int .u64 0,.int .u64 0,.int .u64 0,.string es0,.int .i64 0,.int .i64 0,.slice none 0 0]),9,96):=by kernel_rfl
/-- Each node's kids are lent: a fresh row, marks behind it. -/
structure Lt (β:Int->Int->Int) (B:Nat) (w:World) (NK NL:List (Nd×(Option Addr×Nat))):Prop where
 eq:NL.map (·.1)=NK.map (·.1)
 row:∀ p ∈ NL,∃ g,B < g/\p.2=(some ⟨g,0,none⟩,p.1.kids.length+12)/\hrow w g (inc (p.1.kids ++ imarks β 12)).toArray 3
theorem Lt.below {β:Int->Int->Int} {B:Nat} {w w':World} {NK NL:List (Nd×(Option Addr×Nat))} (h:Lt β B w NK NL) (hb:Below w.heap.size w w'):Lt β B w' NK NL:=
 ⟨h.eq,fun p hp=>by obtain ⟨g,h1,h2,h3⟩:=h.row p hp;exact ⟨g,h1,h2,h3.below hb⟩⟩
theorem Lt.fr {β:Int->Int->Int} {B:Nat} {w w':World} {NK NL:List (Nd×(Option Addr×Nat))} (h:Lt β B w NK NL) (hf:Fr (fun k=>k=B) w w'):Lt β B w' NK NL:=
 ⟨h.eq,fun p hp=>by obtain ⟨g,h1,h2,h3⟩:=h.row p hp;exact ⟨g,h1,h2,h3.fr hf (fun e=>by have e':g=B:=e;omega)⟩⟩
theorem Lt.snoc {β:Int->Int->Int} {B:Nat} {w:World} {NK NL:List (Nd×(Option Addr×Nat))} (h:Lt β B w NK NL) (x:Nd) (q:Option Addr×Nat) (g:Nat) (hg:B < g) (hr:hrow w g (inc (x.kids ++ imarks β 12)).toArray 3):Lt β B w (NK ++ [(x,q)]) (NL ++ [(x,(some ⟨g,0,none⟩,x.kids.length+12))]):=
 ⟨by simp [h.eq],fun p hp=>by
  rcases List.mem_append.1 hp with hp | hp
  ·exact h.row p hp
  ·simp only [List.mem_singleton] at hp;subst hp;exact ⟨g,hg,rfl,hr⟩⟩

theorem lentNs_any (β:Int->Int->Int) (HMb:Hid (MiC β)) (HMn:Hid (MnC β)) (w:World) (ao:Option Addr) (n cap:Nat) (NK:List (Nd×(Option Addr×Nat))) (hs:NdW w ao n cap NK) (hbig:n<=100000) (hkb:∀ p ∈ NK,p.1.kids.length<=100000):
  Calls Tryz.prog 85 #[.slice ao n cap] w fun r w'=>r=.returned (.slice (some ⟨w.heap.size,0,none⟩) n (n+12))/\(∃ NL,hrow w' w.heap.size ((NL ++ nmarks β 12).flatMap ndc).toArray 45/\Lt β w.heap.size w' NK NL)/\Below w.heap.size w w':=by
 obtain ⟨h1,h2⟩:=hs.sv.bound
 have hwl:=hs.sv.n_eq ndc_len (by decide)
 have HSl:=Lib.hid hs;have HWl:=Lib.hid hwl;have HKb:=Lib.hid hkb;clear hs hwl hkb
 obtain ⟨i0,hi,hz0,hz1,hz2⟩:=info_parts infoNo
 have Hi:=Lib.hid hi;have Hz0:=Lib.hid hz0;have Hz1:=Lib.hid hz1;have Hz2:=Lib.hid hz2
 clear hi hz0 hz1 hz2
 have e12:((n:Int)+12)=((n+12:Nat):Int):=by omega
 have HE:=Lib.hid e12;clear e12
 have HBy:=Lib.hid (show i0.bytes * (n+12)<=281474976710656 by rw [Hz2.out];omega)
 go_enter Tryz.func85,Tryz.ntmps85
 go_wp2_with (at_make;refine wpList_make_own _ rfl _ _ 23 rfl w.heap.size 45 i0 _ 9 Tryz.underlying23 Hi.out Hz0.out Hz1.out _ _ _ (n+12) rfl rfl HE.out HBy.out (by unfold maxLen;omega) (Nat.le_refl _) ?_;intro w1 hown1 hg1;have HO1:=Lib.hid hown1;have HB1:=Lib.hid (((Below.refl w.heap.size w).grown hg1 (Nat.le_refl _) (by simp)));clear hown1 hg1)
 go_loopw [3,4] (fun v i wr=>∃ k:Nat,k<=n/\i=.int .i64 k/\v=.slice (some ⟨w.heap.size,0,none⟩) k (n+12)/\
   Hid (∃ NL,wr.ownsRow w.heap.size 45 9 (.slice (some ⟨w.heap.size,0,none⟩) k (n+12)) k (NL.flatMap ndc)/\Lt β w.heap.size wr (NK.take k) NL/\Below w.heap.size w wr)) (fun _ i _=>n - (intOf i).toNat)
 case atStart=>exact ⟨0,by omega,rfl,rfl,[],by simpa using HO1.out,⟨by simp,by simp⟩,HB1.out⟩
 case round=>
  obtain ⟨k,hk,rfl,rfl,hI⟩:=hrel
  by_cases hlt:k < n
  ·have hlt':(k:Int) < n:=by omega
   have hkl:k < NK.length:=by have:=HWl.out;omega
   obtain ⟨NL,hO,hL,hB⟩:=hI.out
   have HO:=Lib.hid hO;have HL:=Lib.hid hL;have HB:=Lib.hid hB
   clear hI hO hL hB
   have HTk:=Lib.hid (show NK.take (k+1)=NK.take k ++ [NK[k]] from List.take_succ_eq_append_getElem hkl)
   have HSk:=Lib.hid (HSl.out.below HB.out)
   have HCk:=Lib.hid (lentNo_any β HMb wr NK[k].1 NK[k].2.1 NK[k].2.2 (HSk.out.kids _ (List.getElem_mem hkl)) (HKb.out _ (List.getElem_mem hkl)))
   obtain ⟨a,rfl,a0,a1,a2,a3,a4,a5,a6,a7,a8⟩:=HSk.out.sv.nd9 hkl
   clear HSk
   generalize NK[k]=p at *
   obtain ⟨x,ko,kc⟩:=p
   simp only [] at a0 a1 a2 a3 a4 a5 a6 a7 a8 HCk
   clear hkl
   have HX:Hid (w.heap.size < wr.heap.size):=by
    rcases HO.out.2 with ⟨h,_⟩ | ⟨g',c,cur,h,_,hh,_⟩
    ·cases h
    ·cases h;exact lt_block hh
   go_wp2_with fail
   refine (HCk.out).mono ?_
   rintro e w2 ⟨g,rfl,hkr,hge,hb2⟩
   have HKr:=Lib.hid hkr
   have HO2:=Lib.hid (owns_fr HO.out (Fr.of_below (F:=fun _=>False) hb2) (fun _ _ h=>h))
   have HL2:=Lib.hid (HL.out.below hb2)
   have HB2:=Lib.hid (HB.out.trans (hb2.mono HB.out.size))
   have HG:=Lib.hid hge
   clear hkr hb2 HO HL HB hge a0 a1 a2 a3 a4 a5 a6 a7 a8 HCk
   go_upto_region 6 with (fail)
   have HN3:=Lib.hid (hrow.new w2 #[.int .i64 x.kind,.int .u64 x.c0,.int .u64 x.c1,.int .u64 x.c2,.int .u64 x.c3,.string x.text,.int .i64 x.rule,.int .i64 x.lev,.slice (some ⟨g,0,none⟩) x.kids.length (x.kids.length+12)] 45)
   have HO3:=Lib.hid (HO2.out.alloc (.cells #[.int .i64 x.kind,.int .u64 x.c0,.int .u64 x.c1,.int .u64 x.c2,.int .u64 x.c3,.string x.text,.int .i64 x.rule,.int .i64 x.lev,.slice (some ⟨g,0,none⟩) x.kids.length (x.kids.length+12)] 45))
   have hb3:=(Below.refl w2.heap.size w2).alloc (Nat.le_refl _) (.cells #[.int .i64 x.kind,.int .u64 x.c0,.int .u64 x.c1,.int .u64 x.c2,.int .u64 x.c3,.string x.text,.int .i64 x.rule,.int .i64 x.lev,.slice (some ⟨g,0,none⟩) x.kids.length (x.kids.length+12)] 45)
   have HL3:=Lib.hid (HL2.out.below hb3)
   have HK3:=Lib.hid (HKr.out.below hb3)
   have HB3:=Lib.hid (HB2.out.trans (hb3.mono HB2.out.size))
   have HW:=Lib.hid (show w.heap.size < g from Nat.lt_of_lt_of_le HX.out HG.out)
   clear hb3 HO2 HL2 HKr HB2 HG HX
   revert HN3 HO3 HL3 HK3 HB3
   generalize w2.alloc _=w3
   generalize w2.heap.size=h
   intro HN3 HO3 HL3 HK3 HB3
   obtain ⟨z0,z1,z2,z3,z4,z5,z6,z7,z8⟩:=(HN3.out).c9

   go_wp2_with (at_builtin;refine wpList_append_fits _ rfl (.tmp 22) (.tmp 24) 23 rfl w.heap.size 45 i0 9 Tryz.underlying23 Hi.out Hz1.out w.heap.size k (n+12) _ rfl (HO3.out.alloc _) ⟨w3.heap.size,0,none⟩ 1 1 [.int .i64 x.kind,.int .u64 x.c0,.int .u64 x.c1,.int .u64 x.c2,.int .u64 x.c3,.string x.text,.int .i64 x.rule,.int .i64 x.lev,.slice (some ⟨g,0,none⟩) x.kids.length (x.kids.length+12)] rfl rfl (fun j u h=>World.news_of_block (heap_alloc_new w3 _) j u h) (by simp [Value.oneCell']) (by omega) ?_;intro w4 hown4 hg4;have HO4:=Lib.hid hown4;have HG4:=Lib.hid hg4;clear hown4 hg4)
   go_roundw
   case rel=>
    have hba:=(Below.refl w3.heap.size w3).alloc (Nat.le_refl _) (.cells #[.int .i64 x.kind,.int .u64 x.c0,.int .u64 x.c1,.int .u64 x.c2,.int .u64 x.c3,.string x.text,.int .i64 x.rule,.int .i64 x.lev,.slice (some ⟨g,0,none⟩) x.kids.length (x.kids.length+12)] 45)
    have hfr:=(Fr.grown HG4.out).weak (G:=fun k=>k=w.heap.size) (fun k e=>(Option.some.inj e).symm)
    refine ⟨k+1,by omega,by go_num,rfl,NL ++ [(x,(some ⟨g,0,none⟩,x.kids.length+12))],?_,?_,?_⟩
    ·have:=HO4.out
     rw [List.flatMap_append]
     exact this
    ·rw [HTk.out]
     exact ((HL3.out.below hba).fr hfr).snoc x (ko,kc) g HW.out ((HK3.out.below hba).fr hfr (fun e=>by have e':g=w.heap.size:=e;have:=HW.out;omega))
    ·exact (HB3.out.trans (hba.mono HB3.out.size)).grown HG4.out (by have:=HB3.out.size;simp;omega) (by intro k hk;cases hk;exact Nat.le_refl _)
   case measure=>simp [intOf];omega
  ·have hke:n=k:=by omega
   subst hke
   obtain ⟨NL,hO,hL,hB⟩:=hI.out
   have HO2:=Lib.hid hO;have HL2:=Lib.hid hL;have HB2:=Lib.hid hB
   have hge:(n:Int)<=n:=by omega
   have HTn:=Lib.hid (show NK.take n=NK from List.take_of_length_le (by have:=HWl.out;omega))
   rw [HTn.out] at HL2
   clear hI hO hL hB HO1 HB1
   go_wp2_with fail
   go_loopw [3,6] (fun v i wr=>∃ k:Nat,k<=12/\i=.int .i64 k/\v=.slice (some ⟨w.heap.size,0,none⟩) (n+k) (n+12)/\
     Hid (wr.ownsRow w.heap.size 45 9 (.slice (some ⟨w.heap.size,0,none⟩) (n+k) (n+12)) (n+k) ((NL ++ nmarks β k).flatMap ndc)/\Lt β w.heap.size wr NK NL/\Below w.heap.size w wr)) (fun _ i _=>12 - (intOf i).toNat)
   case atStart=>exact ⟨0,by omega,rfl,rfl,by simpa [nmarks] using HO2.out,HL2.out,HB2.out⟩
   case round=>
    obtain ⟨k,hk,rfl,rfl,hI⟩:=hrel
    have HO:=Lib.hid hI.out.1
    have HL:=Lib.hid hI.out.2.1
    have HB:=Lib.hid hI.out.2.2
    clear hI
    by_cases hlt:k < 12
    ·go_wp2_with fail
     refine (HMn.out _ _ _ (by decide) (by decide) (by omega) (by omega)).mono ?_
     rintro e w3 ⟨rfl,hb'⟩
     have HO3:=Lib.hid (owns_fr HO.out (Fr.of_below (F:=fun _=>False) hb') (fun _ _ h=>h))
     have HL3:=Lib.hid (HL.out.below hb')
     have HB3:=Lib.hid (HB.out.trans (hb'.mono HB.out.size))
     clear hb' HO HB HL
     go_wp2_with (at_builtin;refine wpList_append_fits _ rfl (.tmp 30) (.tmp 33) 23 rfl w.heap.size 45 i0 9 Tryz.underlying23 Hi.out Hz1.out w.heap.size (n+k) (n+12) _ rfl (HO3.out.alloc _) ⟨w3.heap.size,0,none⟩ 1 1 [.int .i64 0,.int .u64 0,.int .u64 0,.int .u64 0,.int .u64 0,.string es0,.int .i64 (β 1 (k:Int)),.int .i64 0,.slice none 0 0] rfl rfl (fun j u h=>World.news_of_block (heap_alloc_new w3 _) j u h) (by simp [Value.oneCell']) (by omega) ?_;intro w4 hown4 hg4;have HO4:=Lib.hid hown4;have HG4:=Lib.hid hg4;clear hown4 hg4)
     go_roundw
     case rel=>
      have hba:=(Below.refl w3.heap.size w3).alloc (Nat.le_refl _) (.cells #[.int .i64 0,.int .u64 0,.int .u64 0,.int .u64 0,.int .u64 0,.string es0,.int .i64 (β 1 (k:Int)),.int .i64 0,.slice none 0 0] 45)
      have hfr:=(Fr.grown HG4.out).weak (G:=fun k=>k=w.heap.size) (fun k e=>(Option.some.inj e).symm)
      refine ⟨k+1,by omega,by go_num,rfl,?_,(HL3.out.below hba).fr hfr,?_⟩
      ·have:=HO4.out
       rw [nmarks_succ]
       simpa [Nat.add_assoc,ndc,mkN] using this
      ·exact (HB3.out.trans (hba.mono HB3.out.size)).grown HG4.out (by have:=HB3.out.size;simp;omega) (by intro k hk;cases hk;exact Nat.le_refl _)
     case measure=>simp [intOf];omega
    ·have hke:k=12:=by omega
     subst hke
     go_wp2_with fail
     go_ret
     refine ⟨rfl,⟨NL,?_,HL.out⟩,HB.out⟩
     rcases HO.out.2 with ⟨h,_⟩ | ⟨g,c,cur,h,_,hh,h3,h4,h5,h6⟩
     ·cases h
     ·cases h
      have hcur:cur=((NL ++ nmarks β 12).flatMap ndc).toArray:=by
       apply Array.toList_inj.1
       rw [← h6,List.take_of_length_le (by simp [h5])]
      rw [← hcur];exact hh
end Go.Proofs.YtgjhepblpdnkcaaGreatDoor
namespace Go.Proofs.YtgjhepblpdnkcaaGreatDoor
open Go.RowKit
set_option maxRecDepth 100000
set_option maxHeartbeats 2000000

theorem row9 {w:World} {g:Nat} {t:TypeId} {l:List (Nd×(Option Addr×Nat))} (h:hrow w g (l.flatMap ndc).toArray t) (k:Nat) (hk:k < l.length):
  w.cell? ⟨g,k * 9,none⟩=some (.int .i64 l[k].1.kind)/\w.cell? ⟨g,k * 9+1,none⟩=some (.int .u64 l[k].1.c0)/\w.cell? ⟨g,k * 9+2,none⟩=some (.int .u64 l[k].1.c1)/\w.cell? ⟨g,k * 9+3,none⟩=some (.int .u64 l[k].1.c2)/\w.cell? ⟨g,k * 9+4,none⟩=some (.int .u64 l[k].1.c3)/\w.cell? ⟨g,k * 9+5,none⟩=some (.string l[k].1.text)/\w.cell? ⟨g,k * 9+6,none⟩=some (.int .i64 l[k].1.rule)/\w.cell? ⟨g,k * 9+7,none⟩=some (.int .i64 l[k].1.lev)/\w.cell? ⟨g,k * 9+8,none⟩=some (.slice l[k].2.1 l[k].1.kids.length l[k].2.2):=by
 have e:∀ j v,j < 9->(ndc l[k])[j]?=some v->w.cell? ⟨g,k * 9+j,none⟩=some v:=fun j v hj hv=>by
  rw [h.cell,List.getElem?_toArray,fl_get ndc_len l k j hk hj];exact hv
 exact ⟨e 0 _ (by decide) rfl,e 1 _ (by decide) rfl,e 2 _ (by decide) rfl,e 3 _ (by decide) rfl,e 4 _ (by decide) rfl,e 5 _ (by decide) rfl,e 6 _ (by decide) rfl,e 7 _ (by decide) rfl,e 8 _ (by decide) rfl⟩

theorem keptNs_any (β:Int->Int->Int) (HMb:Hid (MiC β)) (HMn:Hid (MnC β)) (w:World) (g B:Nat) (bo:Option Addr) (n bc:Nat) (NK NL:List (Nd×(Option Addr×Nat))) (hr:hrow w g ((NL ++ nmarks β 12).flatMap ndc).toArray 45) (hL:Lt β B w NK NL) (hs:NdW w bo n bc NK) (hbig:n<=5000) (hkb:∀ p ∈ NK,p.1.kids.length<=5000):
  Calls Tryz.prog 90 #[.slice (some ⟨g,0,none⟩) n (n+12),.slice bo n bc] w fun r w'=>r=.returned (.bool true)/\Below w.heap.size w w':=by
 obtain ⟨h3,h4⟩:=hs.sv.bound
 have hl:=hs.sv.n_eq ndc_len (by decide)
 have hl':NL.length=n:=by rw [← hl];simpa using congrArg List.length hL.eq
 have hx:∀ k (hk:k < NL.length) (hk':k < NK.length),NL[k].1=NK[k].1:=fun k hk hk'=>by
  have h:=congrArg (fun l=>l[k]?) hL.eq
  simp only [List.getElem?_map,List.getElem?_eq_getElem hk,List.getElem?_eq_getElem hk',Option.map_some] at h
  exact Option.some.inj h
 have HR:=Lib.hid hr;have HT:=Lib.hid hL;have HS:=Lib.hid hs;have HL:=Lib.hid hl;have HL':=Lib.hid hl';have HX:=Lib.hid hx;have HKb:=Lib.hid hkb
 have HLl:Hid ((NL ++ nmarks β 12).length=n+12):=by show _=_;rw [List.length_append,nmarks_len];omega
 clear hr hL hs hl hl' hx hkb
 go_enter Tryz.func90,Tryz.ntmps90
 go_wp2_with fail
 go_loopw [6] (fun i wr=>∃ k:Nat,k<=n+12/\i=.int .i64 k/\Hid (Below w.heap.size w wr)) (fun i _=>n+12 - (intOf i).toNat)
 case atStart=>exact ⟨0,by omega,rfl,Below.refl _ _⟩
 case round=>
  obtain ⟨k,hk,rfl,HB⟩:=hrel
  by_cases hlt:k < n+12
  ·have hlt':(k:Int) < (n:Int)+12:=by omega
   have hcl:=row9 (HR.out.below HB.out) k (by have:=HLl.out;omega)
   by_cases hkn:k < n
   ·have hkL:k < NL.length:=by have:=HL'.out;omega
    have hkR:k < NK.length:=by have:=HL.out;omega
    rw [List.getElem_append_left hkL] at hcl
    obtain ⟨a0,a1,a2,a3,a4,a5,a6,a7,a8⟩:=hcl
    have hkn':(k:Int) < n:=by omega
    have t1:decide (k < n)=true:=decide_eq_true hkn
    have t2:decide (n<=k)=false:=decide_eq_false (by omega)
    have HSr:=Lib.hid (HS.out.below HB.out)
    have HE:=Lib.hid (HX.out k hkL hkR)
    have HM:Hid (∀ y:Later wr,Calls Tryz.prog 130 #[.agg #[.int .i64 NL[k].1.kind,.int .u64 NL[k].1.c0,.int .u64 NL[k].1.c1,.int .u64 NL[k].1.c2,.int .u64 NL[k].1.c3,.string NL[k].1.text,.int .i64 NL[k].1.rule,.int .i64 NL[k].1.lev,.slice NL[k].2.1 NL[k].1.kids.length NL[k].2.2],.agg #[.int .i64 NK[k].1.kind,.int .u64 NK[k].1.c0,.int .u64 NK[k].1.c1,.int .u64 NK[k].1.c2,.int .u64 NK[k].1.c3,.string NK[k].1.text,.int .i64 NK[k].1.rule,.int .i64 NK[k].1.lev,.slice NK[k].2.1 NK[k].1.kids.length NK[k].2.2]] y.val fun r w'=>r=.returned (.bool true)/\Below y.val.heap.size y.val w'):=fun y=>by
     obtain ⟨g',_,e2,h⟩:=(HT.out.below HB.out).row _ (List.getElem_mem hkL)
     have h':=HSr.out.kids _ (List.getElem_mem hkR)
     have hb':=HKb.out _ (List.getElem_mem hkR)
     rw [e2]
     rw [HE.out] at h ⊢
     exact keptNo_any β HMb y.val NK[k].1 g' NK[k].2.1 NK[k].2.2 (h.below y.ok) (h'.below y.ok) hb'
    obtain ⟨b,rfl,b0,b1,b2,b3,b4,b5,b6,b7,b8⟩:=HSr.out.sv.nd9 hkR
    clear HSr HE
    generalize NL[k]=p at *
    generalize NK[k]=q at *
    obtain ⟨⟨p0,p1,p2,p3,p4,p5,p6,p7,p8⟩,p9,p10⟩:=p
    obtain ⟨⟨q0,q1,q2,q3,q4,q5,q6,q7,q8⟩,q9,q10⟩:=q
    simp only [] at a0 a1 a2 a3 a4 a5 a6 a7 a8 b0 b1 b2 b3 b4 b5 b6 b7 b8 HM
    clear hkL hkR
    have later:∀ (p:Addr) (v:Value),wr.cell? p=some v->∀ y:Later wr,y.val.cell? p=some v:=fun p v h y=>(y.ok.cell (World.block_lt_of_cell? wr _ h)).trans h
    have a0:=later _ _ a0
    have a1:=later _ _ a1
    have a2:=later _ _ a2
    have a3:=later _ _ a3
    have a4:=later _ _ a4
    have a5:=later _ _ a5
    have a6:=later _ _ a6
    have a7:=later _ _ a7
    have a8:=later _ _ a8
    have b0:=later _ _ b0
    have b1:=later _ _ b1
    have b2:=later _ _ b2
    have b3:=later _ _ b3
    have b4:=later _ _ b4
    have b5:=later _ _ b5
    have b6:=later _ _ b6
    have b7:=later _ _ b7
    have b8:=later _ _ b8
    clear later
    go_wp2_with fail
    refine wp_region_later (by kernel_rfl) (by kernel_rfl) ?_
    repeat (go_big_quiet_step ((go_at_call 130;exact Calls.later (HM.out _))))
    refine wpQuiet_nil ?_
    intro w5 hw5
    obtain ⟨y,rfl⟩:=hw5
    have HB5:=Lib.hid (HB.out.trans (y.ok.mono HB.out.size))
    clear a0 a1 a2 a3 a4 a5 a6 a7 a8 b0 b1 b2 b3 b4 b5 b6 b7 b8 HM
    generalize y.val=w5 at *
    go_wp2_with fail
    go_roundw
    case rel=>exact ⟨k+1,by omega,by go_num,HB5⟩
    case measure=>simp [intOf];omega
   ·have hkn':(n:Int)<=k:=by omega
    have t1:decide (k < n)=false:=decide_eq_false hkn
    have t2:decide (n<=k)=true:=decide_eq_true (by omega)
    have hwR:=HL'.out
    have hx:((NL ++ nmarks β 12)[k]'(by have:=HLl.out;omega))=mkN β 1 ((k:Int) - n):=by
     rw [List.getElem_append_right (by omega)]
     simp [nmarks,show ((k - NL.length:Nat):Int)=(k:Int) - n by omega]
    rw [hx] at hcl
    simp only [mkN] at hcl
    obtain ⟨a0,a1,a2,a3,a4,a5,a6,a7,a8⟩:=hcl
    have HM:=Lib.hid (fun y:Later wr=>HMn.out y.val 1 ((k:Int) - n) (by decide) (by decide) (by omega) (by omega))
    have HM2:Hid (∀ y:Later wr,Calls Tryz.prog 83 #[.agg #[.int .i64 0,.int .u64 0,.int .u64 0,.int .u64 0,.int .u64 0,.string es0,.int .i64 (β 1 ((k:Int) - n)),.int .i64 0,.slice none 0 0],.agg #[.int .i64 0,.int .u64 0,.int .u64 0,.int .u64 0,.int .u64 0,.string es0,.int .i64 (β 1 ((k:Int) - n)),.int .i64 0,.slice none 0 0]] y.val fun r w'=>r=.returned (.bool true)/\Below y.val.heap.size y.val w'):=fun y=>
     sameNo_any y.val ⟨0,0,0,0,0,es0,β 1 ((k:Int) - n),0,[]⟩ none none 0 0 (Sv.nil _ _) (Sv.nil _ _)
    clear hx hwR
    generalize β 1 ((k:Int) - n)=c at *
    have later:∀ (p:Addr) (v:Value),wr.cell? p=some v->∀ y:Later wr,y.val.cell? p=some v:=fun p v h y=>(y.ok.cell (World.block_lt_of_cell? wr _ h)).trans h
    have a0:=later _ _ a0
    have a1:=later _ _ a1
    have a2:=later _ _ a2
    have a3:=later _ _ a3
    have a4:=later _ _ a4
    have a5:=later _ _ a5
    have a6:=later _ _ a6
    have a7:=later _ _ a7
    have a8:=later _ _ a8
    clear later
    go_wp2_with fail
    refine wp_region_later (by kernel_rfl) (by kernel_rfl) ?_
    repeat (go_big_quiet_step (first | (go_at_call 128;exact Calls.later (HM.out _)) | (go_at_call 83;exact Calls.later (HM2.out _))))
    refine wpQuiet_nil ?_
    intro w5 hw5
    obtain ⟨y,rfl⟩:=hw5
    have HB5:=Lib.hid (HB.out.trans (y.ok.mono HB.out.size))
    clear a0 a1 a2 a3 a4 a5 a6 a7 a8 HM HM2
    generalize y.val=w5 at *
    go_wp2_with fail
    go_roundw
    case rel=>exact ⟨k+1,by omega,by go_num,HB5⟩
    case measure=>simp [intOf];omega
  ·have hge:(n:Int)+12<=k:=by omega
   go_wp2_with fail
   go_ret
   exact ⟨rfl,HB.out⟩
end Go.Proofs.YtgjhepblpdnkcaaGreatDoor
