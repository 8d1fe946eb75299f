/- Walks and plain laws: FKi FLm Zg Zh. -/
import Derived.Test.YtgjhepblpdnkcaaGreatDoorC06
import Derived.Test.YtgjhepblpdnkcaaGreatDoorC03
import Derived.Test.YtgjhepblpdnkcaaGreatDoorM24
import Derived.Test.YtgjhepblpdnkcaaGreatDoorM21
import Derived.Deep.DeepCutAuto
import Derived.Test.YtgjhepblpdnkcaaGreatDoorC01
import Derived.BigQuiet
namespace Go.Proofs.YtgjhepblpdnkcaaGreatDoor
open Go.RowKit
set_option maxRecDepth 100000
set_option maxHeartbeats 2000000

/-- A grammar that is lent: rules and nodes in fresh rows, marks behind them, each node's kids in a row of their own. -/
structure Lg (β:Int->Int->Int) (w:World) (g1 g2:Nat) (NK NL:List (Nd×(Option Addr×Nat))) (G:Gr):Prop where
 rul:hrow w g1 ((G.rules ++ rmarks β 12).flatMap ruc).toArray 49
 nod:hrow w g2 ((NL ++ nmarks β 12).flatMap ndc).toArray 45
 lt:Lt β g2 w NK NL
theorem Lg.below {β:Int->Int->Int} {w w':World} {g1 g2:Nat} {NK NL:List (Nd×(Option Addr×Nat))} {G:Gr} (h:Lg β w g1 g2 NK NL G) (hb:Below w.heap.size w w'):Lg β w' g1 g2 NK NL G:=
 ⟨h.rul.below hb,h.nod.below hb,h.lt.below hb⟩
/-- A lent grammar is a grammar. -/
theorem Lg.gr {β:Int->Int->Int} {w:World} {g1 g2:Nat} {NK NL:List (Nd×(Option Addr×Nat))} {G:Gr} (h:Lg β w g1 g2 NK NL G) {ro no:Option Addr} {rn rc nn nc:Nat} (hg:GrW w ro rn rc no nn nc NK G) (hr:rn<=100000) (hn:nn<=100000) (hk:∀ p ∈ NK,p.1.kids.length<=100000):
  GrW w (some ⟨g1,0,none⟩) rn (rn+12) (some ⟨g2,0,none⟩) nn (nn+12) NL G:=by
 have e1:(G.rules.flatMap ruc) ++ ((rmarks β 12).flatMap ruc)=(G.rules ++ rmarks β 12).flatMap ruc:=by rw [List.flatMap_append]
 have e2:(NL.flatMap ndc) ++ ((nmarks β 12).flatMap ndc)=(NL ++ nmarks β 12).flatMap ndc:=by rw [List.flatMap_append]
 have l1:=hg.rul.n_eq ruc_len (by decide)
 have l2:=hg.nod.sv.n_eq ndc_len (by decide)
 have l3:NL.length=NK.length:=by simpa using congrArg List.length h.lt.eq
 have hx:∀ p ∈ NL,∃ q ∈ NK,q.1=p.1:=fun p hp=>by
  have h':p.1 ∈ NL.map (·.1):=List.mem_map_of_mem hp
  rw [h.lt.eq] at h'
  obtain ⟨q,hq,e⟩:=List.mem_map.1 h'
  exact ⟨q,hq,e⟩
 refine ⟨Sv.of_pre (ys:=(rmarks β 12).flatMap ruc) (by rw [e1];exact h.rul) _ _ _ (by rw [fl_len ruc_len,l1]) (by omega) (by simp only [maxLen];omega),hg.nam,⟨Sv.of_pre (ys:=(nmarks β 12).flatMap ndc) (by rw [e2];exact h.nod) _ _ _ (by rw [fl_len ndc_len,l3,l2]) (by omega) (by simp only [maxLen];omega),?_,?_⟩,?_⟩
 ·intro p hp
  obtain ⟨g,_,e,hr⟩:=h.lt.row p hp
  obtain ⟨q,hq,eq⟩:=hx p hp
  have hb:=hk q hq
  rw [eq] at hb
  rw [e]
  have e0:inc p.1.kids ++ inc (imarks β 12)=inc (p.1.kids ++ imarks β 12):=by simp [inc]
  exact Sv.of_pre (ys:=inc (imarks β 12)) (by rw [e0];exact hr) _ _ _ (by simp [inc]) (by omega) (by simp only [maxLen];omega)
 ·intro p hp
  obtain ⟨q,hq,eq⟩:=hx p hp
  rw [← eq];exact hg.nod.txt q hq
 ·rw [h.lt.eq];exact hg.eq

theorem Lt.frx {β:Int->Int->Int} {B b:Nat} {w w':World} {NK NL:List (Nd×(Option Addr×Nat))} (h:Lt β B w NK NL) (hf:Fr (fun k=>k=b) w w') (hb:b < B):Lt β B w' NK NL:=
 ⟨h.eq,fun p hp=>by obtain ⟨g,h1,h2,h3⟩:=h.row p hp;exact ⟨g,h1,h2,h3.fr hf (fun e=>by have e':g=b:=e;omega)⟩⟩
def set2 (w:World) (g:Nat) (x0 x1:Value):World:=(w.setCell ⟨g,0,none⟩ x0).setCell ⟨g,1,none⟩ x1
theorem set2_fr (w:World) (g:Nat) (x0 x1:Value):Fr (fun k=>k=g) w (set2 w g x0 x1):=
 (Fr.setCell w ⟨g,0,none⟩ x0).trans (Fr.setCell _ ⟨g,1,none⟩ x1) (fun _ _ h=>h)
theorem set2_row {w:World} {g:Nat} {a0 a1:Value} {t:TypeId} (x0 x1:Value) (h:hrow w g #[a0,a1] t):hrow (set2 w g x0 x1) g #[x0,x1] t:=by
 have k0:hrow (w.setCell ⟨g,0,none⟩ x0) g #[x0,a1] t:=heap_setCell_same _ _ _ _ _ _ h.h
 have k1:hrow ((w.setCell ⟨g,0,none⟩ x0).setCell ⟨g,1,none⟩ x1) g #[x0,x1] t:=heap_setCell_same _ _ _ _ _ _ k0.h
 exact k1

theorem lentGr_any (β:Int->Int->Int) (HMb:Hid (MiC β)) (HMr:Hid (MrC β)) (HMn:Hid (MnC β)) (w:World) (ro no:Option Addr) (rn rc nn nc:Nat) (NK:List (Nd×(Option Addr×Nat))) (G:Gr) (hg:GrW w ro rn rc no nn nc NK G) (hr:rn<=100000) (hn:nn<=100000) (hkb:∀ p ∈ NK,p.1.kids.length<=100000):
  Calls Tryz.prog 44 #[.agg #[.slice ro rn rc,.slice no nn nc]] w fun r w'=>∃ g1 g2 NL,r=.returned (.agg #[.slice (some ⟨g1,0,none⟩) rn (rn+12),.slice (some ⟨g2,0,none⟩) nn (nn+12)])/\Lg β w' g1 g2 NK NL G/\w.heap.size<=g1/\w.heap.size<=g2/\Below w.heap.size w w':=by
 have HR:=Lib.hid (fun w' (hb:Below w.heap.size w w')=>lentRu_any β HMr w' ro rn rc G.rules (hg.rul.below hb) hr)
 have HN:=Lib.hid (fun w' (hb:Below w.heap.size w w')=>lentNs_any β HMb HMn w' no nn nc NK (hg.nod.below hb) hn hkb)
 obtain ⟨hx1,hx2⟩:=hg.rul.bound
 obtain ⟨hx3,hx4⟩:=hg.nod.sv.bound
 have HB0:=Lib.hid (al2 (Below.refl w.heap.size w) (.cells #[.slice ro rn rc,.slice no nn nc] 25) (.cells #[.slice none 0 0,.slice none 0 0] 25))
 have HA0:=Lib.hid ((hrow.new w #[.slice ro rn rc,.slice no nn nc] 25).below ((Below.refl _ _).alloc (Nat.le_refl _) (.cells #[.slice none 0 0,.slice none 0 0] 25)))
 have HZ0:Hid (hrow ((w.alloc (.cells #[.slice ro rn rc,.slice no nn nc] 25)).alloc (.cells #[.slice none 0 0,.slice none 0 0] 25)) (w.heap.size+1) #[.slice none 0 0,.slice none 0 0] 25):=by have h:=hrow.new (w.alloc (.cells #[.slice ro rn rc,.slice no nn nc] 25)) #[.slice none 0 0,.slice none 0 0] 25;rwa [World.size_alloc] at h
 clear hg hr hn hkb
 go_enter Tryz.func44,Tryz.ntmps44
 go_upto_region 1 with (fail)
 revert HB0 HA0 HZ0
 generalize (w.alloc _).alloc _=w1
 generalize hh1:w.heap.size+1=h1
 generalize hh0:w.heap.size=h0
 intro HB0 HA0 HZ0
 have HH:Hid (w.heap.size=h0/\h0+1=h1):=⟨hh0,by omega⟩
 have hne:h0 ≠ h1:=by omega
 have HB1:Hid (Below w.heap.size w w1):=by rw [hh0];exact HB0.out
 clear HB0 hh0 hh1
 have HR1:=Lib.hid (HR.out w1 HB1.out)
 have a0:w1.cell? ⟨h0,0,none⟩=some (.slice ro rn rc):=HA0.out.cell 0
 clear HR
 go_wp2_with fail
 refine (HR1.out).mono ?_
 rintro e w2 ⟨rfl,hk,hb2⟩
 have hg:w1.heap.size < w2.heap.size:=hk.lt
 have HA2:=Lib.hid (HA0.out.below hb2)
 have HZ2:=Lib.hid (HZ0.out.below hb2)
 have HB2:=Lib.hid (HB1.out.trans (hb2.mono HB1.out.size))
 have HK2:=Lib.hid hk
 have HGe:Hid (h1 < w1.heap.size):=HZ0.out.lt
 clear hb2 hk a0 HR1 HA0 HZ0 HB1
 revert HK2 HGe hg
 generalize w1.heap.size=g1
 intro hg HK2 HGe
 have b0:w2.cell? ⟨h0,0,none⟩=some (.slice ro rn rc):=HA2.out.cell 0
 have b0f:=HA2.out.frozen 0
 have hf3:=Fr.setCell w2 ⟨h0,0,none⟩ (.slice (some ⟨g1,0,none⟩) rn (rn+12))
 have HA3:Hid (hrow (w2.setCell ⟨h0,0,none⟩ (.slice (some ⟨g1,0,none⟩) rn (rn+12))) h0 #[.slice (some ⟨g1,0,none⟩) rn (rn+12),.slice no nn nc] 25):=heap_setCell_same _ _ _ _ _ _ HA2.out.h
 have HZ3:=Lib.hid (HZ2.out.fr hf3 (fun e=>hne e.symm))
 have HK3:=Lib.hid (HK2.out.fr hf3 (fun e=>by have e':g1=h0:=e;have h1:=HH.out;have h2:=HGe.out;omega))
 have HB3:=Lib.hid (HB2.out.setCell (p:=⟨h0,0,none⟩) (by have:=HH.out;show w.heap.size<=h0;omega) (.slice (some ⟨g1,0,none⟩) rn (rn+12)))
 go_upto_region 2 with (fail)
 clear b0 b0f HA2 HZ2 HB2 HK2 hf3 hg
 revert HA3 HZ3 HK3 HB3
 generalize w2.setCell _ _=w3
 intro HA3 HZ3 HK3 HB3
 obtain ⟨a0,a1⟩:=(HA3.out).c2
 have HN3:=Lib.hid (HN.out w3 HB3.out)
 clear HN
 go_wp2_with fail
 refine (HN3.out).mono ?_
 rintro e w4 ⟨rfl,⟨NL,hk,hlt⟩,hb4⟩
 have HA4:=Lib.hid (HA3.out.below hb4)
 have HZ4:=Lib.hid (HZ3.out.below hb4)
 have HR4:=Lib.hid (HK3.out.below hb4)
 have HB4:=Lib.hid (HB3.out.trans (hb4.mono HB3.out.size))
 have HK4:=Lib.hid hk
 have HT4:=Lib.hid hlt
 have HGe2:Hid (h1 < w3.heap.size):=HZ3.out.lt
 clear hb4 hk hlt a0 a1 HN3 HA3 HZ3 HK3 HB3
 revert HGe2 HK4 HT4
 generalize w3.heap.size=g2
 intro HK4 HT4 HGe2
 obtain ⟨b0,b1⟩:=(HA4.out).c2
 have b1f:=HA4.out.frozen 1
 have hf5:=Fr.setCell w4 ⟨h0,1,none⟩ (.slice (some ⟨g2,0,none⟩) nn (nn+12))
 have HA5:Hid (hrow (w4.setCell ⟨h0,1,none⟩ (.slice (some ⟨g2,0,none⟩) nn (nn+12))) h0 #[.slice (some ⟨g1,0,none⟩) rn (rn+12),.slice (some ⟨g2,0,none⟩) nn (nn+12)] 25):=heap_setCell_same _ _ _ _ _ _ HA4.out.h
 have HZ5:=Lib.hid (HZ4.out.fr hf5 (fun e=>hne e.symm))
 have HR5:=Lib.hid (HR4.out.fr hf5 (fun e=>by have e':g1=h0:=e;have h1:=HH.out;have h2:=HGe.out;omega))
 have HK5:=Lib.hid (HK4.out.fr hf5 (fun e=>by have e':g2=h0:=e;have h1:=HH.out;have h2:=HGe2.out;omega))
 have HT5:=Lib.hid (HT4.out.frx hf5 (by have h1:=HH.out;have h2:=HGe2.out;show h0 < g2;omega))
 have HB5:=Lib.hid (HB4.out.setCell (p:=⟨h0,1,none⟩) (by have:=HH.out;show w.heap.size<=h0;omega) (.slice (some ⟨g2,0,none⟩) nn (nn+12)))
 go_upto_region 3 with (fail)
 clear b0 b1 b1f HA4 HZ4 HB4 HR4 HK4 HT4 hf5
 revert HA5 HZ5 HR5 HK5 HT5 HB5
 generalize w4.setCell _ _=w5
 intro HA5 HZ5 HR5 HK5 HT5 HB5
 obtain ⟨a0,a1⟩:=(HA5.out).c2
 obtain ⟨zq0,zq1⟩:=(HZ5.out).c2
 obtain ⟨zf0,zf1⟩:=(HZ5.out).f2
 have zr:=set2_row (.slice (some ⟨g1,0,none⟩) rn (rn+12)) (.slice (some ⟨g2,0,none⟩) nn (nn+12)) HZ5.out
 have zf:=set2_fr w5 h1 (.slice (some ⟨g1,0,none⟩) rn (rn+12)) (.slice (some ⟨g2,0,none⟩) nn (nn+12))
 unfold set2 at zr zf
 have ZR:=Lib.hid zr
 have ZF:=Lib.hid zf
 clear zr zf
 go_wp2_with fail
 revert ZR ZF
 generalize (w5.setCell _ _).setCell _ _=wz
 intro ZR ZF
 obtain ⟨zc0,zc1⟩:=(ZR.out).c2
 exact bodyPost_ret (v:=.agg #[.slice (some ⟨g1,0,none⟩) rn (rn+12),.slice (some ⟨g2,0,none⟩) nn (nn+12)]) (by simp [results,Tryz.results44,go_sem,zc0,zc1]) rfl ⟨g1,g2,NL,rfl,
  ⟨HR5.out.fr ZF.out (fun e=>by have e':g1=h1:=e;have:=HGe.out;omega),HK5.out.fr ZF.out (fun e=>by have e':g2=h1:=e;have:=HGe2.out;omega),HT5.out.frx ZF.out (HGe2.out)⟩,
  by have h1:=HH.out;have h2:=HGe.out;omega,by have h1:=HH.out;have h2:=HGe2.out;omega,HB5.out.trans (ZF.out.below HB5.out.size (fun k hk e=>by have e':k=h1:=e;have:=HH.out;omega))⟩
end Go.Proofs.YtgjhepblpdnkcaaGreatDoor
namespace Go.Proofs.YtgjhepblpdnkcaaGreatDoor
open Go.RowKit
set_option maxRecDepth 100000
set_option maxHeartbeats 2000000

section
variable (β:Int->Int->Int) (HMb:Hid (MiC β)) (HMr:Hid (MrC β)) (HMn:Hid (MnC β)) (w:World) (ro no:Option Addr) (rn rc nn nc g1 g2:Nat) (NK NL:List (Nd×(Option Addr×Nat))) (G:Gr) (hg:GrW w ro rn rc no nn nc NK G) (hl:Lg β w g1 g2 NK NL G) (hr:rn<=5000) (hn:nn<=5000) (hkb:∀ p ∈ NK,p.1.kids.length<=5000)
include hg hl hr hn hkb
include HMb HMr HMn
theorem keptGr_any:Calls Tryz.prog 48 #[.agg #[.slice (some ⟨g1,0,none⟩) rn (rn+12),.slice (some ⟨g2,0,none⟩) nn (nn+12)],.agg #[.slice ro rn rc,.slice no nn nc]] w fun r w'=>r=.returned (.bool true)/\Below w.heap.size w w':=by
 have HS:=Lib.hid (fun w' (hb:Below w.heap.size w w')=>sameGr_any w' ro no (some ⟨g1,0,none⟩) (some ⟨g2,0,none⟩) rn rc nn nc (rn+12) (nn+12) NK NL G (hg.below hb) ((hl.below hb).gr (hg.below hb) (by omega) (by omega) (fun p hp=>by have:=hkb p hp;omega)))
 have HR:=Lib.hid (fun w' (hb:Below w.heap.size w w')=>keptRu_any β HMr w' g1 ro rn rc G.rules (hl.rul.below hb) (hg.rul.below hb) hr)
 have HN:=Lib.hid (fun w' (hb:Below w.heap.size w w')=>keptNs_any β HMb HMn w' g2 g2 no nn nc NK NL (hl.nod.below hb) (hl.lt.below hb) (hg.nod.below hb) hn hkb)
 have HB0:=Lib.hid (al2 (Below.refl w.heap.size w) (.cells #[.slice (some ⟨g1,0,none⟩) rn (rn+12),.slice (some ⟨g2,0,none⟩) nn (nn+12)] 25) (.cells #[.slice ro rn rc,.slice no nn nc] 25))
 have HA0:=Lib.hid ((hrow.new w #[.slice (some ⟨g1,0,none⟩) rn (rn+12),.slice (some ⟨g2,0,none⟩) nn (nn+12)] 25).below ((Below.refl _ _).alloc (Nat.le_refl _) (.cells #[.slice ro rn rc,.slice no nn nc] 25)))
 have HZ0:Hid (hrow ((w.alloc (.cells #[.slice (some ⟨g1,0,none⟩) rn (rn+12),.slice (some ⟨g2,0,none⟩) nn (nn+12)] 25)).alloc (.cells #[.slice ro rn rc,.slice no nn nc] 25)) (w.heap.size+1) #[.slice ro rn rc,.slice no nn nc] 25):=by have h:=hrow.new (w.alloc (.cells #[.slice (some ⟨g1,0,none⟩) rn (rn+12),.slice (some ⟨g2,0,none⟩) nn (nn+12)] 25)) #[.slice ro rn rc,.slice no nn nc] 25;rwa [World.size_alloc] at h
 go_enter Tryz.func48,Tryz.ntmps48
 go_upto_region 1 with (fail)
 revert HB0 HA0 HZ0
 generalize (w.alloc _).alloc _=w1
 generalize hh1:w.heap.size+1=h1
 generalize hh0:w.heap.size=h0
 intro HB0 HA0 HZ0
 have HB1:Hid (Below w.heap.size w w1):=by rw [hh0];exact HB0.out
 have hne:h0 ≠ h1:=by omega
 clear HB0 hh0 hh1
 obtain ⟨a0,a1⟩:=(HA0.out).c2
 obtain ⟨z0,z1⟩:=(HZ0.out).c2
 go_wp2_with fail
 refine (HS.out w1 HB1.out).mono ?_
 rintro e w2 ⟨rfl,hb2⟩
 have HB2:=Lib.hid (HB1.out.trans (hb2.mono HB1.out.size))
 have HA2:=Lib.hid (HA0.out.below hb2)
 have HZ2:=Lib.hid (HZ0.out.below hb2)
 have a0:w2.cell? ⟨h0,0,none⟩=some (.slice (some ⟨g1,0,none⟩) rn (rn+12)):=HA2.out.cell 0
 have z0:w2.cell? ⟨h1,0,none⟩=some (.slice ro rn rc):=HZ2.out.cell 0
 clear hb2 HA0 HZ0 a1 z1
 go_wp2_with fail
 refine (HR.out w2 HB2.out).mono ?_
 rintro e w3 ⟨rfl,hb3⟩
 have HB3:=Lib.hid (HB2.out.trans (hb3.mono HB2.out.size))
 have a1:w3.cell? ⟨h0,1,none⟩=some (.slice (some ⟨g2,0,none⟩) nn (nn+12)):=(HA2.out.below hb3).cell 1
 have z1:w3.cell? ⟨h1,1,none⟩=some (.slice no nn nc):=(HZ2.out.below hb3).cell 1
 clear hb3 HA2 HZ2 a0 z0
 go_wp2_with fail
 refine (HN.out w3 HB3.out).mono ?_
 rintro e w4 ⟨rfl,hb4⟩
 have HB4:=Lib.hid (HB3.out.trans (hb4.mono HB3.out.size))
 clear hb4
 go_wp2_with fail
 go_ret
 exact ⟨rfl,HB4.out⟩
end
end Go.Proofs.YtgjhepblpdnkcaaGreatDoor
namespace Go.Proofs.YtgjhepblpdnkcaaGreatDoor
open Go.RowKit
set_option maxRecDepth 100000
set_option maxHeartbeats 8000000

/-- Three rows of the call's own, one made behind the other. -/
theorem two_three {z0 z1 z2 z3 Z:World} {va vb vc:Value} {la lb lc:List Int} (ha:Own z0 z1 3 1 va la.length (inc la)) (hb:Own z1 z2 3 1 vb lb.length (inc lb)) (hc:Own z2 z3 3 1 vc lc.length (inc lc)) (hz:Below z3.heap.size z3 Z):
  Two icf z0.heap.size 3 1 Z 3 (fun i=>if i=0 then va else if i=1 then vb else vc) (fun i=>if i=0 then la else if i=1 then lb else lc) 0 (fun i=>if i=0 then va else if i=1 then vb else vc) (fun i=>if i=0 then la else if i=1 then lb else lc):=by
 have s1:=ha.2.size;have s2:=hb.2.size;have s3:=hc.2.size
 have h1:Below z2.heap.size z2 Z:=hc.2.trans (hz.mono s3)
 have h0:Below z1.heap.size z1 Z:=hb.2.trans (h1.mono s2)
 have ra:=(ha.below h0).1
 have rb:=(hb.below h1).1.mono s1
 have rc:=(hc.below hz).1.mono (Nat.le_trans s1 s2)
 have ba:∀ g,va.ownBlock=some g->g < z1.heap.size:=fun g hg=>(ha.1.lt g hg).2
 have bb:∀ g,vb.ownBlock=some g->z1.heap.size<=g/\g < z2.heap.size:=fun g hg=>⟨(hb.1.lt g hg).1,(hb.1.lt g hg).2⟩
 have bc:∀ g,vc.ownBlock=some g->z2.heap.size<=g:=fun g hg=>(hc.1.lt g hg).1
 refine Two.start (fun i hi=>?_) (fun i j g hi hj h1 h2=>?_) _ _
 ·rcases (show i=0∨i=1∨i=2 by omega) with rfl | rfl | rfl
  ·simp only [if_pos];rw [icf_inc];exact ra
  ·simp only [if_neg (show ¬ (1:Nat)=0 by decide),if_pos];rw [icf_inc];exact rb
  ·simp only [if_neg (show ¬ (2:Nat)=0 by decide),if_neg (show ¬ (2:Nat)=1 by decide)];rw [icf_inc];exact rc
 ·rcases (show i=0∨i=1∨i=2 by omega) with rfl | rfl | rfl <;> rcases (show j=0∨j=1∨j=2 by omega) with rfl | rfl | rfl <;> simp at h1 h2 <;> try rfl
  ·have:=ba g h1;have:=bb g h2;omega
  ·have:=ba g h1;have:=bc g h2;omega
  ·have:=ba g h2;have:=bb g h1;omega
  ·have:=bb g h1;have:=bc g h2;omega
  ·have:=ba g h2;have:=bc g h1;omega
  ·have:=bb g h2;have:=bc g h1;omega
theorem lawcalls_any (w:World) (ro:Option Addr) (rc:Nat) (no:Option Addr) (nc:Nat) (NK:List Nk) (G:Gr) (hG:GrW w ro G.rules.length rc no NK.length nc NK G) (hr:G.rules.length<=5000) (hn:NK.length<=5000) (hkb:∀ p ∈ NK,p.1.kids.length<=5000) (rule:Int):
  Calls Tryz.prog 17 #[grv ro G.rules.length rc no NK.length nc,.int .i64 rule] w fun e w'=>e=.returned (.bool true)/\Below w.heap.size w w':=by
 obtain ⟨g,hg⟩:∃ g,w.heap.size=g:=⟨_,rfl⟩
 obtain ⟨z,hz⟩:∃ z,w.alloc (.cells #[.slice ro G.rules.length rc,.slice no NK.length nc] 25)=z:=⟨_,rfl⟩
 have zb:=(Below.refl _ w).alloc (Nat.le_refl _) (.cells #[.slice ro G.rules.length rc,.slice no NK.length nc] 25)
 have z1:=hrow.new w #[.slice ro G.rules.length rc,.slice no NK.length nc] 25
 rw [hz] at zb z1
 rw [hg] at z1
 have HZ:=Lib.hid hz;have HG:=Lib.hid hg;have H1:=Lib.hid z1;have HB:=Lib.hid zb;have HGR:=Lib.hid (hG.below zb)
 have HM1:Hid (MiC mkI):=mark_all
 have HM2:Hid (MrC mkI):=markRu_all
 have HM3:Hid (MnC mkI):=markNo_all
 have HLT:=Lib.hid (lentGr_any mkI HM1 HM2 HM3 z ro no G.rules.length rc NK.length nc NK G HGR.out (by omega) (by omega) (fun p hp=>by have:=hkb p hp;omega))
 have HR5:=Lib.hid hr;have HN5:=Lib.hid hn;have HK5:=Lib.hid hkb
 unfold grv
 obtain ⟨rn,hrn⟩:∃ n,G.rules.length=n:=⟨_,rfl⟩
 obtain ⟨nn,hnn⟩:∃ n,NK.length=n:=⟨_,rfl⟩
 have HRN:=Lib.hid hrn;have HNN:=Lib.hid hnn
 rw [hrn,hnn] at HZ H1 HGR HLT ⊢
 rw [hrn] at HR5;rw [hnn] at HN5
 clear hrn hnn hG hr hn hkb hz hg z1 zb
 go_enter Tryz.func17,Tryz.ntmps17
 go_upto_region 1 with (fail)
 rw [HZ.out,HG.out]
 go_wp2_with (refine load_gram rfl (.tmp 2) rfl g rfl _ H1.out rfl ?_)
 refine HLT.out.mono ?_
 rintro e y ⟨g1,g2,NL,rfl,hl,-,-,hb⟩
 go_upto_region 2 with (fail)
 obtain ⟨gi,hgi⟩:∃ g,y.heap.size=g:=⟨_,rfl⟩
 obtain ⟨z0,hz0⟩:∃ z,y.alloc (.cells #[.slice (some ⟨g1,0,none⟩) rn (rn+12:Nat),.slice (some ⟨g2,0,none⟩) nn (nn+12:Nat)] 25)=z:=⟨_,rfl⟩
 have zb:=(Below.refl _ y).alloc (Nat.le_refl _) (.cells #[.slice (some ⟨g1,0,none⟩) rn (rn+12:Nat),.slice (some ⟨g2,0,none⟩) nn (nn+12:Nat)] 25)
 have zr:=hrow.new y #[.slice (some ⟨g1,0,none⟩) rn (rn+12:Nat),.slice (some ⟨g2,0,none⟩) nn (nn+12:Nat)] 25
 rw [hz0] at zb zr
 rw [hgi] at zr
 have hz0':=hz0
 rw [hz0,hgi]
 have HL0:=Lib.hid (hl.below zb)
 have HG0:=Lib.hid ((HGR.out.below hb).below zb)
 have HGI0:Hid (GrW z0 (some ⟨g1,0,none⟩) rn (rn+12) (some ⟨g2,0,none⟩) nn (nn+12) NL G):=HL0.out.gr HG0.out (by have:=HR5.out;omega) (by have:=HN5.out;omega) (fun p hp=>by have:=HK5.out p hp;omega)
 have HX0:=Lib.hid ((H1.out.below hb).below zb);have HI0:=Lib.hid zr
 have HB0:=Lib.hid (HB.out.trans ((hb.trans (zb.mono hb.size)).mono HB.out.size))
 have HNLL:Hid (NL.length=nn):=by have h1:=congrArg List.length HGI0.out.eq;have h2:=congrArg List.length HG0.out.eq;rw [List.length_map] at h1 h2;have:=HNN.out;unfold Hid;omega
 have HKL:Hid (∀ p ∈ NL,p.1.kids.length<=1000000):=fun p hp=>by
  have h1:p.1 ∈ G.nodes:=HGI0.out.eq ▸ List.mem_map_of_mem hp
  rw [← HG0.out.eq] at h1
  obtain ⟨q,hq,e⟩:=List.mem_map.1 h1
  have:=HK5.out q hq
  rw [← e];omega
 clear hz0 hz0' hl hb zb zr hgi HLT HZ H1 HGR HB
 have HC1:Hid (∀ v,Below z0.heap.size z0 v->Calls Tryz.prog 20 #[.agg #[.slice (some ⟨g1,0,none⟩) rn (rn+12:Nat),.slice (some ⟨g2,0,none⟩) nn (nn+12:Nat)],.int .i64 rule] v fun e w'=>∃ u,e=.returned u/\Own v w' 3 1 u (clrL G rule).length (inc (clrL G rule))):=fun v hv=>by
  have h:=callers_any v (some ⟨g1,0,none⟩) (rn+12) (some ⟨g2,0,none⟩) (nn+12) NL G (by rw [HRN.out,HNLL.out];exact HGI0.out.below hv) HKL.out (by rw [HNLL.out];have:=HN5.out;omega) rule
  unfold grv at h
  rw [HRN.out,HNLL.out] at h;exact h
 have HC2:Hid (∀ v,Below z0.heap.size z0 v->Calls Tryz.prog 21 #[.agg #[.slice (some ⟨g1,0,none⟩) rn (rn+12:Nat),.slice (some ⟨g2,0,none⟩) nn (nn+12:Nat)],.int .i64 rule] v fun e w'=>∃ u,e=.returned u/\Own v w' 3 1 u (cldL G rule).length (inc (cldL G rule))):=fun v hv=>by
  have h:=called_any v (some ⟨g1,0,none⟩) (rn+12) (some ⟨g2,0,none⟩) (nn+12) NL G (by rw [HRN.out,HNLL.out];exact HGI0.out.below hv) HKL.out (by rw [HNLL.out];have:=HN5.out;omega) rule
  unfold grv at h
  rw [HRN.out,HNLL.out] at h;exact h
 have HC3:Hid (∀ v,Below z0.heap.size z0 v->Calls Tryz.prog 22 #[.agg #[.slice (some ⟨g1,0,none⟩) rn (rn+12:Nat),.slice (some ⟨g2,0,none⟩) nn (nn+12:Nat)],.int .i64 rule] v fun e w'=>∃ u,e=.returned u/\Own v w' 3 1 u (recL G rule).length (inc (recL G rule))):=fun v hv=>by
  have h:=reached_any v (some ⟨g1,0,none⟩) (rn+12) (some ⟨g2,0,none⟩) (nn+12) NL G (by rw [HRN.out,HNLL.out];exact HGI0.out.below hv) HKL.out (by rw [HNLL.out];have:=HN5.out;omega) rule
  unfold grv at h
  rw [HRN.out,HNLL.out] at h;exact h
 obtain ⟨n1,hn1⟩:∃ n,(clrL G rule).length=n:=⟨_,rfl⟩
 obtain ⟨n2,hn2⟩:∃ n,(cldL G rule).length=n:=⟨_,rfl⟩
 obtain ⟨n3,hn3⟩:∃ n,(recL G rule).length=n:=⟨_,rfl⟩
 rw [hn1] at HC1;rw [hn2] at HC2;rw [hn3] at HC3
 have HL1:=Lib.hid hn1;have HL2:=Lib.hid hn2;have HL3:=Lib.hid hn3
 clear hn1 hn2 hn3
 go_cut [6,7,8] from 9 to 19 (fun c d f wx=>∃ ao1 c1 ao2 c2 ao3 c3,c=.slice ao1 n1 c1/\d=.slice ao2 n2 c2/\f=.slice ao3 n3 c3/\∃ y0 y1 y2,Hid (Below z0.heap.size z0 y0/\Own y0 y1 3 1 (.slice ao1 n1 c1) n1 (inc (clrL G rule))/\Own y1 y2 3 1 (.slice ao2 n2 c2) n2 (inc (cldL G rule))/\Own y2 wx 3 1 (.slice ao3 n3 c3) n3 (inc (recL G rule))))
 case first=>
  obtain ⟨S,hSd⟩:∃ S:World->Prop,S=fun u=>hrow u gi #[.slice (some ⟨g1,0,none⟩) rn (rn+12:Nat),.slice (some ⟨g2,0,none⟩) nn (nn+12:Nat)] 25:=⟨_,rfl⟩
  have F0:∀ u,S u->(loadVar 25 ⟨gi,0,none⟩).run Tryz.prog u=.ok (.agg #[.slice (some ⟨g1,0,none⟩) rn (rn+12:Nat),.slice (some ⟨g2,0,none⟩) nn (nn+12:Nat)]) u:=fun u h=>by rw [hSd] at h;exact gram_ld h
  have HS:Hid (∀ u,Below z0.heap.size z0 u->S u):=fun u h=>by rw [hSd];exact HI0.out.below h
  clear hSd
  refine wp_region_noPanic ?_
  refine wp_region_T S [0,1,2,3,4,5,6,7,8] 9 3 rfl (by kernel_rfl) ?_
  have HD:=Lib.hid ((Below.refl z0.heap.size z0).drew)
  have HO:=Lib.hid (show z0.drew.heap.size=z0.heap.size from rfl)
  have HDD:=Lib.hid ((Below.refl z0.heap.size z0).drew)
  generalize z0.drew=w6 at HD HO HDD ⊢
  refine wpAnyT_reads (f:=3) [0,1,3,4,6,7] (by kernel_rfl) (by kernel_rfl) (HS.out _ HD.out) (fun _ _ _ _ h=>h) ?_
  simp only [pickOps,List.getD_cons_zero,List.getD_cons_succ]
  repeat (first
   | (refine wpRead_load rfl 25 (.tmp 5) rfl ⟨gi,0,none⟩ rfl _ F0 ?_;simp only [Act.put,List.setIfInBounds_toArray,List.set_cons_zero,List.set_cons_succ])
   | (refine wpRead_cons (v:=?_) rfl ?_ ?_;rotate_left;(· (intro z hz;clear hz;go_simp;try with_reducible rfl));simp only [Act.put,List.setIfInBounds_toArray,List.set_cons_zero,List.set_cons_succ]))
  refine wpRead_nil ?_
  refine wpAnyT_one 2 (by kernel_rfl) (by kernel_rfl) rfl ?_
  simp only [List.getD_cons_zero,List.getD_cons_succ]
  go_wp2_with fail
  refine (HC1.out w6 HD.out).mono ?_
  rintro e u1 ⟨v,rfl,ho⟩
  obtain ⟨ao1,c1,rfl,-⟩:=ho.sv
  have HD1:=Lib.hid (HD.out.trans (ho.2.mono HD.out.size))
  have HO1:=Lib.hid ho
  clear ho
  go_wp2_with fail
  refine ⟨HS.out _ HD1.out,?_⟩
  refine wpAnyT_one 5 (by kernel_rfl) (by kernel_rfl) rfl ?_
  simp only [List.getD_cons_zero,List.getD_cons_succ]
  go_wp2_with fail
  refine (HC2.out u1 HD1.out).mono ?_
  rintro e u2 ⟨v,rfl,ho⟩
  obtain ⟨ao2,c2,rfl,-⟩:=ho.sv
  have HD2:=Lib.hid (HD1.out.trans (ho.2.mono HD1.out.size))
  have HO2:=Lib.hid ho
  clear ho
  go_wp2_with fail
  refine ⟨HS.out _ HD2.out,?_⟩
  refine wpAnyT_one 8 (by kernel_rfl) (by kernel_rfl) rfl ?_
  simp only [List.getD_cons_zero,List.getD_cons_succ]
  go_wp2_with fail
  refine (HC3.out u2 HD2.out).mono ?_
  rintro e u3 ⟨v,rfl,ho⟩
  obtain ⟨ao3,c3,rfl,-⟩:=ho.sv
  have HD3:=Lib.hid (HD2.out.trans (ho.2.mono HD2.out.size))
  have HO3:=Lib.hid ho
  clear ho
  go_wp2_with fail
  refine ⟨HS.out _ HD3.out,?_⟩
  refine wpAnyT_tail [9,10,11] (by kernel_rfl) (by kernel_rfl) (by kernel_rfl) ?_
  simp only [pickOps,List.getD_cons_zero,List.getD_cons_succ]
  go_wp2_with fail
  refine noPanic_normal ?_
  go_wp2_with fail
  go_meet
  exact ⟨_,_,_,_,_,_,rfl,rfl,rfl,w6,u1,u2,HDD.out,HO1.out,HO2.out,HO3.out⟩
 case rest=>
  obtain ⟨ao1,c1,ao2,c2,ao3,c3,rfl,rfl,rfl,y0,y1,y2,HV⟩:=hcut
  have HO1:=Lib.hid HV.out.2.1;have HO2:=Lib.hid HV.out.2.2.1;have HO3:=Lib.hid HV.out.2.2.2
  have HBc:Hid (Below z0.heap.size z0 wc):=HV.out.1.trans ((HO1.out.2.trans ((HO2.out.2.trans (HO3.out.2.mono HO2.out.2.size)).mono HO1.out.2.size)).mono HV.out.1.size)
  have HZ0:Hid (z0.heap.size<=y0.heap.size):=HV.out.1.size
  have HYc:Hid (Below wc.heap.size wc wc):=Below.refl _ _
  have HY0:Hid (y0.heap.size<=wc.heap.size):=Nat.le_trans HO1.out.2.size (Nat.le_trans HO2.out.2.size HO3.out.2.size)
  clear HV
  have HTW:Hid (∀ Z,Below wc.heap.size wc Z->Two icf y0.heap.size 3 1 Z 3 (fun i=>if i=0 then .slice ao1 n1 c1 else if i=1 then .slice ao2 n2 c2 else .slice ao3 n3 c3) (fun i=>if i=0 then clrL G rule else if i=1 then cldL G rule else recL G rule) 0 (fun i=>if i=0 then .slice ao1 n1 c1 else if i=1 then .slice ao2 n2 c2 else .slice ao3 n3 c3) (fun i=>if i=0 then clrL G rule else if i=1 then cldL G rule else recL G rule)):=fun Z hZ=>
   two_three (by rw [HL1.out];exact HO1.out) (by rw [HL2.out];exact HO2.out) (by rw [HL3.out];exact HO3.out) hZ
  have HV1:Hid (∀ Z,Below wc.heap.size wc Z->Sv Z ao1 n1 c1 1 (inc (clrL G rule))):=fun Z hZ=>by
   obtain ⟨a,c,e,h⟩:=HO1.out.sv;cases e
   exact h.below (HO2.out.2.trans ((HO3.out.2.trans (hZ.mono HO3.out.2.size)).mono HO2.out.2.size))
  have HV2:Hid (∀ Z,Below wc.heap.size wc Z->Sv Z ao2 n2 c2 1 (inc (cldL G rule))):=fun Z hZ=>by
   obtain ⟨a,c,e,h⟩:=HO2.out.sv;cases e
   exact h.below (HO3.out.2.trans (hZ.mono HO3.out.2.size))
  have HV3:Hid (∀ Z,Below wc.heap.size wc Z->Sv Z ao3 n3 c3 1 (inc (recL G rule))):=fun Z hZ=>by
   obtain ⟨a,c,e,h⟩:=HO3.out.sv;cases e
   exact h.below hZ
  have HKP:Hid (∀ v,Below z0.heap.size z0 v->Calls Tryz.prog 48 #[.agg #[.slice (some ⟨g1,0,none⟩) rn (rn+12:Nat),.slice (some ⟨g2,0,none⟩) nn (nn+12:Nat)],.agg #[.slice ro rn rc,.slice no nn nc]] v fun r w'=>r=.returned (.bool true)/\Below v.heap.size v w'):=fun v hv=>by
   have hR5:=HR5.out;have hN5:=HN5.out
   exact keptGr_any mkI HM1 HM2 HM3 v ro no rn rc nn nc g1 g2 NK NL G (HG0.out.below hv) (HL0.out.below hv) hR5 hN5 HK5.out
  have HLN:Hid (n1<=5000/\n2<=5000/\n3<=5000):=by
   have h:=HR5.out
   have hrn:=HRN.out
   have h1:(clrL G rule).length<=rn:=by unfold clrL;split;exact hrn ▸ lisF_len _ _;simp
   have h2:(cldL G rule).length<=rn:=by unfold cldL;split;exact hrn ▸ lisF_len _ _;simp
   have h3:(recL G rule).length<=rn:=by unfold recL;split;exact hrn ▸ lisF_len _ _;simp
   rw [HL1.out] at h1;rw [HL2.out] at h2;rw [HL3.out] at h3
   exact ⟨by omega,by omega,by omega⟩
  have HR1:Hid (∀ v,Below z0.heap.size z0 v->Calls Tryz.prog 45 #[.agg #[.slice ro rn rc,.slice no nn nc],.int .i64 rule] v fun e w'=>∃ ao c,e=.returned (.slice ao n1 c)/\Sv w' ao n1 c 1 (inc (clrL G rule))/\Below v.heap.size v w'):=fun v hv=>by
   have h:=rcallers_any v ro rc no nc NK G (by rw [HRN.out,HNN.out];exact HG0.out.below hv) rule
   unfold grv at h
   rw [HRN.out,HNN.out] at h
   refine h.mono ?_
   rintro e w' ⟨u,rfl,ho⟩
   rw [HL1.out] at ho
   obtain ⟨ao,c,rfl,hs⟩:=ho.sv
   exact ⟨ao,c,rfl,hs,ho.2⟩
  have HR2:Hid (∀ v,Below z0.heap.size z0 v->Calls Tryz.prog 46 #[.agg #[.slice ro rn rc,.slice no nn nc],.int .i64 rule] v fun e w'=>∃ ao c,e=.returned (.slice ao n2 c)/\Sv w' ao n2 c 1 (inc (cldL G rule))/\Below v.heap.size v w'):=fun v hv=>by
   have h:=rcalled_any v ro rc no nc NK G (by rw [HRN.out,HNN.out];exact HG0.out.below hv) rule
   unfold grv at h
   rw [HRN.out,HNN.out] at h
   refine h.mono ?_
   rintro e w' ⟨u,rfl,ho⟩
   rw [HL2.out] at ho
   obtain ⟨ao,c,rfl,hs⟩:=ho.sv
   exact ⟨ao,c,rfl,hs,ho.2⟩
  have HR3:Hid (∀ v,Below z0.heap.size z0 v->Calls Tryz.prog 47 #[.agg #[.slice ro rn rc,.slice no nn nc],.int .i64 rule] v fun e w'=>∃ ao c,e=.returned (.slice ao n3 c)/\Sv w' ao n3 c 1 (inc (recL G rule))/\Below v.heap.size v w'):=fun v hv=>by
   have h:=rreached_any v ro rc no nc NK G (by rw [HRN.out,HNN.out];exact HG0.out.below hv) rule
   unfold grv at h
   rw [HRN.out,HNN.out] at h
   refine h.mono ?_
   rintro e w' ⟨u,rfl,ho⟩
   rw [HL3.out] at ho
   obtain ⟨ao,c,rfl,hs⟩:=ho.sv
   exact ⟨ao,c,rfl,hs,ho.2⟩
  clear HO1 HO2 HO3
  have c0:=(HX0.out.below HBc.out).cell 0
  have c1:=(HX0.out.below HBc.out).cell 1
  go_wp2_with fail
  clear c0 c1
  refine (HR1.out _ HBc.out).mono ?_
  rintro e u1a ⟨bo1,b1,rfl,hs,hb⟩
  have HS1:=Lib.hid hs;have HBu1a:=Lib.hid (HBc.out.trans (hb.mono HBc.out.size));have HYu1a:=Lib.hid (HYc.out.trans (hb.mono HYc.out.size))
  clear hs hb
  go_wp2_with fail
  refine (same_any u1a ao1 bo1 n1 c1 b1 _ (HV1.out _ HYu1a.out) HS1.out).mono ?_
  rintro e u1 ⟨rfl,hb⟩
  have HBu1:=Lib.hid (HBu1a.out.trans (hb.mono HBu1a.out.size));have HYu1:=Lib.hid (HYu1a.out.trans (hb.mono HYu1a.out.size))
  clear hb
  have c0:=(HX0.out.below HBu1.out).cell 0
  have c1:=(HX0.out.below HBu1.out).cell 1
  go_wp2_with fail
  clear c0 c1
  refine (HR2.out _ HBu1.out).mono ?_
  rintro e u2a ⟨bo2,b2,rfl,hs,hb⟩
  have HS2:=Lib.hid hs;have HBu2a:=Lib.hid (HBu1.out.trans (hb.mono HBu1.out.size));have HYu2a:=Lib.hid (HYu1.out.trans (hb.mono HYu1.out.size))
  clear hs hb
  go_wp2_with fail
  refine (same_any u2a ao2 bo2 n2 c2 b2 _ (HV2.out _ HYu2a.out) HS2.out).mono ?_
  rintro e u2 ⟨rfl,hb⟩
  have HBu2:=Lib.hid (HBu2a.out.trans (hb.mono HBu2a.out.size));have HYu2:=Lib.hid (HYu2a.out.trans (hb.mono HYu2a.out.size))
  clear hb
  have c0:=(HX0.out.below HBu2.out).cell 0
  have c1:=(HX0.out.below HBu2.out).cell 1
  go_wp2_with fail
  clear c0 c1
  refine (HR3.out _ HBu2.out).mono ?_
  rintro e u3a ⟨bo3,b3,rfl,hs,hb⟩
  have HS3:=Lib.hid hs;have HBu3a:=Lib.hid (HBu2.out.trans (hb.mono HBu2.out.size));have HYu3a:=Lib.hid (HYu2.out.trans (hb.mono HYu2.out.size))
  clear hs hb
  go_wp2_with fail
  refine (same_any u3a ao3 bo3 n3 c3 b3 _ (HV3.out _ HYu3a.out) HS3.out).mono ?_
  rintro e u3 ⟨rfl,hb⟩
  have HBu3:=Lib.hid (HBu3a.out.trans (hb.mono HBu3a.out.size));have HYu3:=Lib.hid (HYu3a.out.trans (hb.mono HYu3a.out.size))
  clear hb
  have c0:=(HX0.out.below HBu3.out).cell 0
  have c1:=(HX0.out.below HBu3.out).cell 1
  have d0:=(HI0.out.below HBu3.out).cell 0
  have d1:=(HI0.out.below HBu3.out).cell 1
  go_wp2_with fail
  clear c0 c1 d0 d1
  refine (HKP.out _ HBu3.out).mono ?_
  rintro e u4 ⟨rfl,hb⟩
  have HBu4:=Lib.hid (HBu3.out.trans (hb.mono HBu3.out.size));have HYu4:=Lib.hid (HYu3.out.trans (hb.mono HYu3.out.size))
  clear hb
  go_wp2_with fail
  have HB5:=Lib.hid (HBu4.out.alloc HBu4.out.size (.cells #[.slice ao1 n1 c1,.slice ao2 n2 c2,.slice ao3 n3 c3] 26))
  have HY5:=Lib.hid (HYu4.out.alloc HYu4.out.size (.cells #[.slice ao1 n1 c1,.slice ao2 n2 c2,.slice ao3 n3 c3] 26))
  have hls:=Sv.lit u4 26 #[.slice ao1 n1 c1,.slice ao2 n2 c2,.slice ao3 n3 c3] 3 1 (by decide) rfl
  refine (apartInts_any _ y0.heap.size 3 (by decide) (by decide) (Nat.le_trans HY0.out HY5.out.size) _ 3 _ (fun i=>if i=0 then n1 else if i=1 then n2 else n3) _ hls (HTW.out _ HY5.out) (fun k hk=>?_) (fun k hk=>?_)).mono ?_
  ·rcases (show k=0∨k=1∨k=2 by omega) with rfl | rfl | rfl
   ·exact HL1.out
   ·exact HL2.out
   ·exact HL3.out
  ·have h:=HLN.out
   rcases (show k=0∨k=1∨k=2 by omega) with rfl | rfl | rfl
   ·exact h.1
   ·exact h.2.1
   ·exact h.2.2
  rintro e u6 ⟨rfl,hb⟩
  have HBu6:=Lib.hid (HB5.out.trans (hb.mono HZ0.out))
  clear hb hls HY5 HB5
  have c0:=(HX0.out.below HBu6.out).cell 0
  have c1:=(HX0.out.below HBu6.out).cell 1
  have d0:=(HI0.out.below HBu6.out).cell 0
  have d1:=(HI0.out.below HBu6.out).cell 1
  go_wp2_with fail
  clear c0 c1 d0 d1
  refine (HKP.out _ HBu6.out).mono ?_
  rintro e u7 ⟨rfl,hb⟩
  have HBu7:=Lib.hid (HBu6.out.trans (hb.mono HBu6.out.size))
  clear hb
  go_wp2_with fail
  go_ret
  exact ⟨rfl,HB0.out.trans (HBu7.out.mono HB0.out.size)⟩
end Go.Proofs.YtgjhepblpdnkcaaGreatDoor
namespace Go.Proofs.YtgjhepblpdnkcaaGreatDoor
open Go.RowKit
set_option maxRecDepth 100000
set_option maxHeartbeats 8000000

theorem ncalls_any (w:World) (ro:Option Addr) (rc:Nat) (no:Option Addr) (nc:Nat) (NK:List Nk) (G:Gr) (hG:GrW w ro G.rules.length rc no NK.length nc NK G) (hr:G.rules.length<=140737488355328) (hn:NK.length<=140737488355328) (hkb:∀ p ∈ NK,p.1.kids.length<=140737488355328) (rule:Int):
  Calls Tryz.prog 5 #[grv ro G.rules.length rc no NK.length nc,.int .i64 rule] w fun e w'=>e=.returned (.bool true)/\Below w.heap.size w w':=by
 obtain ⟨g,hg⟩:∃ g,w.heap.size=g:=⟨_,rfl⟩
 obtain ⟨z,hz⟩:∃ z,w.alloc (.cells #[.slice ro G.rules.length rc,.slice no NK.length nc] 25)=z:=⟨_,rfl⟩
 have zb:=(Below.refl _ w).alloc (Nat.le_refl _) (.cells #[.slice ro G.rules.length rc,.slice no NK.length nc] 25)
 have z1:=hrow.new w #[.slice ro G.rules.length rc,.slice no NK.length nc] 25
 rw [hz] at zb z1
 rw [hg] at z1
 have HZ:=Lib.hid hz;have HG:=Lib.hid hg;have H1:=Lib.hid z1;have HB:=Lib.hid zb;have HGR:=Lib.hid (hG.below zb)
 clear hz hg z1 zb
 unfold grv
 have HSZ:=Lib.hid (fun v (h:GrW v ro G.rules.length rc no NK.length nc NK G)=>lsize_any v ro no G.rules.length rc NK.length nc NK G h hr hn hkb)
 obtain ⟨rn,hrn⟩:∃ n,G.rules.length=n:=⟨_,rfl⟩
 have HRN:=Lib.hid hrn
 rw [hrn] at HZ H1 HGR HSZ ⊢
 clear hrn hG hr hn hkb
 go_enter Tryz.func5,Tryz.ntmps5
 go_upto_region 1 with (fail)
 rw [HZ.out,HG.out]
 go_wp2_with (refine load_gram rfl (.tmp 2) rfl g rfl _ H1.out rfl ?_)
 refine (HSZ.out z HGR.out).mono ?_
 rintro e z3 ⟨⟨m,rfl,hm⟩,hb⟩
 have H3:=Lib.hid (H1.out.below hb);have HB3:=Lib.hid (HB.out.trans (hb.mono HB.out.size));have HGR3:=Lib.hid (HGR.out.below hb)
 clear hb H1 HB HGR HSZ HZ
 by_cases hms:m<=300
 ·have hmI:¬ (300:Int) < m:=by omega
  obtain ⟨s1,s2,s3⟩:=hm hms
  have hkl:∀ x ∈ NK,x.1.kids.length<=5000:=fun x hx=>by have:=s3 x hx;omega
  have c0:∀ y:Later z3,y.val.cell? ⟨g,0,none⟩=some (.slice ro rn rc):=fun y=>(H3.out.below y.ok).cell 0
  have c1:∀ y:Later z3,y.val.cell? ⟨g,1,none⟩=some (.slice no NK.length nc):=fun y=>(H3.out.below y.ok).cell 1
  have HC1:Hid (∀ (r:Int) (y:Later z3),Calls Tryz.prog 17 #[.agg #[.slice ro rn rc,.slice no NK.length nc],.int .i64 r] y.val fun e w'=>e=.returned (.bool true)/\Below y.val.heap.size y.val w'):=fun r y=>by
   have h:=lawcalls_any y.val ro rc no nc NK G (by rw [HRN.out];exact HGR3.out.below y.ok) (by have:=HRN.out;omega) (by omega) hkl r
   unfold grv at h
   rw [HRN.out] at h;exact h
  have HP1:Hid (∀ (v:Int) (y:Later z3),Calls Tryz.prog 13 #[.int .i64 v,.int .i64 ((rn:Int)+1)] y.val fun e w'=>e=.returned (.int .i64 (v % ((rn:Int)+1)))/\Below y.val.heap.size y.val w'):=fun v y=>pick_below y.val v ((rn:Int)+1) (by omega) (by have:=HRN.out;omega)
  have HA1:Hid (∀ y:Later z3,Calls Tryz.prog 9 #[] y.val fun e w'=>e=.returned (.bool true)/\Below y.val.heap.size y.val w'):=fun y=>nawake_any y.val
  have hrl:(rn:Int)<=300:=by have:=HRN.out;omega
  clear hm hms s1 s2 s3 hkl
  go_wp2_with fail
  refine wp_region_later (by kernel_rfl) (by kernel_rfl) ?_
  repeat (go_big_quiet_step (first | (go_at_call 17;exact Calls.later (HC1.out _ _)) | (go_at_call 13;exact Calls.later (HP1.out _ _)) | (go_at_call 9;exact Calls.later (HA1.out _))))
  refine wpQuiet_nil ?_
  intro w5 hw5
  obtain ⟨y,rfl⟩:=hw5
  have HB5:=Lib.hid (HB3.out.trans (y.ok.mono HB3.out.size))
  go_wp2_with fail
  go_ret
  exact ⟨rfl,HB5.out⟩
 ·have hmI:(300:Int) < m:=by omega
  clear hm hms
  go_wp2_with fail
  refine (nawake_any z3).mono ?_
  rintro e z4 ⟨rfl,hb⟩
  have HB4:=Lib.hid (HB3.out.trans (hb.mono HB3.out.size))
  clear hb
  go_wp2_with fail
  go_ret
  exact ⟨rfl,HB4.out⟩
end Go.Proofs.YtgjhepblpdnkcaaGreatDoor
