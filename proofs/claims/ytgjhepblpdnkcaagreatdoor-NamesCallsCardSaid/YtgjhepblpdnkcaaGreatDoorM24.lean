/- Walks and plain laws: Yd Pk Ye FQa. -/
import Derived.Test.YtgjhepblpdnkcaaGreatDoorM23
import Derived.Test.YtgjhepblpdnkcaaGreatDoorM15
import Derived.Test.YtgjhepblpdnkcaaGreatDoorM21
import Derived.Test.YtgjhepblpdnkcaaGreatDoorM09
import Derived.Deep.SlicePairs
import Derived.ProofKit
import Derived.OpenShut
import Derived.SizedLaws
import Derived.Lib.SmallJoins
namespace Go.Proofs.YtgjhepblpdnkcaaGreatDoor
open Go.RowKit
set_option maxRecDepth 100000
set_option maxHeartbeats 8000000

def aw1:List UInt8:=[65,32,60,45,32,66,32,65,59,32,66,32,60,45,32,34,98,34,59]
def aw2:List UInt8:=[65,32,60,45,32,67,59]
def aw3:List UInt8:=[65,32,60,45,32,66,59,32,65,32,60,45,32,65,59,32,66,32,60,45,32,40,41,59]
theorem aw1_res:resS (ruT aw1) (ndT aw1) (raT aw1) (naT aw1) (nmT aw1)=(0,0):=by decide +kernel
theorem aw2_res:resS (ruT aw2) (ndT aw2) (raT aw2) (naT aw2) (nmT aw2)=(5,5):=by decide +kernel
theorem aw3_res:resS (ruT aw3) (ndT aw3) (raT aw3) (naT aw3) (nmT aw3)=(8,8):=by decide +kernel
def awG:Gr:=⟨ruT aw1,resN (ruT aw1) (nmT aw1) (ndT aw1)⟩
theorem awG_c0:cldL awG 0=[0,1]:=by decide +kernel
theorem awG_c1:cldL awG 1=[]:=by decide +kernel
theorem awG_r0:recL awG 0=[0,1]:=by decide +kernel
/-- What is read, and what comes of it when it is resolved. -/
theorem res_read {w:World} {ro no ao bo co:Option Addr} {rc nc ac bc cc:Nat} {NK:List Nk} {l:List UInt8} (h:TrT w ro no ao bo co rc nc ac bc cc NK l) (hb:(readT l).1.1.length<=1000000/\(readT l).1.2.length<=1000000) (hk:∀ x ∈ ndT l,x.kids.length<=1000000) {c a:Int} (he:resS (ruT l) (ndT l) (raT l) (naT l) (nmT l)=(c,a)):
  Calls Tryz.prog 12 #[.agg #[.slice ro (ruT l).length rc,.slice no NK.length nc,.slice ao (raT l).length ac,.slice bo (naT l).length bc,.slice co (nmT l).length cc]] w fun e w'=>∃ vr vn,e=.returned (.tuple #[.agg #[vr,vn],.agg #[.int .i64 c,.int .i64 a]])/\Below w.heap.size w w'/\
   GrO w' w.heap.size vr vn (if c=0 then ruT l else []) (if c=0 then resN (ruT l) (nmT l) (ndT l) else []):=by
 refine (resolve_any w ro no ao bo co rc nc ac bc cc (ruT l) NK (raT l) (naT l) (nmT l) h.t h.k (fun x hx=>hk x.1 (h.e ▸ List.mem_map_of_mem hx)) (by rw [ruT_len];exact hb.1) (by rw [raT_len];exact hb.1) (by rw [naT_len];exact hb.2) (by rw [h.len];exact hb.2)).mono ?_
 rintro e w' ⟨vr,vn,h1,h2,h3⟩
 rw [resS_E,h.e,he] at h1 h3
 exact ⟨vr,vn,h1,h2,h3⟩
theorem same_any (w:World) (ao bo:Option Addr) (n ac bc:Nat) (t:List Int) (ha:Sv w ao n ac 1 (inc t)) (hb:Sv w bo n bc 1 (inc t)):
  Calls Tryz.prog 24 #[.slice ao n ac,.slice bo n bc] w fun r w'=>r=.returned (.bool true)/\Below w.heap.size w w':=by
 have HC:=Lib.hid (sameIn_any w ao bo n ac bc t ha hb)
 clear ha hb
 go_enter Tryz.func24,Tryz.ntmps24
 go_wp2_with fail
 refine HC.out.mono ?_
 rintro e x ⟨rfl,hb⟩
 go_wp2_with fail
 go_ret
 exact ⟨rfl,hb⟩
theorem nawake_any (w:World):Calls Tryz.prog 9 #[] w fun e w'=>e=.returned (.bool true)/\Below w.heap.size w w':=by
 have HT1:Hid (∀ x:World,Calls Tryz.prog 11 #[.string ⟨#[65,32,60,45,32,66,32,65,59,32,66,32,60,45,32,34,98,34,59]⟩] x fun e w'=>TxtP aw1 x e w'):=fun x=>text_walk ⟨#[65,32,60,45,32,66,32,65,59,32,66,32,60,45,32,34,98,34,59]⟩ x (by decide)
 have HT2:Hid (∀ x:World,Calls Tryz.prog 11 #[.string ⟨#[65,32,60,45,32,67,59]⟩] x fun e w'=>TxtP aw2 x e w'):=fun x=>text_walk ⟨#[65,32,60,45,32,67,59]⟩ x (by decide)
 have HT3:Hid (∀ x:World,Calls Tryz.prog 11 #[.string ⟨#[65,32,60,45,32,66,59,32,65,32,60,45,32,65,59,32,66,32,60,45,32,40,41,59]⟩] x fun e w'=>TxtP aw3 x e w'):=fun x=>text_walk ⟨#[65,32,60,45,32,66,59,32,65,32,60,45,32,65,59,32,66,32,60,45,32,40,41,59]⟩ x (by decide)
 go_enter Tryz.func9,Tryz.ntmps9
 go_wp2_with fail
 have HB0:=Lib.hid (Below.refl w.heap.size w)
 refine (HT1.out _).mono ?_
 rintro e x h
 obtain ⟨ro,no,ao,bo,co,rc,nc,ac,bc,cc,NK,rfl,ht,hb⟩:=h.tn (by decide)
 unfold trA
 have HTT:=Lib.hid ht;have HBX:=Lib.hid (HB0.out.trans hb)
 clear ht hb h HB0 HT1
 go_upto_region 2 with (fail)
 obtain ⟨g,hg⟩:∃ g,x.heap.size=g:=⟨_,rfl⟩
 obtain ⟨z,hz,z1,z2,zb⟩:=two_blocks x g hg #[.slice ro (ruT aw1).length rc,.slice no NK.length nc,.slice ao (raT aw1).length ac,.slice bo (naT aw1).length bc,.slice co (nmT aw1).length cc] #[.int .i64 (readT aw1).2.1,.int .i64 (readT aw1).2.2] 29 34
 rw [hz,hg]
 have HRS:=Lib.hid (res_read (HTT.out.below zb) (by decide +kernel) (by decide +kernel) aw1_res)
 have H1:=Lib.hid z1;have HBZ:=Lib.hid (HBX.out.trans (zb.mono HBX.out.size))
 clear hz hg z1 z2 zb HTT HBX
 go_wp2_with (refine load_rtree rfl (.tmp 1) rfl g rfl _ H1.out rfl ?_)
 refine HRS.out.mono ?_
 rintro e y ⟨vr,vn,rfl,hby,hgo⟩
 obtain ⟨ro1,rc1,no1,nc1,NK1,rfl,rfl,hgw⟩:=hgo.gr (by decide +kernel) (by decide +kernel)
 have HGW:=Lib.hid hgw;have HBY:=Lib.hid (HBZ.out.trans (hby.mono HBZ.out.size))
 clear hby hgo hgw HBZ HRS H1
 go_upto_region 3 with (fail)
 obtain ⟨g1,hg⟩:∃ g,y.heap.size=g:=⟨_,rfl⟩
 obtain ⟨z,hz,z1,z2,zb⟩:=two_blocks y g1 hg #[.slice ro1 (ruT aw1).length rc1,.slice no1 NK1.length nc1] #[.int .i64 0,.int .i64 0] 25 34
 have hz':(y.alloc (.cells #[.slice ro1 (ruT aw1).length rc1,.slice no1 NK1.length nc1] 25)).alloc (.cells #[.int .i64 0,.int .i64 0] 34)=z:=hz
 rw [hz',hg]
 have HB1:=Lib.hid (HBY.out.trans (zb.mono HBY.out.size));have KD1:=Lib.hid z2;have KG:=Lib.hid z1;have KW:=Lib.hid (HGW.out.below zb)
 clear hz hz' hg z1 z2 zb HGW HBY
 go_wp2_with fail
 refine (HT2.out _).mono ?_
 rintro e x h
 obtain ⟨ro,no,ao,bo,co,rc,nc,ac,bc,cc,NK,rfl,ht,hb⟩:=h.tn (by decide)
 unfold trA
 have HTT:=Lib.hid ht;have HBX:=Lib.hid (HB1.out.trans (hb.mono HB1.out.size));have KD1x:=Lib.hid (KD1.out.below hb);have KGx:=Lib.hid (KG.out.below hb);have KWx:=Lib.hid (KW.out.below hb)
 clear ht hb h HB1 HT2
 clear KD1 KG KW
 have KD1:=Lib.hid KD1x.out;clear KD1x
 have KG:=Lib.hid KGx.out;clear KGx
 have KW:=Lib.hid KWx.out;clear KWx
 go_upto_region 4 with (fail)
 obtain ⟨g,hg⟩:∃ g,x.heap.size=g:=⟨_,rfl⟩
 obtain ⟨z,hz,z1,z2,zb⟩:=two_blocks x g hg #[.slice ro (ruT aw2).length rc,.slice no NK.length nc,.slice ao (raT aw2).length ac,.slice bo (naT aw2).length bc,.slice co (nmT aw2).length cc] #[.int .i64 (readT aw2).2.1,.int .i64 (readT aw2).2.2] 29 34
 rw [hz,hg]
 have HRS:=Lib.hid (res_read (HTT.out.below zb) (by decide +kernel) (by decide +kernel) aw2_res)
 have H1:=Lib.hid z1;have HBZ:=Lib.hid (HBX.out.trans (zb.mono HBX.out.size));have KD1x:=Lib.hid (KD1.out.below zb);have KGx:=Lib.hid (KG.out.below zb);have KWx:=Lib.hid (KW.out.below zb)
 clear hz hg z1 z2 zb HTT HBX
 clear KD1 KG KW
 have KD1:=Lib.hid KD1x.out;clear KD1x
 have KG:=Lib.hid KGx.out;clear KGx
 have KW:=Lib.hid KWx.out;clear KWx
 go_wp2_with (refine load_rtree rfl (.tmp 5) rfl g rfl _ H1.out rfl ?_)
 refine HRS.out.mono ?_
 rintro e y ⟨vr,vn,rfl,hby,hgo⟩
 obtain ⟨ro2,rc2,no2,nc2,NK2,rfl,rfl,hgw⟩:=hgo.gr (by decide +kernel) (by decide +kernel)
 have HGW:=Lib.hid hgw;have HBY:=Lib.hid (HBZ.out.trans (hby.mono HBZ.out.size));have KD1x:=Lib.hid (KD1.out.below hby);have KGx:=Lib.hid (KG.out.below hby);have KWx:=Lib.hid (KW.out.below hby)
 clear hby hgo hgw HBZ HRS H1
 clear KD1 KG KW
 have KD1:=Lib.hid KD1x.out;clear KD1x
 have KG:=Lib.hid KGx.out;clear KGx
 have KW:=Lib.hid KWx.out;clear KWx
 go_upto_region 5 with (fail)
 obtain ⟨g2,hg⟩:∃ g,y.heap.size=g:=⟨_,rfl⟩
 obtain ⟨z,hz,z1,z2,zb⟩:=two_blocks y g2 hg #[.slice ro2 0 rc2,.slice no2 NK2.length nc2] #[.int .i64 5,.int .i64 5] 25 34
 have hz':(y.alloc (.cells #[.slice ro2 0 rc2,.slice no2 NK2.length nc2] 25)).alloc (.cells #[.int .i64 5,.int .i64 5] 34)=z:=hz
 rw [hz',hg]
 have HB2:=Lib.hid (HBY.out.trans (zb.mono HBY.out.size));have KD2:=Lib.hid z2;have KD1x:=Lib.hid (KD1.out.below zb);have KGx:=Lib.hid (KG.out.below zb);have KWx:=Lib.hid (KW.out.below zb)
 clear hz hz' hg z1 z2 zb HGW HBY
 clear KD1 KG KW
 have KD1:=Lib.hid KD1x.out;clear KD1x
 have KG:=Lib.hid KGx.out;clear KGx
 have KW:=Lib.hid KWx.out;clear KWx
 go_wp2_with fail
 refine (HT3.out _).mono ?_
 rintro e x h
 obtain ⟨ro,no,ao,bo,co,rc,nc,ac,bc,cc,NK,rfl,ht,hb⟩:=h.tn (by decide)
 unfold trA
 have HTT:=Lib.hid ht;have HBX:=Lib.hid (HB2.out.trans (hb.mono HB2.out.size));have KD1x:=Lib.hid (KD1.out.below hb);have KGx:=Lib.hid (KG.out.below hb);have KWx:=Lib.hid (KW.out.below hb);have KD2x:=Lib.hid (KD2.out.below hb)
 clear ht hb h HB2 HT3
 clear KD1 KG KW KD2
 have KD1:=Lib.hid KD1x.out;clear KD1x
 have KG:=Lib.hid KGx.out;clear KGx
 have KW:=Lib.hid KWx.out;clear KWx
 have KD2:=Lib.hid KD2x.out;clear KD2x
 go_upto_region 6 with (fail)
 obtain ⟨g,hg⟩:∃ g,x.heap.size=g:=⟨_,rfl⟩
 obtain ⟨z,hz,z1,z2,zb⟩:=two_blocks x g hg #[.slice ro (ruT aw3).length rc,.slice no NK.length nc,.slice ao (raT aw3).length ac,.slice bo (naT aw3).length bc,.slice co (nmT aw3).length cc] #[.int .i64 (readT aw3).2.1,.int .i64 (readT aw3).2.2] 29 34
 rw [hz,hg]
 have HRS:=Lib.hid (res_read (HTT.out.below zb) (by decide +kernel) (by decide +kernel) aw3_res)
 have H1:=Lib.hid z1;have HBZ:=Lib.hid (HBX.out.trans (zb.mono HBX.out.size));have KD1x:=Lib.hid (KD1.out.below zb);have KGx:=Lib.hid (KG.out.below zb);have KWx:=Lib.hid (KW.out.below zb);have KD2x:=Lib.hid (KD2.out.below zb)
 clear hz hg z1 z2 zb HTT HBX
 clear KD1 KG KW KD2
 have KD1:=Lib.hid KD1x.out;clear KD1x
 have KG:=Lib.hid KGx.out;clear KGx
 have KW:=Lib.hid KWx.out;clear KWx
 have KD2:=Lib.hid KD2x.out;clear KD2x
 go_wp2_with (refine load_rtree rfl (.tmp 9) rfl g rfl _ H1.out rfl ?_)
 refine HRS.out.mono ?_
 rintro e y ⟨vr,vn,rfl,hby,hgo⟩
 obtain ⟨ro3,rc3,no3,nc3,NK3,rfl,rfl,hgw⟩:=hgo.gr (by decide +kernel) (by decide +kernel)
 have HGW:=Lib.hid hgw;have HBY:=Lib.hid (HBZ.out.trans (hby.mono HBZ.out.size));have KD1x:=Lib.hid (KD1.out.below hby);have KGx:=Lib.hid (KG.out.below hby);have KWx:=Lib.hid (KW.out.below hby);have KD2x:=Lib.hid (KD2.out.below hby)
 clear hby hgo hgw HBZ HRS H1
 clear KD1 KG KW KD2
 have KD1:=Lib.hid KD1x.out;clear KD1x
 have KG:=Lib.hid KGx.out;clear KGx
 have KW:=Lib.hid KWx.out;clear KWx
 have KD2:=Lib.hid KD2x.out;clear KD2x
 go_upto_region 7 with (fail)
 obtain ⟨g3,hg⟩:∃ g,y.heap.size=g:=⟨_,rfl⟩
 obtain ⟨z,hz,z1,z2,zb⟩:=two_blocks y g3 hg #[.slice ro3 0 rc3,.slice no3 NK3.length nc3] #[.int .i64 8,.int .i64 8] 25 34
 have hz':(y.alloc (.cells #[.slice ro3 0 rc3,.slice no3 NK3.length nc3] 25)).alloc (.cells #[.int .i64 8,.int .i64 8] 34)=z:=hz
 rw [hz',hg]
 have HB3:=Lib.hid (HBY.out.trans (zb.mono HBY.out.size));have KD3:=Lib.hid z2;have KD1x:=Lib.hid (KD1.out.below zb);have KGx:=Lib.hid (KG.out.below zb);have KWx:=Lib.hid (KW.out.below zb);have KD2x:=Lib.hid (KD2.out.below zb)
 clear hz hz' hg z1 z2 zb HGW HBY
 clear KD1 KG KW KD2
 have KD1:=Lib.hid KD1x.out;clear KD1x
 have KG:=Lib.hid KGx.out;clear KGx
 have KW:=Lib.hid KWx.out;clear KWx
 have KD2:=Lib.hid KD2x.out;clear KD2x
 have hkl:∀ x ∈ NK1,x.1.kids.length<=1000000:=fun x hx=>by
  have h1:∀ y ∈ awG.nodes,y.kids.length<=1000000:=by decide +kernel
  exact h1 x.1 (KW.out.eq ▸ List.mem_map_of_mem hx)
 have hnl:NK1.length<=1000000:=by
  have h1:NK1.length=awG.nodes.length:=by have:=congrArg List.length KW.out.eq;simpa [awG] using this
  have h2:awG.nodes.length<=1000000:=by decide +kernel
  omega
 have hnl2:NK1.length<=NK1.length:=Nat.le_refl _
 have HC0:Hid (∀ v:World,GrW v ro1 (ruT aw1).length rc1 no1 NK1.length nc1 NK1 awG->Calls Tryz.prog 21 #[.agg #[.slice ro1 (ruT aw1).length rc1,.slice no1 NK1.length nc1],.int .i64 0] v fun e w'=>∃ u,e=.returned u/\Own v w' 3 1 u 2 (inc [0,1])):=fun v h=>by
  have h1:=called_any v ro1 rc1 no1 nc1 NK1 awG h hkl hnl 0
  rw [awG_c0] at h1;exact h1
 have HC1:Hid (∀ v:World,GrW v ro1 (ruT aw1).length rc1 no1 NK1.length nc1 NK1 awG->Calls Tryz.prog 21 #[.agg #[.slice ro1 (ruT aw1).length rc1,.slice no1 NK1.length nc1],.int .i64 1] v fun e w'=>∃ u,e=.returned u/\Own v w' 3 1 u 0 (inc [])):=fun v h=>by
  have h1:=called_any v ro1 rc1 no1 nc1 NK1 awG h hkl hnl 1
  rw [awG_c1] at h1;exact h1
 have HR0:Hid (∀ v:World,GrW v ro1 (ruT aw1).length rc1 no1 NK1.length nc1 NK1 awG->Calls Tryz.prog 22 #[.agg #[.slice ro1 (ruT aw1).length rc1,.slice no1 NK1.length nc1],.int .i64 0] v fun e w'=>∃ u,e=.returned u/\Own v w' 3 1 u 2 (inc [0,1])):=fun v h=>by
  have h1:=reached_any v ro1 rc1 no1 nc1 NK1 awG h hkl hnl 0
  rw [awG_r0] at h1;exact h1
 clear hkl hnl hnl2
 have a0:=KG.out.cell 0;have a1:=KG.out.cell 1;have b0:=KD1.out.cell 0;have b1:=KD1.out.cell 1
 go_wp2_with fail
 refine (HC0.out _ KW.out).mono ?_
 rintro e u ⟨v,rfl,ho⟩
 obtain ⟨ao,cap,rfl,hs⟩:=ho.sv
 have HS:=Lib.hid hs;have HB4:=Lib.hid (HB3.out.trans (ho.2.mono HB3.out.size));have KGx:=Lib.hid (KG.out.below ho.2);have KWx:=Lib.hid (KW.out.below ho.2);have KD2x:=Lib.hid (KD2.out.below ho.2);have KD3x:=Lib.hid (KD3.out.below ho.2)
 clear hs ho a0 a1 b0 b1 HC0 KG KW KD1 KD2 KD3 HB3
 go_wp2_with fail
 have hbl:=(Below.refl _ u).alloc (Nat.le_refl _) (.cells #[.int .i64 0,.int .i64 1] 3)
 refine (same_any _ ao (some ⟨u.heap.size,0,none⟩) 2 cap 2 [0,1] (HS.out.below hbl) (Sv.lit u 3 #[.int .i64 0,.int .i64 1] 2 1 (by decide) rfl)).mono ?_
 rintro e u2 ⟨rfl,hb⟩
 have hbb:=hbl.trans (hb.mono hbl.size)
 have HB5:=Lib.hid (HB4.out.trans (hbb.mono HB4.out.size));have KG2:=Lib.hid (KGx.out.below hbb);have KW2:=Lib.hid (KWx.out.below hbb);have KE2:=Lib.hid (KD2x.out.below hbb);have KE3:=Lib.hid (KD3x.out.below hbb)
 clear hb hbb hbl HS KGx KWx KD2x KD3x HB4
 have a0:=KG2.out.cell 0;have a1:=KG2.out.cell 1
 go_wp2_with fail
 refine (HC1.out _ KW2.out).mono ?_
 rintro e x ⟨v,rfl,ho⟩
 obtain ⟨ao1,cap1,rfl,-⟩:=ho.sv
 have HB6:=Lib.hid (HB5.out.trans (ho.2.mono HB5.out.size));have KG3:=Lib.hid (KG2.out.below ho.2);have KW3:=Lib.hid (KW2.out.below ho.2);have KF2:=Lib.hid (KE2.out.below ho.2);have KF3:=Lib.hid (KE3.out.below ho.2)
 clear ho a0 a1 HC1 KG2 KW2 KE2 KE3 HB5
 have a0:=KG3.out.cell 0;have a1:=KG3.out.cell 1
 go_wp2_with fail
 refine (HR0.out _ KW3.out).mono ?_
 rintro e y ⟨v,rfl,ho⟩
 obtain ⟨ao2,cap2,rfl,hs⟩:=ho.sv
 have HS:=Lib.hid hs;have HB7:=Lib.hid (HB6.out.trans (ho.2.mono HB6.out.size));have KH2:=Lib.hid (KF2.out.below ho.2);have KH3:=Lib.hid (KF3.out.below ho.2)
 clear hs ho a0 a1 HR0 KG3 KW3 KF2 KF3 HB6
 go_wp2_with fail
 have hbl:=(Below.refl _ y).alloc (Nat.le_refl _) (.cells #[.int .i64 0,.int .i64 1] 3)
 refine (same_any _ ao2 (some ⟨y.heap.size,0,none⟩) 2 cap2 2 [0,1] (HS.out.below hbl) (Sv.lit y 3 #[.int .i64 0,.int .i64 1] 2 1 (by decide) rfl)).mono ?_
 rintro e z2 ⟨rfl,hb⟩
 have hbb:=hbl.trans (hb.mono hbl.size)
 have HB8:=Lib.hid (HB7.out.trans (hbb.mono HB7.out.size));have KI2:=KH2.out.below hbb;have KI3:=KH3.out.below hbb
 clear hb hbb hbl HS KH2 KH3 HB7
 have d0:=KI2.cell 0;have d1:=KI2.cell 1;have f0:=KI3.cell 0;have f1:=KI3.cell 1
 clear KI2 KI3
 go_wp2_with fail
 go_ret
 exact ⟨rfl,HB8.out⟩
end Go.Proofs.YtgjhepblpdnkcaaGreatDoor
namespace Go.Proofs.YtgjhepblpdnkcaaGreatDoor
open Go.RowKit
set_option maxRecDepth 100000
set_option maxHeartbeats 8000000

theorem pick_any (w:World) (x n:Int) (h1:1<=n) (hn:n<=1000000):Calls Tryz.prog 13 #[.int .i64 x,.int .i64 n] w fun r w'=>r=.returned (.int .i64 (x % n))/\w=w':=by
 have hd:n ≠ 0:=by omega
 have ht:decide (n < 1)=false:=decide_eq_false (by omega)
 have hlt:=Int.tmod_lt_of_pos x (show 0 < n by omega)
 have hgt:-n < x.tmod n:=by have h:=Int.tmod_lt_of_pos (-x) (show 0 < n by omega);rw [Int.neg_tmod] at h;omega
 by_cases hx:x.tmod n < 0
 ·have hr:x % n=x.tmod n+n:=by
   have h1:=Int.tmod_eq_emod (a:=x) (b:=n)
   have h2:=Int.emod_nonneg x hd
   have h3:=Int.emod_lt_of_pos x (show 0 < n by omega)
   split at h1 <;> omega
  rw [hr]
  clear hr
  go_enter Tryz.func13,Tryz.ntmps13
  go_wp2_with fail
  go_ret
  exact ⟨rfl,rfl⟩
 ·have hr:x % n=x.tmod n:=by
   have h1:=Int.tmod_eq_emod (a:=x) (b:=n)
   have h2:=Int.emod_nonneg x hd
   have h3:=Int.emod_lt_of_pos x (show 0 < n by omega)
   split at h1 <;> omega
  have hx':0<=x.tmod n:=by omega
  rw [hr]
  clear hr
  go_enter Tryz.func13,Tryz.ntmps13
  go_wp2_with fail
  go_ret
  exact ⟨rfl,rfl⟩
end Go.Proofs.YtgjhepblpdnkcaaGreatDoor
namespace Go.Proofs.YtgjhepblpdnkcaaGreatDoor
open Go.RowKit
set_option maxRecDepth 100000
set_option maxHeartbeats 4000000

/-- So many rules, nodes, kids at most. -/
def Small (m rn nn:Nat) (NK:List (Nd×(Option Addr×Nat))):Prop:=rn<=m/\nn<=m/\∀ p ∈ NK,p.1.kids.length<=m
theorem lsize_any (w:World) (ro no:Option Addr) (rn rc nn nc:Nat) (NK:List (Nd×(Option Addr×Nat))) (G:Gr) (hg:GrW w ro rn rc no nn nc NK G) (hr:rn<=140737488355328) (hn:nn<=140737488355328) (hkb:∀ p ∈ NK,p.1.kids.length<=140737488355328):
  Calls Tryz.prog 16 #[.agg #[.slice ro rn rc,.slice no nn nc]] w fun r w'=>(∃ m:Nat,r=.returned (.int .i64 m)/\(m<=300->Small 300 rn nn NK))/\Below w.heap.size w w':=by
 have hgb:=hg.rul.bound
 have hnb:=hg.nod.sv.bound
 have hnl:=hg.nod.sv.n_eq ndc_len (by decide)
 have HN:=Lib.hid (fun w' (hb:Below w.heap.size w w')=>(hg.below hb).nod)
 have HNl:=Lib.hid hnl;have HKb:=Lib.hid hkb
 have HB0:=Lib.hid ((Below.refl w.heap.size w).alloc (Nat.le_refl _) (.cells #[.slice ro rn rc,.slice no nn nc] 25))
 have HA0:=Lib.hid (hrow.new w #[.slice ro rn rc,.slice no nn nc] 25)
 clear hg hnl hkb
 go_enter Tryz.func16,Tryz.ntmps16
 go_upto_region 1 with (fail)
 revert HB0 HA0
 generalize w.alloc _=w1
 generalize hh0:w.heap.size=h0
 intro HB0 HA0
 have HB1:Hid (Below w.heap.size w w1):=by rw [hh0];exact HB0.out
 clear HB0 hh0
 obtain ⟨a0,a1⟩:=(HA0.out).c2
 go_wp2_with fail
 go_loopw [3,4] (fun v i wr=>∃ k m:Nat,k<=nn/\i=.int .i64 k/\v=.int .i64 m/\wr=w1/\rn+nn<=m/\m<=422212465065985/\Hid (∀ p ∈ NK.take k,p.1.kids.length<=m)) (fun _ i _=>nn - (intOf i).toNat)
 case atStart=>exact ⟨0,rn+nn,by omega,rfl,by simp,rfl,by omega,by omega,Lib.hid (fun p hp=>by simp at hp)⟩
 case round=>
  obtain ⟨k,m,hk,rfl,rfl,rfl,hm,hmb,HK⟩:=hrel
  by_cases hlt:k < nn
  ·have hlt':(k:Int) < nn:=by omega
   by_cases hms:m<=300
   ·have hms':(m:Int)<=300:=by omega
    have hkl:k < NK.length:=by have:=HNl.out;omega
    have HTk:=Lib.hid (show NK.take (k+1)=NK.take k ++ [NK[k]] from List.take_succ_eq_append_getElem hkl)
    have hb:=HKb.out _ (List.getElem_mem hkl)
    obtain ⟨a,rfl,-,-,-,-,-,-,-,-,a8⟩:=(HN.out _ HB1.out).sv.nd9 hkl
    generalize NK[k]=p at *
    obtain ⟨x,ko,kc⟩:=p
    simp only [] at a8 hb HTk
    clear hkl
    go_wp2_with fail
    go_roundw
    case rel=>exact ⟨k+1,m+x.kids.length,by omega,by go_num,by go_num,trivial,by omega,by omega,fun q hq=>by
     rw [HTk.out] at hq
     rcases List.mem_append.1 hq with hq | hq
     ·have:=HK.out q hq;omega
     ·simp only [List.mem_singleton] at hq;subst hq;simp only [];omega⟩
    case measure=>simp [intOf];omega
   ·have hms':¬ (m:Int)<=300:=by omega
    go_wp2_with fail
    go_ret
    exact ⟨⟨m,rfl,fun h=>absurd h hms⟩,HB1.out⟩
  ·have hke:k=nn:=by omega
   subst hke
   go_wp2_with fail
   go_ret
   exact ⟨⟨m,rfl,fun h=>⟨by omega,by omega,fun p hp=>by have:=HK.out p (by rw [List.take_of_length_le (by have:=HNl.out;omega)];exact hp);omega⟩⟩,HB1.out⟩

theorem has_any (w:World) (ao:Option Addr) (n cap:Nat) (l:List Int) (h:Sv w ao n cap 1 (inc l)) (x:Int):
    Calls Tryz.prog 23 #[.slice ao n cap,.int .i64 x] w fun r w'=>r=.returned (.bool (hasB l x))/\Below w.heap.size w w':=by
  have hln:=h.int_len
  have hb:=h.bound
  have HS:=Lib.hid h;have HL:=Lib.hid hln
  clear h hln
  go_enter Tryz.func23,Tryz.ntmps23
  go_wp2_with fail
  go_loopw [5,6] (fun v i wr=>∃ k:Nat,k<=n/\i=.int .i64 k/\v=.bool (hasB (l.take k) x)/\wr=w) (fun _ i _=>n - (intOf i).toNat)
  case atStart=>exact ⟨0,Nat.zero_le _,rfl,rfl,rfl⟩
  case round=>
    obtain ⟨k,hk,rfl,rfl,rfl⟩:=hrel
    by_cases hlt:k < n
    · have hltI:(k:Int) < n:=by omega
      have hkl:k < l.length:=by have:=HL.out;omega
      have HT:Hid (hasB (l.take (k+1)) x=(hasB (l.take k) x || bt l k == x)):=by
        unfold Hid
        rw [List.take_succ_eq_append_getElem hkl,hasB_append,bt_get hkl]
      obtain ⟨a,rfl,hc⟩:=HS.out.intc k hkl
      obtain ⟨b,hbb⟩:∃ b,hasB (l.take k) x=b:=⟨_,rfl⟩
      obtain ⟨c,hcc⟩:∃ c,bt l k=c:=⟨_,rfl⟩
      rw [hbb,hcc] at HT
      rw [hcc] at hc
      rw [hbb]
      clear hbb hcc hkl
      cases b with
      | true=>
        go_wp2_with fail
        go_roundw
        case rel=>exact ⟨k+1,by omega,by go_num,by rw [HT.out];rfl,trivial⟩
        case measure=>simp [intOf];omega
      | false=>
        go_wp2_with fail
        go_roundw
        case rel=>exact ⟨k+1,by omega,by go_num,by rw [HT.out];rfl,trivial⟩
        case measure=>simp [intOf];omega
    · have hltI:¬ (k:Int) < n:=by omega
      obtain rfl:k=n:=by omega
      have HT:Hid (hasB (l.take k) x=hasB l x):=by unfold Hid;rw [List.take_of_length_le (by have:=HL.out;omega)]
      go_wp2_with fail
      go_ret
      exact ⟨by rw [HT.out];rfl,Below.refl _ _⟩
theorem callers_not (w:World) (ro:Option Addr) (rc:Nat) (no:Option Addr) (nc:Nat) (NK:List Nk) (G:Gr) (hG:GrW w ro G.rules.length rc no NK.length nc NK G) (hkl:∀ x ∈ NK,x.1.kids.length<=1000000) (hnl:NK.length<=1000000) (rule:Int) (hok:okR G rule=false):
    Calls Tryz.prog 20 #[grv ro G.rules.length rc no NK.length nc,.int .i64 rule] w fun e w'=>e=.returned (.slice none 0 0)/\Below w.heap.size w w':=by
  obtain ⟨g,hg⟩:∃ g,w.heap.size=g:=⟨_,rfl⟩
  obtain ⟨z,hz,z1,z2,zb⟩:=three0 w g hg #[.slice ro G.rules.length rc,.slice no NK.length nc] #[.int .i64 rule] 25 3
  have HOF:=Lib.hid (ofg_any z ro rc no nc NK G (hG.below zb) hkl hnl rule)
  have HZ:=Lib.hid hz;have HG:=Lib.hid hg;have H1:=Lib.hid z1;have HB:=Lib.hid zb
  have c2:=z2.cell 0
  clear z2
  clear hz hg z1 zb hG hkl hnl
  unfold grv at HOF ⊢
  obtain ⟨rn,hrn⟩:∃ n,G.rules.length=n:=⟨_,rfl⟩
  unfold OfgP at HOF
  rw [hrn] at HZ H1 HOF ⊢
  clear hrn
  go_enter Tryz.func20,Tryz.ntmps20
  go_upto_region 1 with (fail)
  rw [HZ.out,HG.out]
  go_wp2_with (refine load_gram rfl (.tmp 2) rfl g rfl _ H1.out rfl ?_)
  refine HOF.out.mono ?_
  rw [hok]
  rintro e x ⟨hbx,he⟩
  rw [if_neg (by decide)] at he
  subst he
  have HB2:=Lib.hid (HB.out.trans (hbx.mono HB.out.size))
  have hal:=Lib.hid ((Below.refl _ x).alloc (Nat.le_refl _) (.cells #[.slice none 0 0] 108))
  clear hbx c2
  go_wp2_with fail
  go_ret
  exact ⟨rfl,HB2.out.trans (hal.out.mono HB2.out.size)⟩
theorem called_not (w:World) (ro:Option Addr) (rc:Nat) (no:Option Addr) (nc:Nat) (NK:List Nk) (G:Gr) (hG:GrW w ro G.rules.length rc no NK.length nc NK G) (hkl:∀ x ∈ NK,x.1.kids.length<=1000000) (hnl:NK.length<=1000000) (rule:Int) (hok:okR G rule=false):
    Calls Tryz.prog 21 #[grv ro G.rules.length rc no NK.length nc,.int .i64 rule] w fun e w'=>e=.returned (.slice none 0 0)/\Below w.heap.size w w':=by
  obtain ⟨g,hg⟩:∃ g,w.heap.size=g:=⟨_,rfl⟩
  obtain ⟨z,hz,z1,z2,zb⟩:=three0 w g hg #[.slice ro G.rules.length rc,.slice no NK.length nc] #[.int .i64 rule] 25 3
  have HOF:=Lib.hid (ofg_any z ro rc no nc NK G (hG.below zb) hkl hnl rule)
  have HZ:=Lib.hid hz;have HG:=Lib.hid hg;have H1:=Lib.hid z1;have HB:=Lib.hid zb
  have c2:=z2.cell 0
  clear z2
  clear hz hg z1 zb hG hkl hnl
  unfold grv at HOF ⊢
  obtain ⟨rn,hrn⟩:∃ n,G.rules.length=n:=⟨_,rfl⟩
  unfold OfgP at HOF
  rw [hrn] at HZ H1 HOF ⊢
  clear hrn
  go_enter Tryz.func21,Tryz.ntmps21
  go_upto_region 1 with (fail)
  rw [HZ.out,HG.out]
  go_wp2_with (refine load_gram rfl (.tmp 2) rfl g rfl _ H1.out rfl ?_)
  refine HOF.out.mono ?_
  rw [hok]
  rintro e x ⟨hbx,he⟩
  rw [if_neg (by decide)] at he
  subst he
  have HB2:=Lib.hid (HB.out.trans (hbx.mono HB.out.size))
  have hal:=Lib.hid ((Below.refl _ x).alloc (Nat.le_refl _) (.cells #[.slice none 0 0] 108))
  clear hbx c2
  go_wp2_with fail
  go_ret
  exact ⟨rfl,HB2.out.trans (hal.out.mono HB2.out.size)⟩
theorem reached_not (w:World) (ro:Option Addr) (rc:Nat) (no:Option Addr) (nc:Nat) (NK:List Nk) (G:Gr) (hG:GrW w ro G.rules.length rc no NK.length nc NK G) (hkl:∀ x ∈ NK,x.1.kids.length<=1000000) (hnl:NK.length<=1000000) (rule:Int) (hok:okR G rule=false):
    Calls Tryz.prog 22 #[grv ro G.rules.length rc no NK.length nc,.int .i64 rule] w fun e w'=>e=.returned (.slice none 0 0)/\Below w.heap.size w w':=by
  obtain ⟨g,hg⟩:∃ g,w.heap.size=g:=⟨_,rfl⟩
  obtain ⟨z,hz⟩:∃ z,w.alloc (.cells #[.slice ro G.rules.length rc,.slice no NK.length nc] 25)=z:=⟨_,rfl⟩
  have zb:=(Below.refl _ w).alloc (Nat.le_refl _) (.cells #[.slice ro G.rules.length rc,.slice no NK.length nc] 25)
  have z1:=hrow.new w #[.slice ro G.rules.length rc,.slice no NK.length nc] 25
  rw [hz] at zb z1
  rw [hg] at z1
  have HOF:=Lib.hid (ofg_any z ro rc no nc NK G (hG.below zb) hkl hnl rule)
  have HZ:=Lib.hid hz;have HG:=Lib.hid hg;have H1:=Lib.hid z1;have HB:=Lib.hid zb
  clear hz hg z1 zb hG hkl hnl
  unfold grv at HOF ⊢
  obtain ⟨rn,hrn⟩:∃ n,G.rules.length=n:=⟨_,rfl⟩
  unfold OfgP at HOF
  rw [hrn] at HZ H1 HOF ⊢
  clear hrn
  go_enter Tryz.func22,Tryz.ntmps22
  go_upto_region 1 with (fail)
  rw [HZ.out,HG.out]
  go_wp2_with (refine load_gram rfl (.tmp 2) rfl g rfl _ H1.out rfl ?_)
  refine HOF.out.mono ?_
  rw [hok]
  rintro e x ⟨hbx,he⟩
  rw [if_neg (by decide)] at he
  subst he
  have HB2:=Lib.hid (HB.out.trans (hbx.mono HB.out.size))
  clear hbx 
  go_wp2_with fail
  go_ret
  exact ⟨rfl,HB2.out⟩
end Go.Proofs.YtgjhepblpdnkcaaGreatDoor
namespace Go.Proofs.YtgjhepblpdnkcaaGreatDoor
open Go.RowKit Go.ChangeShapes Go.WideShapes Go.ChangeAt Go.Deep Go.Joins
set_option maxRecDepth 100000

theorem weightsAll_mem {H:Type} {P:Program} {e:TypeId} {n:Nat}:∀ (l:List (DataW H)) (d:DataW H),d ∈ l->n ∈ d.weights P e->n ∈ DataW.weightsAll P e l
 | [],d,h,_=>by cases h
 | x :: r,d,h,hn=>by
  simp only [DataW.weightsAll,List.mem_append]
  rcases List.mem_cons.1 h with rfl | h
  ·exact .inl hn
  ·exact .inr (weightsAll_mem r d h hn)

section
variable {H:Type} {enc:TypeId×Value->H} {w:World} {base:Nat} {spare:Nat->Bool} {held:Bool}

theorem read_ints {fuel:Nat} {c:Value} {x:DataW H×List MemPlace} (h:DataW.trod enc Tryz.prog w base spare held fuel 26 [c]=some x):
  ∃ ao cap W,c=.slice ao W.length cap/\Sv w ao W.length cap 1 (inc W)/\(W.length=0∨∃ elems rest,x.1=.slice elems rest/\W.length<=elems.length+rest.length)/\∀ n ∈ W,-9223372036854775808<=n/\n<=9223372036854775807:=by
 rcases open_ints Tryz.underlying26 Tryz.underlying3 (by kernel_rfl) h with ⟨hcs,hx⟩ | ⟨a,len,cap,zs,hcs,_,hl,hm,hz,hx,hcell,hwz⟩
 ·simp only [List.cons.injEq,and_true] at hcs
  subst hcs
  exact ⟨none,0,[],rfl,Sv.nil w 1,.inl rfl,by simp⟩
 ·simp only [List.cons.injEq,and_true] at hcs
  subst hcs
  have hzl:len<=zs.length:=by rw [hz];split <;> omega
  have hln:(zs.take len).length=len:=by simp;omega
  refine ⟨some a,cap,zs.take len,by rw [hln],?_,?_,?_⟩
  ·rw [hln]
   refine ⟨by simp [inc];omega,hl,hm,(fun h=>nomatch h),fun j hj=>⟨a,rfl,?_⟩⟩
   simp only [inc,List.length_map,hln] at hj
   rw [hcell j (by omega)]
   simp [inc,List.getD_eq_getElem?_getD,show j < len by omega,show j < zs.length by omega]
  ·refine .inr ⟨_,_,by rw [hx],?_⟩
   simp only [lits,List.length_map,List.length_take,List.length_drop]
   omega
  ·exact fun n hn=>bounds_i64 (hwz n (List.mem_of_mem_take hn))

def ClsN (x:Nd):Prop:=(0<=x.c0/\x.c0 < 2 ^ 64)/\(0<=x.c1/\x.c1 < 2 ^ 64)/\(0<=x.c2/\x.c2 < 2 ^ 64)/\(0<=x.c3/\x.c3 < 2 ^ 64)
theorem read_node {fuel:Nat} {cs:List Value} {x:DataW H×List MemPlace} (h:DataW.trod enc Tryz.prog w base spare held fuel 45 cs=some x):
  ∃ p:Nd×(Option Addr×Nat),cs=ndc p/\Sv w p.2.1 p.1.kids.length p.2.2 1 (inc p.1.kids)/\p.1.text.size<=9223372036854775807/\ClsN p.1/\
   ((∀ n ∈ x.1.weights Tryz.prog 45,n<=reachBytes)->p.1.kids.length<=140737488355328):=by
 obtain ⟨xs,m,_,rfl,hlen,hxl,hf⟩:=DataW.trod_struct Tryz.underlying45 h
 have hc9:Tryz.prog.cellsOf 45=9:=by kernel_rfl
 rw [hc9] at hlen
 have e1:Tryz.prog.cellsOf 3=1:=by kernel_rfl
 have e2:Tryz.prog.cellsOf 43=4:=by kernel_rfl
 have e3:Tryz.prog.cellsOf 9=1:=by kernel_rfl
 have e4:Tryz.prog.cellsOf 26=1:=by kernel_rfl
 have e5:Tryz.prog.cellsOf 40=1:=by kernel_rfl
 have e6:Tryz.prog.cellsOf 41=1:=by kernel_rfl
 match xs,hxl,cs,hlen with
 | [y0,y1,y2,y3,y4,y5],_,[v0,v1,v2,v3,v4,v5,v6,v7,v8],_=>
  have g0:DataW.trod enc Tryz.prog w base spare held m 40 (([v0,v1,v2,v3,v4,v5,v6,v7,v8].drop 0).take (Tryz.prog.cellsOf 40))=some y0:=hf 0 _ rfl
  rw [e5] at g0
  have g1:DataW.trod enc Tryz.prog w base spare held m 43 (([v0,v1,v2,v3,v4,v5,v6,v7,v8].drop 1).take (Tryz.prog.cellsOf 43))=some y1:=hf 1 _ rfl
  rw [e2] at g1
  have g2:DataW.trod enc Tryz.prog w base spare held m 9 (([v0,v1,v2,v3,v4,v5,v6,v7,v8].drop 5).take (Tryz.prog.cellsOf 9))=some y2:=hf 2 _ rfl
  rw [e3] at g2
  have g3:DataW.trod enc Tryz.prog w base spare held m 3 (([v0,v1,v2,v3,v4,v5,v6,v7,v8].drop 6).take (Tryz.prog.cellsOf 3))=some y3:=hf 3 _ rfl
  rw [e1] at g3
  have g4:DataW.trod enc Tryz.prog w base spare held m 3 (([v0,v1,v2,v3,v4,v5,v6,v7,v8].drop 7).take (Tryz.prog.cellsOf 3))=some y4:=hf 4 _ rfl
  rw [e1] at g4
  have g5:DataW.trod enc Tryz.prog w base spare held m 26 (([v0,v1,v2,v3,v4,v5,v6,v7,v8].drop 8).take (Tryz.prog.cellsOf 26))=some y5:=hf 5 _ rfl
  rw [e4] at g5
  have g0:DataW.trod enc Tryz.prog w base spare held m 40 [v0]=some y0:=g0
  have g1:DataW.trod enc Tryz.prog w base spare held m 43 [v1,v2,v3,v4]=some y1:=g1
  have g2:DataW.trod enc Tryz.prog w base spare held m 9 [v5]=some y2:=g2
  have g3:DataW.trod enc Tryz.prog w base spare held m 3 [v6]=some y3:=g3
  have g4:DataW.trod enc Tryz.prog w base spare held m 3 [v7]=some y4:=g4
  have g5:DataW.trod enc Tryz.prog w base spare held m 26 [v8]=some y5:=g5
  obtain ⟨k,hk,_,_⟩:=DataW.trod_int Tryz.underlying40 g0
  obtain ⟨zs,m',_,_,_,hzl,hz⟩:=DataW.trod_array Tryz.underlying43 g1
  obtain ⟨s,hs,_,hsz⟩:=DataW.trod_string Tryz.underlying9 g2
  obtain ⟨ru,hru,_,_⟩:=DataW.trod_int Tryz.underlying3 g3
  obtain ⟨le,hle,_,_⟩:=DataW.trod_int Tryz.underlying3 g4
  obtain ⟨ao,cap,W,hv,hsv,hwt,_⟩:=read_ints g5
  match zs,hzl with
  | [z0,z1,z2,z3],_=>
   have k0:DataW.trod enc Tryz.prog w base spare held m' 41 (([v1,v2,v3,v4].drop (0 * Tryz.prog.cellsOf 41)).take (Tryz.prog.cellsOf 41))=some z0:=hz 0 (by decide)
   rw [e6] at k0
   have k1:DataW.trod enc Tryz.prog w base spare held m' 41 (([v1,v2,v3,v4].drop (1 * Tryz.prog.cellsOf 41)).take (Tryz.prog.cellsOf 41))=some z1:=hz 1 (by decide)
   rw [e6] at k1
   have k2:DataW.trod enc Tryz.prog w base spare held m' 41 (([v1,v2,v3,v4].drop (2 * Tryz.prog.cellsOf 41)).take (Tryz.prog.cellsOf 41))=some z2:=hz 2 (by decide)
   rw [e6] at k2
   have k3:DataW.trod enc Tryz.prog w base spare held m' 41 (([v1,v2,v3,v4].drop (3 * Tryz.prog.cellsOf 41)).take (Tryz.prog.cellsOf 41))=some z3:=hz 3 (by decide)
   rw [e6] at k3
   have k0:DataW.trod enc Tryz.prog w base spare held m' 41 [v1]=some z0:=k0
   have k1:DataW.trod enc Tryz.prog w base spare held m' 41 [v2]=some z1:=k1
   have k2:DataW.trod enc Tryz.prog w base spare held m' 41 [v3]=some z2:=k2
   have k3:DataW.trod enc Tryz.prog w base spare held m' 41 [v4]=some z3:=k3
   obtain ⟨c0,q0,_,w0⟩:=DataW.trod_int Tryz.underlying41 k0
   obtain ⟨c1,q1,_,w1⟩:=DataW.trod_int Tryz.underlying41 k1
   obtain ⟨c2,q2,_,w2⟩:=DataW.trod_int Tryz.underlying41 k2
   obtain ⟨c3,q3,_,w3⟩:=DataW.trod_int Tryz.underlying41 k3
   simp only [List.cons.injEq,and_true] at hk hs hru hle q0 q1 q2 q3
   subst hk hs hru hle q0 q1 q2 q3 hv
   have w0:=bounds_u64 w0
   have w1:=bounds_u64 w1
   have w2:=bounds_u64 w2
   have w3:=bounds_u64 w3
   refine ⟨(⟨k,c0,c1,c2,c3,s,ru,le,W⟩,(ao,cap)),rfl,hsv,hsz,⟨by simp only [];omega,by simp only [];omega,by simp only [];omega,by simp only [];omega⟩,fun hw=>?_⟩
   rcases hwt with h0 | ⟨el,sp,he,hl⟩
   ·simp only [];omega
   ·have hb8:Tryz.prog.bytesOf 3=8:=by kernel_rfl
    have h1:(el.length+sp.length) * Tryz.prog.bytesOf 3 ∈ (DataW.slice el sp:DataW H).weights Tryz.prog 26:=by
     simp only [DataW.weights,Tryz.underlying26,List.mem_cons,true_or]
    have h2:=hw _ (by
     simp only [DataW.weights,Tryz.underlying45]
     exact DataW.weights_mem_each (j:=5) (t:=26) rfl (by simp [he]) _ h1)
    rw [hb8] at h2
    simp only [reachBytes] at h2
    simp only []
    omega

theorem read_rules {fuel:Nat} {c:Value} {x:DataW H×List MemPlace} (h:DataW.trod enc Tryz.prog w base spare held fuel 22 [c]=some x):
  ∃ (ao:Option Addr) (len cap:Nat) (R:List Ru),c=.slice ao len cap/\Sv w ao len cap 2 (R.flatMap ruc)/\(∀ r ∈ R,r.name.size<=9223372036854775807)/\((∀ n ∈ x.1.weights Tryz.prog 22,n<=reachBytes)->len<=140737488355328):=by
 rcases open_slice_pairs Tryz.underlying22 Tryz.underlying49 (by kernel_rfl) rfl rfl (by kernel_rfl) (by kernel_rfl) h with ⟨hcs,_⟩ | ⟨a,len,cap,m,n,V0,V1,D0,D1,P0,P1,hcs,_,hl,hm,hmm,hx,hi⟩
 ·simp only [List.cons.injEq,and_true] at hcs
  subst hcs
  exact ⟨none,0,0,[],rfl,Sv.nil w 2,by simp,fun _=>by omega⟩
 ·simp only [List.cons.injEq,and_true] at hcs
  subst hcs
  have hlm:len<=m:=by rw [hmm];split <;> omega
  have each:∀ i,∃ q:Ru,i < len->w.cell? (a.add (i * 2))=some (.string q.name)/\w.cell? (a.add (i * 2+1))=some (.int .i64 q.body)/\q.name.size<=9223372036854775807:=by
   intro i
   by_cases hlt:i < len
   ·obtain ⟨h0,h1,h2,h3⟩:=hi i (by omega)
    obtain ⟨s,hs,_,hsz⟩:=DataW.trod_string Tryz.underlying9 h2
    obtain ⟨b,hb,_⟩:=DataW.trod_int Tryz.underlying3 h3
    simp only [List.cons.injEq,and_true] at hs hb
    exact ⟨⟨s,b⟩,fun _=>⟨by rw [h0,hs],by rw [h1,hb],hsz⟩⟩
   ·exact ⟨⟨⟨#[]⟩,0⟩,fun h=>absurd h hlt⟩
  let q:=fun i=>Classical.choose (each i)
  have hq:∀ i,i < len->_:=fun i=>Classical.choose_spec (each i)
  refine ⟨some a,len,cap,(List.range len).map q,rfl,⟨by rw [fl_len ruc_len];simp,hl,hm,(fun h=>nomatch h),fun j hj=>⟨a,rfl,?_⟩⟩,?_,fun hw=>?_⟩
  ·rw [fl_len ruc_len] at hj
   simp only [List.length_map,List.length_range] at hj
   have hk:j / 2 < len:=by omega
   have e:((List.range len).map q)[j / 2]'(by simpa using hk)=q (j / 2):=by simp
   obtain ⟨h0,h1,_⟩:=hq (j / 2) hk
   have hg:∀ r,r < 2->(((List.range len).map q).flatMap ruc)[j / 2 * 2+r]?=(ruc (q (j / 2)))[r]?:=fun r hr=>by
    rw [fl_get ruc_len _ (j / 2) r (by simpa using hk) hr,e]
   rcases (show j=j / 2 * 2+0∨j=j / 2 * 2+1 by omega) with hj' | hj'
   ·rw [hj',hg 0 (by omega)];exact h0
   ·rw [hj',hg 1 (by omega)];exact h1
  ·intro r hr
   obtain ⟨i,h1,rfl⟩:=List.mem_map.1 hr
   exact (hq i (List.mem_range.1 h1)).2.2
  ·have hb:Tryz.prog.bytesOf 49=24:=by kernel_rfl
   have h1:=hw ((((List.range len).map fun i=>(.agg [D0 i,D1 i]:DataW H)).length+((List.range (m - len)).map fun j=>(.agg [D0 (len+j),D1 (len+j)]:DataW H)).length) * Tryz.prog.bytesOf 49) (by
    rw [hx];simp only [DataW.weights,Tryz.underlying22,List.mem_cons,true_or])
   rw [hb] at h1
   simp only [List.length_map,List.length_range,reachBytes] at h1
   omega

theorem read_nodes {fuel:Nat} {c:Value} {x:DataW H×List MemPlace} (h:DataW.trod enc Tryz.prog w base spare held fuel 23 [c]=some x):
  ∃ (ao:Option Addr) (len cap:Nat) (NK:List (Nd×(Option Addr×Nat))),c=.slice ao len cap/\NdW w ao len cap NK/\(∀ p ∈ NK,ClsN p.1)/\((∀ n ∈ x.1.weights Tryz.prog 23,n<=reachBytes)->len<=140737488355328/\∀ p ∈ NK,p.1.kids.length<=140737488355328):=by
 rcases open_slice Tryz.underlying23 h with ⟨hcs,_⟩ | ⟨a,len,cap,m,n,D,Pl,hcs,_,hl,hm,hmm,hx,hi⟩
 ·simp only [List.cons.injEq,and_true] at hcs
  subst hcs
  exact ⟨none,0,0,[],rfl,⟨Sv.nil w 9,by simp,by simp⟩,by simp,fun _=>⟨by omega,by simp⟩⟩
 ·simp only [List.cons.injEq,and_true] at hcs
  subst hcs
  have hlm:len<=m:=by rw [hmm];split <;> omega
  have hc9:Tryz.prog.cellsOf 45=9:=by kernel_rfl
  have each:∀ i,∃ q:Nd×(Option Addr×Nat),i < len->(∀ j v,(ndc q)[j]?=some v->w.cell? (a.add (i * 9+j))=some v)/\Sv w q.2.1 q.1.kids.length q.2.2 1 (inc q.1.kids)/\q.1.text.size<=9223372036854775807/\ClsN q.1/\
    ((∀ n ∈ (D i).weights Tryz.prog 45,n<=reachBytes)->q.1.kids.length<=140737488355328):=by
   intro i
   by_cases hlt:i < len
   ·obtain ⟨cs',h1,h2⟩:=hi i (by omega)
    rw [hc9] at h1
    obtain ⟨_,hln,hcell⟩:=World.cells?_some h1
    obtain ⟨p,rfl,r1,r2,r3,r4⟩:=read_node h2
    refine ⟨p,fun _=>⟨fun j v hj=>?_,r1,r2,r3,r4⟩⟩
    have hj9:j < 9:=by have:=(List.getElem?_eq_some_iff.1 hj).1;rw [ndc_len] at this;exact this
    rw [← add_add,hcell j hj9];exact hj
   ·exact ⟨(⟨0,0,0,0,0,⟨#[]⟩,0,0,[]⟩,(none,0)),fun h=>absurd h hlt⟩
  let q:=fun i=>Classical.choose (each i)
  have hq:∀ i,i < len->_:=fun i=>Classical.choose_spec (each i)
  refine ⟨some a,len,cap,(List.range len).map q,rfl,⟨⟨by rw [fl_len ndc_len];simp,hl,hm,(fun h=>nomatch h),fun j hj=>⟨a,rfl,?_⟩⟩,?_,?_⟩,?_,fun hw=>⟨?_,?_⟩⟩
  ·rw [fl_len ndc_len] at hj
   simp only [List.length_map,List.length_range] at hj
   have hk:j / 9 < len:=by omega
   have hr:j % 9 < 9:=Nat.mod_lt _ (by decide)
   have hj':j=j / 9 * 9+j % 9:=by omega
   have e:((List.range len).map q)[j / 9]'(by simpa using hk)=q (j / 9):=by simp
   have hg:(((List.range len).map q).flatMap ndc)[j]?=(ndc (q (j / 9)))[j % 9]?:=by
    conv=>lhs;rw [hj']
    rw [fl_get ndc_len _ (j / 9) (j % 9) (by simpa using hk) hr,e]
   rw [hg]
   have h9:j % 9 < (ndc (q (j / 9))).length:=by rw [ndc_len];exact hr
   have:=(hq (j / 9) hk).1 (j % 9) _ (List.getElem?_eq_getElem h9)
   rw [← hj'] at this
   rw [this,List.getElem?_eq_getElem h9]
  ·intro p hp
   obtain ⟨i,h1,rfl⟩:=List.mem_map.1 hp
   exact (hq i (List.mem_range.1 h1)).2.1
  ·intro p hp
   obtain ⟨i,h1,rfl⟩:=List.mem_map.1 hp
   exact (hq i (List.mem_range.1 h1)).2.2.1
  ·intro p hp
   obtain ⟨i,h1,rfl⟩:=List.mem_map.1 hp
   exact (hq i (List.mem_range.1 h1)).2.2.2.1
  ·have hb:Tryz.prog.bytesOf 45=96:=by kernel_rfl
   have h1:=hw ((((List.range len).map D).length+((List.range (m - len)).map fun j=>D (len+j)).length) * Tryz.prog.bytesOf 45) (by
    rw [hx];simp only [DataW.weights,Tryz.underlying23,List.mem_cons,true_or])
   rw [hb] at h1
   simp only [List.length_map,List.length_range,reachBytes] at h1
   omega
  ·intro p hp
   obtain ⟨i,h1,rfl⟩:=List.mem_map.1 hp
   have hi':=List.mem_range.1 h1
   refine (hq i hi').2.2.2.2 (fun n hn=>hw n ?_)
   rw [hx]
   simp only [DataW.weights,Tryz.underlying23,List.mem_cons,List.mem_append]
   exact .inr (.inl (weightsAll_mem _ _ (List.mem_map.2 ⟨i,h1,rfl⟩) hn))

theorem read_gram {r:Reach} {b0:Nat} {v:Value} {d:DataW H} {ps:List MemPlace} (hv:Value.okWide Tryz.prog w r b0 25 v) (h:DataW.Trod enc Tryz.prog w base spare held 25 v d ps) (hw:∀ n ∈ d.weights Tryz.prog 25,n<=reachBytes):
  ∃ ro rn rc no nn nc NK G,v=.agg #[.slice ro rn rc,.slice no nn nc]/\GrW w ro rn rc no nn nc NK G/\(∀ x ∈ G.nodes,ClsN x)/\rn<=140737488355328/\nn<=140737488355328/\∀ p ∈ NK,p.1.kids.length<=140737488355328:=by
 obtain ⟨v0,v1,y0,y1,n,rfl,rfl,_,h0,h1⟩:=open_agg2 Tryz.underlying25 (by kernel_rfl) (by kernel_rfl) hv h
 obtain ⟨ro,rn,rc,R,rfl,r1,r2,r3⟩:=read_rules h0
 obtain ⟨no,nn,nc,NK,rfl,n1,n2,n3⟩:=read_nodes h1
 have hw0:=fun n hn=>hw n (by
  simp only [DataW.weights,Tryz.underlying25]
  exact DataW.weights_mem_each (j:=0) (t:=22) (d:=y0.1) rfl rfl n hn)
 have hw1:=fun n hn=>hw n (by
  simp only [DataW.weights,Tryz.underlying25]
  exact DataW.weights_mem_each (j:=1) (t:=23) (d:=y1.1) rfl rfl n hn)
 have h3:=n3 hw1
 exact ⟨ro,rn,rc,no,nn,nc,NK,⟨R,NK.map (·.1)⟩,rfl,⟨r1,r2,n1,rfl⟩,(fun x hx=>by
  obtain ⟨p,hp,rfl⟩:=List.mem_map.1 hx
  exact n2 p hp),r3 hw0,h3.1,h3.2⟩
end
end Go.Proofs.YtgjhepblpdnkcaaGreatDoor
