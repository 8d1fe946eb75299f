/- Walks and plain laws: Gm Ya Lg Lz Yc. -/
import Derived.Test.YtgjhepblpdnkcaaGreatDoorM20
import Derived.Test.YtgjhepblpdnkcaaGreatDoorM22
import Derived.StillTailTactics
import Derived.Test.YtgjhepblpdnkcaaGreatDoorM10
import Derived.Test.YtgjhepblpdnkcaaGreatDoorM08
import Derived.Test.YtgjhepblpdnkcaaGreatDoorM14
namespace Go.Proofs.YtgjhepblpdnkcaaGreatDoor
open Go.RowKit Go.ChangeMaps Go.Shelf
set_option maxRecDepth 100000
set_option maxHeartbeats 8000000

theorem tri0 (y:World) (g:Nat) (hg:y.heap.size=g) (a b c:Array Value) (ta tb tc:TypeId):∃ z,((y.alloc (.cells a ta)).alloc (.cells b tb)).alloc (.cells c tc)=z/\hrow z g a ta/\hrow z (g+1) b tb/\hrow z (g+1+1) c tc/\Below y.heap.size y z:=by
 obtain ⟨z,hz,z1,z2,zb⟩:=three0 y g hg a b ta tb
 have hal:=(Below.refl z.heap.size z).alloc (Nat.le_refl _) (.cells c tc)
 have hs:z.heap.size=g+2:=by rw [← hz,World.size_alloc,World.size_alloc,hg]
 have h3:=hrow.new z c tc
 rw [hs] at h3
 exact ⟨_,by rw [hz],z1.below hal,z2.below hal,h3,zb.trans (hal.mono zb.size)⟩
/-- A grammar and a diag are stored. -/
theorem stores4 {x:World} {g2 g3:Nat} {b0 b1 d0 d1:Value} (u0 u1 t0 t1:Value) (h2:hrow x g2 #[b0,b1] 25) (h3:hrow x g3 #[d0,d1] 34) (hne:g2 ≠ g3):
  ∃ z,(((x.setCell ⟨g2,0,none⟩ u0).setCell ⟨g2,1,none⟩ u1).setCell ⟨g3,0,none⟩ t0).setCell ⟨g3,1,none⟩ t1=z/\hrow z g2 #[u0,u1] 25/\hrow z g3 #[t0,t1] 34/\Fr (fun k=>k=g2∨k=g3) x z:=by
 have hA:hrow ((x.setCell ⟨g2,0,none⟩ u0).setCell ⟨g2,1,none⟩ u1) g2 #[u0,u1] 25:=(h2.setCell 0 u0).setCell 1 u1
 have hF:Fr (fun k=>k=g2) x ((x.setCell ⟨g2,0,none⟩ u0).setCell ⟨g2,1,none⟩ u1):=(Fr.setCell x ⟨g2,0,none⟩ u0).trans (Fr.setCell _ ⟨g2,1,none⟩ u1) (fun _ _ h=>h)
 generalize (x.setCell ⟨g2,0,none⟩ u0).setCell ⟨g2,1,none⟩ u1=y at hA hF ⊢
 have h3':hrow y g3 #[d0,d1] 34:=h3.fr hF (fun e=>hne e.symm)
 have hf2:Fr (fun k=>k=g3) y ((y.setCell ⟨g3,0,none⟩ t0).setCell ⟨g3,1,none⟩ t1):=(Fr.setCell y ⟨g3,0,none⟩ t0).trans (Fr.setCell _ ⟨g3,1,none⟩ t1) (fun _ _ h=>h)
 exact ⟨_,rfl,hA.fr hf2 (fun e=>hne e),(h3'.setCell 0 t0).setCell 1 t1,(hF.weak (fun _ h=>.inl h)).trans hf2 (fun _ _ h=>.inr h)⟩
/-- A look into a map, at a step of a drawn region that only reads. -/
theorem wpStill_lookup {P:Program} {ops:Array Oper} {w:World} {Q:Act->Prop} {rest:List Oper} {o:Oper} {a:Act} (hw:Region.wanted o (yielded ops a.tmps)=true) (t:TypeId) (x y:Operand) (c:Bool) (ho:o.op=.lookup t x y c)
  (u v r:Value) (hx:a.eval x=u) (hy:a.eval y=v) (hr:(Instr.lookup t u v c).run P w=.ok r w) (h:wpStill P ops w Q rest (a.put o.dst r)):wpStill P ops w Q (o :: rest) a:=
 wpStill_step fun K hK=>by
  rw [if_pos hw]
  unfold Oper.still execOp
  simp only [ho,hx,hy,Sem.run_bind,Sem.run_pure,hr,Result.andThen_ok]
  exact ⟨rfl,hK _ h⟩
theorem pt_ne {a:Addr} {k b o:Nat} (h:a.block ≠ b):(⟨b,o,none⟩:Addr) ≠ a.add k:=fun e=>h (by rw [← add_block a k,← e])
theorem resolve_any (w:World) (ro no ao bo co:Option Addr) (rc nc ac bc cc:Nat) (R:List Ru) (NK:List Nk) (RA NA:List Int) (NM:List ByteArray) (hT:TnW w ro no ao bo co rc nc ac bc cc R NK RA NA NM) (hk:∀ x ∈ NK,Sv w x.2.1 x.1.kids.length x.2.2 1 (inc x.1.kids)) (hkl:∀ x ∈ NK,x.1.kids.length<=1000000)
  (hl1:R.length<=1000000) (hl2:RA.length<=1000000) (hl3:NA.length<=1000000) (hl4:NK.length<=1000000):
  Calls Tryz.prog 12 #[.agg #[.slice ro R.length rc,.slice no NK.length nc,.slice ao RA.length ac,.slice bo NA.length bc,.slice co NM.length cc]] w fun e w'=>ResP w R NK RA NA NM e w':=by
 obtain ⟨g,hg⟩:∃ g,w.heap.size=g:=⟨_,rfl⟩
 obtain ⟨z,hz,z1,z2,z3,zb⟩:=tri0 w g hg #[.slice ro R.length rc,.slice no NK.length nc,.slice ao RA.length ac,.slice bo NA.length bc,.slice co NM.length cc] #[.slice none 0 0,.slice none 0 0] #[.int .i64 0,.int .i64 0] 29 25 34
 have hib:∀ (o:Option Addr) (c:Nat) (l:List Int),Sv w o l.length c 1 (inc l)->∀ a,o=some a->0 < l.length->a.block < g:=fun o c l hs a ha h0=>by
  obtain ⟨a',e,hc⟩:=hs.intc 0 h0
  rw [ha] at e;cases e
  have:=World.block_lt_of_cell? w _ hc
  rw [add_block] at this;omega
 have HCB:Hid (∀ a,co=some a->0 < NM.length->a.block < g):=fun a ha h0=>by
  obtain ⟨a',e,hc⟩:=hT.nm.cell 0 (by simpa using h0)
  rw [ha] at e;cases e
  have:=World.block_lt_of_cell? w _ (hc.trans (List.getElem?_eq_getElem (by simpa using h0)))
  rw [add_block] at this;omega
 have HAB:=Lib.hid (hib _ _ _ hT.ra);have HBB0:=Lib.hid (hib _ _ _ hT.na)
 clear hib
 have HO:=Lib.hid (open_any z ro no ao bo co rc NK.length nc RA.length ac NA.length bc NM.length cc R (hT.below zb).r hl1)
 have HT:=Lib.hid (hT.below zb);have HK:=Lib.hid (fun x hx=>(hk x hx).below zb)
 have HZ:=Lib.hid hz;have HG:=Lib.hid hg;have HB:=Lib.hid zb;have H1:=Lib.hid z1;have H2:=Lib.hid z2;have H3:=Lib.hid z3
 have HL1:=Lib.hid hl1;have HL2:=Lib.hid hl2;have HL3:=Lib.hid hl3;have HL4:=Lib.hid hl4;have HKL:=Lib.hid hkl
 clear hT hk hz hg zb z1 z2 z3 hl1 hl2 hl3 hl4 hkl
 unfold OpnP at HO
 go_enter Tryz.func12,Tryz.ntmps12
 go_upto_region 1 with (fail)
 rw [HZ.out,HG.out]
 go_wp2_with (refine load_rtree rfl (.tmp 1) rfl g rfl _ H1.out rfl ?_)
 refine HO.out.mono ?_
 rintro e x ⟨gm,rfl,hm,hbx⟩
 have hbl:=(Below.refl x.heap.size x).alloc (Nat.le_refl _) (.cells #[.slice ro R.length rc,.slice no NK.length nc,.slice ao RA.length ac,.slice bo NA.length bc,.slice co NM.length cc,.map (some gm)] 86)
 have HN:=Lib.hid (hrow.new x #[.slice ro R.length rc,.slice no NK.length nc,.slice ao RA.length ac,.slice bo NA.length bc,.slice co NM.length cc,.map (some gm)] 86)
 have HM:=Lib.hid (hm.below hbl)
 have hbb:=hbx.trans (hbl.mono hbx.size)
 have HXG:Hid (g+1+1 < x.heap.size):=Nat.lt_of_lt_of_le H3.out.lt hbx.size
 have HT2:=Lib.hid (HT.out.below hbb);have HK2:=Lib.hid (fun x hx=>(HK.out x hx).below hbb)
 have H12:=Lib.hid (H1.out.below hbb);have H22:=Lib.hid (H2.out.below hbb);have H32:=Lib.hid (H3.out.below hbb)
 have HB2:=Lib.hid (HB.out.trans (hbb.mono HB.out.size))
 clear hm hbx hbl hbb HO HT HK H1 H2 H3 HB HZ
 obtain ⟨b,hb⟩:∃ b,(decide (RA.length=R.length) && (decide (NA.length=NK.length) && decide (NM.length=NA.length)))=b:=⟨_,rfl⟩
 have HBB:=Lib.hid (show whoB R NK RA NA NM=b from hb)
 have HBC:=Lib.hid hb
 simp only [List.push_toArray,List.cons_append,List.nil_append] at *
 rw [hb]
 clear hb
 go_upto_region 2 with (fail)
 have HGG:Hid (g+1+1 < x.heap.size):=HXG.out
 clear HXG
 revert HN HM HT2 HK2 H12 H22 H32 HB2 HGG
 generalize x.alloc (.cells #[.slice ro R.length rc,.slice no NK.length nc,.slice ao RA.length ac,.slice bo NA.length bc,.slice co NM.length cc,.map (some gm)] 86)=y
 generalize x.heap.size=g4
 intro HN HM HT2 HK2 H12 H22 H32 HB2 HGG
 have HD:Hid (∀ (z:World) (c a:Int),resE R NK RA NA NM=(c,a)->c ≠ 0->Fr (fun k=>k=g+1∨k=g+1+1) y z->ResP w R NK RA NA NM (.returned (.tuple #[.agg #[.slice none 0 0,.slice none 0 0],.agg #[.int .i64 c,.int .i64 a]])) z):=by
  intro z c a he hc hf
  unfold ResP
  rw [he]
  refine ⟨_,_,rfl,HB2.out.trans (hf.below HB2.out.size (fun k hk e=>by have:=HG.out;omega)),?_⟩
  simp only [if_neg hc]
  exact GrO.nil _ _
 cases b with
 | false=>
  have HE:Hid (resE R NK RA NA NM=(4,0)):=by unfold Hid resE;rw [HBB.out];rfl
  have k0:=H22.out.cell 0;have k1:=H22.out.cell 1;have e0:=H22.out.frozen 0;have e1:=H22.out.frozen 1
  have l0:=H32.out.cell 0;have l1:=H32.out.cell 1;have m0:=H32.out.frozen 0;have m1:=H32.out.frozen 1
  have hne:g+1 ≠ g+1+1:=by omega
  go_wp2_with fail
  clear k0 k1 e0 e1 l0 l1 m0 m1
  obtain ⟨z,hz,z2,z3,zf⟩:=stores4 (.slice none 0 0) (.slice none 0 0) (.int .i64 4) (.int .i64 0) H22.out H32.out hne
  rw [hz]
  refine bodyPost_ret (results_c2 rfl _ _ _ _ _ _ rfl rfl (gram_ld z2) (diag_ld z3)) rfl ?_
  exact HD.out z 4 0 HE.out (by decide) zf
 | true=>
  have HTW:=Lib.hid (Twice_any y ro no ao bo co rc nc ac bc cc R NK RA NA NM HT2.out HL1.out HL2.out)
  have hw:=HBC.out
  simp only [Bool.and_eq_true,decide_eq_true_eq] at hw
  obtain ⟨w1,w2,w3⟩:=hw
  have HW1:=Lib.hid w1;have HW2:=Lib.hid w2;have HW3:=Lib.hid w3
  clear w1 w2 w3 HBC
  cases hf:twcF R NK RA NA NM with
  | some k=>
   have HKL:Hid (k < RA.length):=by
    unfold twcF at hf;rw [HBB.out] at hf;have:=frst_some _ _ _ hf;unfold Hid;omega
   have HE:Hid (resE R NK RA NA NM=(8,bt RA k)):=by unfold Hid resE;rw [HBB.out,hf];rfl
   rw [hf] at HTW
   unfold frV at HTW
   clear hf
   go_wp2_with (refine load_rtree rfl (.tmp 1) rfl g rfl _ H12.out rfl ?_)
   refine HTW.out.mono ?_
   rintro e y2 ⟨rfl,hb2⟩
   have HB3:=Lib.hid hb2
   have hT3:=HT2.out.below hb2
   obtain ⟨a,rfl,hc⟩:=hT3.ra.intc k HKL.out
   have hbd:=hT3.ra.bound
   have H13:=Lib.hid (H12.out.below hb2)
   have H2y:=H22.out.below hb2;have H3y:=H32.out.below hb2
   have k0:=H2y.cell 0;have k1:=H2y.cell 1;have e0:=H2y.frozen 0;have e1:=H2y.frozen 1
   have l0:=H3y.cell 0;have l1:=H3y.cell 1;have m0:=H3y.frozen 0;have m1:=H3y.frozen 1
   have hne:g+1 ≠ g+1+1:=by omega
   have t1:=H13.out.cell 2
   have H23:=Lib.hid H2y;have H33:=Lib.hid H3y
   have hkI:(k:Int) < RA.length:=by have:=HKL.out;omega
   obtain ⟨q,hq⟩:∃ q,bt RA k=q:=⟨_,rfl⟩
   rw [hq] at hc HE
   have hab:=HAB.out a rfl (by have:=HKL.out;omega)
   have hc2:((y2.setCell ⟨g+1,0,none⟩ (.slice none 0 0)).setCell ⟨g+1,1,none⟩ (.slice none 0 0)).cell? (a.add k)=some (.int .i64 q):=by
    rw [World.cell?_setCell_other _ _ _ _ (pt_ne (by omega)),World.cell?_setCell_other _ _ _ _ (pt_ne (by omega))]
    exact hc
   clear hT3 H2y H3y hb2 HTW hq hab
   go_upto_region 6 with (fail)
   go_region
   clear k0 k1 e0 e1 l0 l1 m0 m1 hc hc2 t1 hbd
   obtain ⟨z,hz,z2,z3,zf⟩:=stores4 (.slice none 0 0) (.slice none 0 0) (.int .i64 8) (.int .i64 q) H23.out H33.out hne
   rw [hz]
   have hbd:=(Below.refl z.heap.size z).drew
   have Z2:=Lib.hid (z2.below hbd);have Z3:=Lib.hid (z3.below hbd);have ZF:=Lib.hid (((Fr.of_below (F:=fun k=>k=g+1∨k=g+1+1) HB3.out).trans zf (fun _ _ h=>h)).trans (Fr.of_below (F:=fun _=>False) hbd) (fun _ _ e=>e.elim))
   clear hz z2 z3 zf hbd
   generalize z.drew=z' at Z2 Z3 ZF ⊢
   go_wp2_with fail
   refine bodyPost_ret (results_c2 rfl _ _ _ _ _ _ rfl rfl (gram_ld Z2.out) (diag_ld Z3.out)) rfl ?_
   exact HD.out z' 8 q HE.out (by decide) ZF.out
  | none=>
   rw [hf] at HTW
   have HF1:=Lib.hid hf
   unfold frV at HTW
   clear hf
   go_wp2_with (refine load_rtree rfl (.tmp 1) rfl g rfl _ H12.out rfl ?_)
   refine HTW.out.mono ?_
   rintro e y2 ⟨rfl,hb2⟩
   have HB3:=Lib.hid hb2
   have HT3:=Lib.hid (HT2.out.below hb2);have HK3:=Lib.hid (fun x hx=>(HK2.out x hx).below hb2);have HM3:=Lib.hid (HM.out.below hb2);have HN3:=Lib.hid (HN.out.below hb2)
   have H13:=Lib.hid (H12.out.below hb2);have H23:=Lib.hid (H22.out.below hb2);have H33:=Lib.hid (H32.out.below hb2)
   have HB4:=Lib.hid (HB2.out.trans (hb2.mono HB2.out.size))
   have HLO:=Lib.hid (Lost_any y2 ro no ao bo co rc nc ac bc cc R NK RA NA NM HT3.out HL1.out HL3.out)
   clear hb2 HTW HT2 HK2 HM HN H12 H22 H32
   cases hf:lstF R NK RA NA NM with
   | some k=>
    have HKL:Hid (k < NA.length):=by
     unfold lstF at hf;rw [HBB.out] at hf;have:=frst_some _ _ _ hf;unfold Hid;omega
    have HE:Hid (resE R NK RA NA NM=(5,bt NA k)):=by unfold Hid resE;rw [HBB.out,HF1.out,hf];rfl
    rw [hf] at HLO
    unfold frV at HLO
    clear hf
    go_wp2_with (refine load_rtree rfl (.tmp 1) rfl g rfl _ H13.out rfl ?_)
    refine HLO.out.mono ?_
    rintro e y3 ⟨rfl,hb2⟩
    have HB5:=Lib.hid (HB3.out.trans (hb2.mono HB3.out.size))
    have hT3:=HT3.out.below hb2
    obtain ⟨a,rfl,hc⟩:=hT3.na.intc k HKL.out
    have hbd:=hT3.na.bound
    have H14:=Lib.hid (H13.out.below hb2)
    have H2y:=H23.out.below hb2;have H3y:=H33.out.below hb2
    have k0:=H2y.cell 0;have k1:=H2y.cell 1;have e0:=H2y.frozen 0;have e1:=H2y.frozen 1
    have l0:=H3y.cell 0;have l1:=H3y.cell 1;have m0:=H3y.frozen 0;have m1:=H3y.frozen 1
    have hne:g+1 ≠ g+1+1:=by omega
    have t1:=H14.out.cell 3
    have H24:=Lib.hid H2y;have H34:=Lib.hid H3y
    have hkI:(k:Int) < NA.length:=by have:=HKL.out;omega
    obtain ⟨q,hq⟩:∃ q,bt NA k=q:=⟨_,rfl⟩
    rw [hq] at hc HE
    have hab:=HBB0.out a rfl (by have:=HKL.out;omega)
    have hc2:((y3.setCell ⟨g+1,0,none⟩ (.slice none 0 0)).setCell ⟨g+1,1,none⟩ (.slice none 0 0)).cell? (a.add k)=some (.int .i64 q):=by
     rw [World.cell?_setCell_other _ _ _ _ (pt_ne (by omega)),World.cell?_setCell_other _ _ _ _ (pt_ne (by omega))]
     exact hc
    clear hT3 H2y H3y hb2 HLO hq hab
    go_upto_region 9 with (fail)
    go_region
    clear k0 k1 e0 e1 l0 l1 m0 m1 hc hc2 t1 hbd
    obtain ⟨z,hz,z2,z3,zf⟩:=stores4 (.slice none 0 0) (.slice none 0 0) (.int .i64 5) (.int .i64 q) H24.out H34.out hne
    rw [hz]
    have hbd:=(Below.refl z.heap.size z).drew
    have Z2:=Lib.hid (z2.below hbd);have Z3:=Lib.hid (z3.below hbd);have ZF:=Lib.hid (((Fr.of_below (F:=fun k=>k=g+1∨k=g+1+1) HB5.out).trans zf (fun _ _ h=>h)).trans (Fr.of_below (F:=fun _=>False) hbd) (fun _ _ e=>e.elim))
    clear hz z2 z3 zf hbd
    generalize z.drew=z' at Z2 Z3 ZF ⊢
    go_wp2_with fail
    refine bodyPost_ret (results_c2 rfl _ _ _ _ _ _ rfl rfl (gram_ld Z2.out) (diag_ld Z3.out)) rfl ?_
    exact HD.out z' 5 q HE.out (by decide) ZF.out
   | none=>
    rw [hf] at HLO
    have HE:Hid (resE R NK RA NA NM=(0,0)):=by unfold Hid resE;rw [HBB.out,HF1.out,hf];rfl
    unfold frV at HLO
    clear hf
    go_wp2_with (refine load_rtree rfl (.tmp 1) rfl g rfl _ H13.out rfl ?_)
    refine HLO.out.mono ?_
    rintro e y3 ⟨rfl,hb2⟩
    have HB5:=Lib.hid (HB4.out.trans (hb2.mono HB4.out.size))
    have HT4:=Lib.hid (HT3.out.below hb2);have HK4:=Lib.hid (fun x hx=>(HK3.out x hx).below hb2);have HM4:=Lib.hid (HM3.out.below hb2);have HN4:=Lib.hid (HN3.out.below hb2)
    have H14:=Lib.hid (H13.out.below hb2);have H24:=Lib.hid (H23.out.below hb2);have H34:=Lib.hid (H33.out.below hb2)
    have HCO:=Lib.hid (gcopy_any y3 ro no rc nc R NK HT4.out.r HL1.out HT4.out.n HK4.out HKL.out HL4.out)
    clear hb2 HLO HT3 HK3 HM3 HN3 H13 H23 H33 HB3 HB4 HB2 HD HAB HBB0
    have HPT:Hid (∀ (j:Nat) (v:Value),(#[.slice ro R.length rc,.slice no NK.length nc]:Array Value).toList[j]?=some v->y3.cell? ((⟨g,0,none⟩:Addr).add j)=some v):=by
     intro j v hj
     match j,hj with
     | 0,hj=>simp at hj;subst hj;exact H14.out.cell 0
     | 1,hj=>simp at hj;subst hj;exact H14.out.cell 1
     | j+2,hj=>simp at hj
    go_upto_region 10 with (fail)
    go_wp2_with (refine wpList_load_part rfl 25 (.tmp 46) rfl ⟨g,0,none⟩ rfl _ _ HPT.out Tryz.underlying25 rfl gr_info ?_)
    refine HCO.out.mono ?_
    rintro e y4 ⟨vr,vn,NK',rfl,hr4,hn4,hS4,hb4⟩
    have hlen:NK.length=NK'.length:=by have:=congrArg List.length hS4.1;simpa using this.symm
    have hn5:=hn4
    rw [hlen] at hn5
    obtain ⟨vro,vrc,rfl,-⟩:=Sv.of_owns hr4
    obtain ⟨vno,vnc,rfl,-⟩:=Sv.of_owns hn4
    have HG4:=Lib.hid (H24.out.below hb4)
    have hfs:=Fr.setRow y4 (g+1) #[.slice vro R.length vrc,.slice vno NK.length vnc]
    have HG5:=Lib.hid H24.out.lt
    have HI0:Hid (RsI y3 (g+1) (.slice vro R.length vrc) (.slice vno NK'.length vnc) R NM NK' 0 (y4.setRow (g+1) #[.slice vro R.length vrc,.slice vno NK'.length vnc])):=by
     rw [hlen] at hfs
     refine ⟨setRow_heap _ _ _ _ _ _ HG4.out,owns_fr hr4 hfs (fun k hk e=>by have:=(hr4.lt k hk).1;have:=HG5.out;have e':k=g+1:=e;omega),?_,fun x hx=>owns_fr (hS4.2.1 x hx) hfs (fun k hk e=>by have:=((hS4.2.1 x hx).lt k hk).1;have:=HG5.out;have e':k=g+1:=e;omega),(Fr.of_below (F:=fun k=>k=g+1) hb4).trans hfs (fun _ _ e=>e)⟩
     rw [resL_zero]
     rw [hlen] at hn4
     exact owns_fr hn4 hfs (fun k hk e=>by have:=(hn4.lt k hk).1;have:=HG5.out;have e':k=g+1:=e;omega)
    have HS4:=Lib.hid hS4;have HLN:=Lib.hid hlen
    have HONE:Hid ((#[.slice vro R.length vrc,.slice vno NK'.length vnc]:Array Value).all (·.oneCell')=true):=by unfold Hid;simp [Value.oneCell']
    rw [hlen]
    clear hr4 hn4 hn5 hS4 hb4 hfs hlen HCO HK4 HPT
    go_upto_region 11 with (refine store_gram rfl (.tmp 2) (.tmp 48) rfl (g+1) #[.slice vro R.length vrc,.slice vno NK'.length vnc] _ rfl rfl HG4.out rfl rfl HONE.out ?_)
    clear HONE HG4
    revert HI0
    generalize y4.setRow (g+1) #[.slice vro R.length vrc,.slice vno NK'.length vnc]=y5
    intro HI0
    have kk:=HI0.out.o.cell 1
    go_upto_region 12 with (fail)
    go_loopw [10,52] (fun _ p wr=>∃ m:Nat,m<=NK'.length/\p=.int .i64 m/\Hid (RsI y3 (g+1) (.slice vro R.length vrc) (.slice vno NK'.length vnc) R NM NK' m wr)) (fun _ p _=>NK'.length - (intOf p).toNat)
    case atStart=>exact ⟨0,Nat.zero_le _,rfl,HI0.out⟩
    case round=>
     clear kk HI0
     obtain ⟨m,hm,rfl,HR⟩:=hrel
     by_cases hlt:m < NK'.length
     ·have hltI:(m:Int) < NK'.length:=by omega
      have hlm:NK'.length<=1000000:=by have:=HL4.out;have:=HLN.out;omega
      have k1:=HR.out.o.cell 1
      have hn:=HR.out.n
      rcases hn.2 with ⟨h,-⟩ | ⟨gn,cap,cur,h,hb,hh,-⟩
      ·exfalso;injection h with h1 h2 h3;omega
      cases h
      have hcell:∀ j u,j < 9->(ndc NK'[m])[j]?=some u->wr.cell? ⟨gn,m * 9+j,none⟩=some u:=by
       intro j u hj hu
       have hx:((resL R NM m NK').flatMap ndc)[m * 9+j]?=some u:=by
        rw [fl_at ndc_len _ m (by rw [resL_len];exact hlt) j hj,resL_at R NM m NK' hlt]
        exact hu
       have:=hn.cells (g:=gn) rfl _ _ hx
       have e:(⟨gn,0,none⟩:Addr).add (m * 9+j)=⟨gn,m * 9+j,none⟩:=by unfold Addr.add;split <;> simp_all
       rwa [e] at this
      obtain ⟨x,hx⟩:∃ x,NK'[m]'hlt=x:=⟨_,rfl⟩
      rw [hx] at hcell
      have c0:wr.cell? ⟨gn,m * 9,none⟩=some (.int .i64 x.1.kind):=hcell 0 _ (by decide) rfl
      have c6:=hcell 6 _ (by decide) rfl
      have f6:=owns_frozen hn (m * 9+6)
      have HXM:Hid (NK'[m]?=some x):=by unfold Hid;rw [List.getElem?_eq_getElem hlt,hx]
      have HLT:=Lib.hid hlt
      clear hcell hn hx hlt hb hh
      by_cases hk:x.1.kind=5
      ·have hkq:(x.1.kind == 5)=true:=by rw [hk];rfl
       have HKD:=Lib.hid hk
       clear hk
       have HML:Hid (m < NM.length):=by have:=HLT.out;have:=HLN.out;have:=HW1.out;have:=HW2.out;have:=HW3.out;unfold Hid;omega
       have hmI:(m:Int) < NM.length:=by have:=HML.out;omega
       have hF:=HR.out.fr
       obtain ⟨ca,hca,hcc⟩:=HT4.out.nm.cell m (by simpa using HML.out)
       have hcb:=HCB.out ca hca (by have:=HML.out;omega)
       have hcn:y3.cell? (ca.add m)=some (.string (NM.getD m ⟨#[]⟩)):=by
        rw [hcc,List.getElem?_eq_getElem (by simpa using HML.out)]
        simp [List.getD_eq_getElem?_getD,HML.out]
       have n0:wr.cell? (ca.add m)=some (.string (NM.getD m ⟨#[]⟩)):=(World.cell?_of_block (hF.block _ (World.block_lt_of_cell? _ _ hcn) (fun e=>by rw [add_block] at e;omega))).trans hcn
       have n4:=(H14.out.fr hF (fun e=>by omega)).cell 4
       have n5:=(HN4.out.fr hF (fun e=>by have:=HGG.out;omega)).cell 5
       have hM:=MapS.block (w':=wr.drew) HM4.out (hF.block gm HM4.out.lt (fun e=>by
        obtain ⟨es,cl,h1,-,-⟩:=HM4.out
        rw [e,H24.out.h] at h1;cases h1))
       have hlk:=hM.look (P:=Tryz.prog) (t:=84) (kt:=9) (e:=3) strU msi_und (int_zero wr.drew) (NM.getD m ⟨#[]⟩) false
       obtain ⟨q,hq⟩:∃ q:Nat,(fixF R (NM.getD m ⟨#[]⟩) 0).getD 0=q:=⟨_,rfl⟩
       have HQQ:=Lib.hid hq
       have hlk2:(Instr.lookup 84 (.map (some gm)) (.string (NM.getD m ⟨#[]⟩)) false).run Tryz.prog ({ heap:=wr.heap,tape:=wr.tape,drawn:=wr.drawn+1,os:=wr.os,output:=wr.output }:World)=.ok (.int .i64 q) { heap:=wr.heap,tape:=wr.tape,drawn:=wr.drawn+1,os:=wr.os,output:=wr.output }:=by
        show _=Result.ok _ wr.drew
        refine hlk.trans ?_
        rw [← hq]
        cases fixF R (NM.getD m ⟨#[]⟩) 0 <;> rfl
       have hbn:=HT4.out.nm.bound
       clear hF hcc hcb hcn hM hlk hq
       subst hca
       obtain ⟨sn,hsn⟩:∃ sn,NM.getD m ⟨#[]⟩=sn:=⟨_,rfl⟩
       rw [hsn] at n0 hlk2 HQQ
       have HSN:=Lib.hid hsn
       clear hsn
       go_upto_region 15 with (fail)
       go_still_tail 13,(by kernel_rfl)
       refine wpStill_lookup rfl 84 (.tmp 66) (.tmp 71) false rfl (.map (some gm)) (.string sn) (.int .i64 q) rfl rfl hlk2 ?_
       simp only [Act.put,List.setIfInBounds_toArray,List.set_cons_succ,List.set_cons_zero]
       repeat still_step
       refine wpStill_nil ?_
       change wpList _ _ _ _ _ wr.drew
       have hD:=(Below.refl wr.heap.size wr).drew
       have HRD:=Lib.hid (HR.out.below hD)
       have d6:wr.drew.cell? ⟨gn,m * 9+6,none⟩=some (.int .i64 x.1.rule):=c6
       have g6:wr.drew.frozen? ⟨gn,m * 9+6,none⟩=false:=f6
       clear hD HR c0 c6 f6 k1 n0 n4 n5 hlk2
       revert HRD d6 g6
       generalize wr.drew=wd
       intro HRD d6 g6
       go_wp2_with fail
       go_roundw
       case rel=>
        refine ⟨m+1,by have:=HLT.out;omega,by go_num,?_⟩
        obtain ⟨h1,h2⟩:=List.getElem?_eq_some_iff.1 HXM.out
        have h3:=HRD.out.step h1 (by rw [h2];exact HKD.out) (by have:=H24.out.lt;exact this)
        rw [HSN.out,HQQ.out] at h3
        exact h3
       case measure=>have:=HLT.out;simp [intOf];omega
      ·have hkq:(x.1.kind == 5)=false:=by rw [beq_eq_false_iff_ne];exact hk
       have HKD:=Lib.hid hk
       clear hk
       go_wp2_with fail
       go_roundw
       case rel=>
        refine ⟨m+1,by have:=HLT.out;omega,by go_num,?_⟩
        obtain ⟨h1,h2⟩:=List.getElem?_eq_some_iff.1 HXM.out
        exact HR.out.skip h1 (by rw [h2];exact HKD.out)
       case measure=>have:=HLT.out;simp [intOf];omega
     ·have hltI:¬ (m:Int) < NK'.length:=by omega
      obtain rfl:m=NK'.length:=by omega
      have HQ:=Lib.hid (gram_ld HR.out.o)
      have hdg:hrow wr (g+1+1) #[.int .i64 0,.int .i64 0] 34:=H34.out.fr HR.out.fr (fun e=>by omega)
      have k0:=HR.out.o.cell 0;have k1:=HR.out.o.cell 1;have e0:=HR.out.o.frozen 0;have e1:=HR.out.o.frozen 1
      have l0:=hdg.cell 0;have l1:=hdg.cell 1;have m0:=hdg.frozen 0;have m1:=hdg.frozen 1
      have hne:g+1 ≠ g+1+1:=by omega
      have HDG:=Lib.hid hdg
      clear hdg
      go_wp2_with fail
      clear k0 k1 e0 e1 l0 l1 m0 m1
      obtain ⟨z,hz,z2,z3,zf⟩:=stores4 (.slice vro R.length vrc) (.slice vno NK'.length vnc) (.int .i64 0) (.int .i64 0) HR.out.o HDG.out hne
      rw [hz]
      refine bodyPost_ret (results_c2 rfl _ _ _ _ _ _ rfl rfl (gram_ld z2) (diag_ld z3)) rfl ?_
      unfold ResP
      rw [HE.out]
      have hy3:g+1+1 < y3.heap.size:=H34.out.lt
      have hy0:=HB5.out.size
      refine ⟨_,_,rfl,HB5.out.trans (((HR.out.fr.weak (fun _ e=>.inl e)).trans zf (fun _ _ e=>e)).below hy0 (fun k hk e=>by have:=HG.out;omega)),?_⟩
      simp only [if_true]
      have hlo:∀ (e:TypeId) (s n:Nat) (v:Value) (xs:List Value),wr.ownsRow y3.heap.size e s v n xs->z.ownsRow w.heap.size e s v n xs:=fun e s n v xs h=>own_mono (owns_fr h zf (fun k hk e=>by have:=(h.lt k hk).1;have:=H24.out.lt;omega)) (fun k hk=>by have:=(h.lt k hk).1;omega)
      refine ⟨hlo _ _ _ _ _ HR.out.r,resL R NM NK'.length NK',?_,?_,?_,resL_apart HS4.out.2.2⟩
      ·rw [resL_len];exact hlo _ _ _ _ _ HR.out.n
      ·rw [resL_all,HS4.out.1]
      ·intro y hy
       obtain ⟨x,hx,e1,e2⟩:=resL_mem hy
       unfold XN
       rw [e1,e2]
       exact hlo _ _ _ _ _ (HR.out.k x hx)
end Go.Proofs.YtgjhepblpdnkcaaGreatDoor
namespace Go.Proofs.YtgjhepblpdnkcaaGreatDoor

theorem fix_rule (s:ByteArray):∀ (R:List Ru) (i:Nat),fixF R s i=if ruleIx R s < 0 then none else some (i+(ruleIx R s).toNat)
 | [],i=>by simp [fixF,ruleIx]
 | r :: R,i=>by
  unfold fixF ruleIx
  by_cases h:r.name=s
  ·rw [if_pos h,if_pos h];simp
  ·rw [if_neg h,if_neg h,fix_rule s R (i+1)]
   by_cases h2:ruleIx R s < 0
   ·rw [if_pos h2,if_pos h2,if_pos (by decide)]
   ·rw [if_neg h2,if_neg h2,if_neg (by omega)]
    congr 1
    omega
theorem frst_congr {p q:Nat->Bool}:∀ (n k:Nat),(∀ j,k<=j->j < k+n->p j=q j)->frst p n k=frst q n k
 | 0,_,_=>rfl
 | n+1,k,h=>by
  unfold frst
  rw [h k (Nat.le_refl _) (by omega),frst_congr n (k+1) (fun j h1 h2=>h j (by omega) (by omega))]
def whoR (R:List Ru) (N:List Nd) (RA NA:List Int) (NM:List ByteArray):Bool:=decide (RA.length=R.length) && (decide (NA.length=N.length) && decide (NM.length=N.length))
theorem whoR_B (R:List Ru) (NK:List Nk) (RA NA:List Int) (NM:List ByteArray):whoB R NK RA NA NM=whoR R (NK.map (·.1)) RA NA NM:=by
 unfold whoB whoR
 rw [Bool.eq_iff_iff]
 simp only [Bool.and_eq_true,decide_eq_true_eq,List.length_map]
 omega
def twiR (R:List Ru) (i:Nat):Bool:=decide (ruleIx R (ruAt R i).name < i)
def twR (R:List Ru) (N:List Nd) (RA NA:List Int) (NM:List ByteArray):Option Nat:=if whoR R N RA NA NM then frst (twiR R) R.length 0 else none
theorem twR_F (R:List Ru) (NK:List Nk) (RA NA:List Int) (NM:List ByteArray):twcF R NK RA NA NM=twR R (NK.map (·.1)) RA NA NM:=by
 unfold twcF twR
 rw [whoR_B]
 cases h:whoR R (NK.map (·.1)) RA NA NM with
 | false=>rfl
 | true=>
  rw [if_pos rfl,if_pos rfl]
  unfold whoR at h
  simp only [Bool.and_eq_true,decide_eq_true_eq] at h
  rw [h.1]
  refine frst_congr _ _ (fun j _ hj=>?_)
  rw [Nat.zero_add] at hj
  unfold twiB twiR
  obtain ⟨k,hk,hle⟩:=fixF_self R 0 j hj
  rw [ruAt_in hj,hk,Bool.eq_iff_iff,decide_eq_true_eq,decide_eq_true_eq]
  rw [fix_rule] at hk
  by_cases h2:ruleIx R R[j].name < 0
  ·rw [if_pos h2] at hk;cases hk
  ·rw [if_neg h2] at hk
   simp only [Option.some.injEq,Nat.zero_add] at hk
   simp only [ne_eq,Option.some.injEq]
   omega
def losR (R:List Ru) (N:List Nd) (NM:List ByteArray) (n:Nat):Bool:=decide ((N.getD n ⟨0,0,0,0,0,⟨#[]⟩,0,0,[]⟩).kind=5) && decide (ruleIx R (NM.getD n ⟨#[]⟩) < 0)
def lsR (R:List Ru) (N:List Nd) (RA NA:List Int) (NM:List ByteArray):Option Nat:=if whoR R N RA NA NM then frst (losR R N NM) N.length 0 else none
theorem lsR_F (R:List Ru) (NK:List Nk) (RA NA:List Int) (NM:List ByteArray):lstF R NK RA NA NM=lsR R (NK.map (·.1)) RA NA NM:=by
 unfold lstF lsR
 rw [whoR_B]
 cases h:whoR R (NK.map (·.1)) RA NA NM with
 | false=>rfl
 | true=>
  rw [if_pos rfl,if_pos rfl]
  unfold whoR at h
  simp only [Bool.and_eq_true,decide_eq_true_eq] at h
  rw [h.2.1]
  refine frst_congr _ _ (fun j _ hj=>?_)
  rw [Nat.zero_add,List.length_map] at hj
  unfold losB losR
  congr 1
  ·rw [List.getD_eq_getElem?_getD,List.getD_eq_getElem?_getD,List.getElem?_map,List.getElem?_eq_getElem hj];rfl
  ·rw [fix_rule]
   by_cases h2:ruleIx R (NM.getD j ⟨#[]⟩) < 0
   ·rw [if_pos h2,decide_eq_true h2];rfl
   ·rw [if_neg h2,decide_eq_false h2];rfl
/-- The document's answer. -/
def resX (b:Bool) (o q:Option Nat) (RA NA:List Int):Int×Int:=
 if b then
  match o with
  | some k=>(8,bt RA k)
  | none=>match q with
   | some n=>(5,bt NA n)
   | none=>(0,0)
 else (4,0)
def resS (R:List Ru) (N:List Nd) (RA NA:List Int) (NM:List ByteArray):Int×Int:=resX (whoR R N RA NA NM) (twR R N RA NA NM) (lsR R N RA NA NM) RA NA
theorem resE_X (R:List Ru) (NK:List Nk) (RA NA:List Int) (NM:List ByteArray):resE R NK RA NA NM=resX (whoB R NK RA NA NM) (twcF R NK RA NA NM) (lstF R NK RA NA NM) RA NA:=by
 unfold resE resX
 cases whoB R NK RA NA NM <;> cases twcF R NK RA NA NM <;> cases lstF R NK RA NA NM <;> rfl
theorem resS_E (R:List Ru) (NK:List Nk) (RA NA:List Int) (NM:List ByteArray):resE R NK RA NA NM=resS R (NK.map (·.1)) RA NA NM:=by
 rw [resE_X,whoR_B,twR_F,lsR_F];rfl
theorem resX_zero {b:Bool} {o q:Option Nat} {RA NA:List Int} (h:(resX b o q RA NA).1=0):b=true/\o=none/\q=none/\resX b o q RA NA=(0,0):=by
 unfold resX at h ⊢
 cases b <;> cases o <;> cases q <;> simp at h ⊢
theorem resS_zero {R:List Ru} {N:List Nd} {RA NA:List Int} {NM:List ByteArray} (h:(resS R N RA NA NM).1=0):whoR R N RA NA NM=true/\twR R N RA NA NM=none/\lsR R N RA NA NM=none/\resS R N RA NA NM=(0,0):=resX_zero h
/-- A node, as the document resolves it. -/
def rsD (R:List Ru) (NM:List ByteArray) (i:Nat) (x:Nd):Nd:=if x.kind=5 then { x with rule:=ruleIx R (NM.getD i ⟨#[]⟩) } else x
def rsN (R:List Ru) (NM:List ByteArray) (N:List Nd):List Nd:=N.mapIdx (rsD R NM)
theorem rsN_N {R:List Ru} {N:List Nd} {RA NA:List Int} {NM:List ByteArray} (h:(resS R N RA NA NM).1=0):resN R NM N=rsN R NM N:=by
 obtain ⟨h1,_,h3,_⟩:=resS_zero h
 unfold lsR at h3
 rw [if_pos h1,frst_none] at h3
 unfold resN rsN
 apply List.ext_getElem (by simp)
 intro i hi _
 have hi':i < N.length:=by simpa using hi
 simp only [List.getElem_mapIdx]
 unfold resD rsD
 by_cases hk:N[i].kind=5
 ·rw [if_pos hk,if_pos hk]
  have h4:=h3 i (Nat.zero_le _) (by omega)
  unfold losR at h4
  have e:(N.getD i ⟨0,0,0,0,0,⟨#[]⟩,0,0,[]⟩)=N[i]:=by rw [List.getD_eq_getElem?_getD,List.getElem?_eq_getElem hi'];rfl
  rw [e,hk] at h4
  simp only [decide_true,Bool.true_and,decide_eq_false_iff_not] at h4
  rw [fix_rule,if_neg h4]
  congr 1
  simp only [Nat.zero_add,Option.getD_some]
  omega
 ·rw [if_neg hk,if_neg hk]
end Go.Proofs.YtgjhepblpdnkcaaGreatDoor
namespace Go.Proofs.YtgjhepblpdnkcaaGreatDoor
open Go.RowKit
set_option maxRecDepth 100000
set_option maxHeartbeats 8000000

/-- The five slices of a tree that was read, as a grammar that lies in memory. -/
theorem TreeOut.gr {w w':World} {R:List Rr} {N:List Rn} {v1 v2 v3 v4 v5:Value} (h:TreeOut w w' R N v1 v2 v3 v4 v5) (hN:∀ x ∈ N,x.tx.length<=1000000) (hR:∀ r ∈ R,r.nm.length<=1000000):
  ∃ (ro no ao bo co:Option Addr) (rc nc ac bc cc:Nat) (NK:List Nk),v1=.slice ro R.length rc/\v2=.slice no N.length nc/\v3=.slice ao R.length ac/\v4=.slice bo N.length bc/\v5=.slice co N.length cc/\
   GrW w' ro R.length rc no N.length nc NK ⟨R.map Rr.ru,N.map Rn.nd⟩/\Sv w' ao R.length ac 1 (inc (R.map fun r=>(r.at_:Int)))/\Sv w' bo N.length bc 1 (inc (N.map fun x=>(x.at_:Int)))/\Sv w' co N.length cc 1 ((N.map fun x=>tx x.nm).map Value.string):=by
 obtain ⟨τ,NK,h2,h3,h4⟩:=h
 have hl:NK.length=N.length:=by have:=congrArg List.length h3;simpa using this
 obtain ⟨ro,rc,rfl,s1⟩:=h2.t2.sv
 obtain ⟨no,nc,rfl,s2⟩:=h2.t3.sv
 obtain ⟨ao,ac,rfl,s3⟩:=h2.t4.sv
 obtain ⟨bo,bc,rfl,s4⟩:=h2.t5.sv
 obtain ⟨co,cc,rfl,s5⟩:=h2.t6.sv
 simp only [List.length_map,hl] at s1 s2 s3 s4 s5
 refine ⟨ro,no,ao,bo,co,rc,nc,ac,bc,cc,NK,by rw [List.length_map],by rw [hl],by rw [List.length_map],by rw [List.length_map],by rw [List.length_map],⟨s1,fun r hr=>?_,⟨s2,fun p hp=>?_,fun p hp=>?_⟩,h3⟩,s3,s4,s5⟩
 ·obtain ⟨r',hr',rfl⟩:=List.mem_map.1 hr
  have:=hR r' hr'
  show (tx r'.nm).size<=_
  rw [tx_size];omega
 ·obtain ⟨i,hi,rfl⟩:=List.mem_iff_getElem.1 hp
  obtain ⟨a,c,e,s⟩:=(h2.kid i hi).sv
  cases e
  exact s
 ·have hm:p.1 ∈ N.map Rn.nd:=h3 ▸ List.mem_map_of_mem hp
  obtain ⟨x,hx,e⟩:=List.mem_map.1 hm
  have:=hN x hx
  rw [← e]
  show (tx x.tx).size<=_
  rw [tx_size];omega
end Go.Proofs.YtgjhepblpdnkcaaGreatDoor
namespace Go.Proofs.YtgjhepblpdnkcaaGreatDoor
open Go.RowKit
set_option maxRecDepth 100000
set_option maxHeartbeats 8000000
/-- Texts and names of what was read are no longer than the text. -/
theorem readT_tx {l:List UInt8} {R:List Rr} {N:List Rn} {e a:Nat} (h:readT l=((R,N),e,a)):(∀ x ∈ N,x.tx.length<=l.length)/\(∀ r ∈ R,r.nm.length<=l.length):=by
 by_cases he:e=0
 ·subst he
  obtain ⟨-,-,-,-,E,hE,-,hNm,-⟩:=preorder h
  refine ⟨fun x hx=>?_,fun r hr=>?_⟩
  ·obtain ⟨i,hi,rfl⟩:=List.mem_iff_getElem.1 hx
   exact (hE i hi).2.2.2.2.2.2
  ·obtain ⟨-,w,h1,h2⟩:=hNm r hr
   rw [← h2];exact nextW_tx h1
 ·obtain ⟨hX,-,-⟩:=readT_err h he
  cases hX
  exact ⟨fun x hx=>by simp at hx,fun x hx=>by simp at hx⟩
/-- What Text gives back: a tree (an empty one where it errs), its slices, the error. -/
theorem TxtP.tree {l:List UInt8} {w w':World} {e:Ending} {R:List Rr} {N:List Rn} {e0 a0:Nat} (h:TxtP l w e w') (hr:readT l=((R,N),e0,a0)) (hl:l.length<=1000000):
  ∃ (ro no ao bo co:Option Addr) (rc nc ac bc cc:Nat) (NK:List Nk),e=.returned (.tuple #[.agg #[.slice ro R.length rc,.slice no N.length nc,.slice ao R.length ac,.slice bo N.length bc,.slice co N.length cc],.agg #[.int .i64 e0,.int .i64 a0]])/\
   GrW w' ro R.length rc no N.length nc NK ⟨R.map Rr.ru,N.map Rn.nd⟩/\Sv w' ao R.length ac 1 (inc (R.map fun r=>(r.at_:Int)))/\Sv w' bo N.length bc 1 (inc (N.map fun x=>(x.at_:Int)))/\Sv w' co N.length cc 1 ((N.map fun x=>tx x.nm).map Value.string)/\Below w.heap.size w w':=by
 obtain ⟨v1,v2,v3,v4,v5,rfl,ht,hb⟩:=h
 rw [hr] at ht
 obtain ⟨h1,h2⟩:=readT_tx hr
 obtain ⟨ro,no,ao,bo,co,rc,nc,ac,bc,cc,NK,rfl,rfl,rfl,rfl,rfl,hG,hRA,hNA,hNM⟩:=ht.gr (fun x hx=>by have:=h1 x hx;omega) (fun r hr=>by have:=h2 r hr;omega)
 exact ⟨ro,no,ao,bo,co,rc,nc,ac,bc,cc,NK,by rw [hr],hG,hRA,hNA,hNM,hb⟩
theorem two_blocks (y:World) (g:Nat) (hg:y.heap.size=g) (a b:Array Value) (ta tb:TypeId):∃ z,(y.alloc (.cells a ta)).alloc (.cells b tb)=z/\hrow z g a ta/\hrow z (g+1) b tb/\Below y.heap.size y z:=by
 subst hg
 have h2:=hrow.new (y.alloc (.cells a ta)) b tb
 rw [World.size_alloc] at h2
 exact ⟨_,rfl,(hrow.new y a ta).below ((Below.refl _ _).alloc (Nat.le_refl _) _),h2,al2 (Below.refl _ _) _ _⟩
/-- A tree that was read, with its error, in two objects. -/
structure TrD (g:Nat) (ro no ao bo co:Option Addr) (rc nc ac bc cc:Nat) (NK:List Nk) (R:List Rr) (N:List Rn) (e a:Nat) (w:World):Prop where
 tr:hrow w g #[.slice ro R.length rc,.slice no N.length nc,.slice ao R.length ac,.slice bo N.length bc,.slice co N.length cc] 29
 dg:hrow w (g+1) #[.int .i64 e,.int .i64 a] 34
 gr:GrW w ro R.length rc no N.length nc NK ⟨R.map Rr.ru,N.map Rn.nd⟩
section
variable {g:Nat} {ro no ao bo co:Option Addr} {rc nc ac bc cc:Nat} {NK:List Nk} {R:List Rr} {N:List Rn} {e a:Nat} {w w':World}
theorem TrD.below (h:TrD g ro no ao bo co rc nc ac bc cc NK R N e a w) (hb:Below w.heap.size w w'):TrD g ro no ao bo co rc nc ac bc cc NK R N e a w':=⟨h.tr.below hb,h.dg.below hb,h.gr.below hb⟩
theorem TrD.new (y:World) (hg:y.heap.size=g) (h:GrW y ro R.length rc no N.length nc NK ⟨R.map Rr.ru,N.map Rn.nd⟩):∃ z,(y.alloc (.cells #[.slice ro R.length rc,.slice no N.length nc,.slice ao R.length ac,.slice bo N.length bc,.slice co N.length cc] 29)).alloc (.cells #[.int .i64 e,.int .i64 a] 34)=z/\TrD g ro no ao bo co rc nc ac bc cc NK R N e a z/\Below y.heap.size y z:=by
 obtain ⟨z,hz,z1,z2,zb⟩:=two_blocks y g hg #[.slice ro R.length rc,.slice no N.length nc,.slice ao R.length ac,.slice bo N.length bc,.slice co N.length cc] #[.int .i64 e,.int .i64 a] 29 34
 exact ⟨z,hz,⟨z1,z2,h.below zb⟩,zb⟩
end
end Go.Proofs.YtgjhepblpdnkcaaGreatDoor
namespace Go.Proofs.YtgjhepblpdnkcaaGreatDoor
open Go.RowKit
set_option maxRecDepth 100000
set_option maxHeartbeats 4000000

def ruT (l:List UInt8):List Ru:=(readT l).1.1.map Rr.ru
def ndT (l:List UInt8):List Nd:=(readT l).1.2.map Rn.nd
def raT (l:List UInt8):List Int:=(readT l).1.1.map fun r=>(r.at_:Int)
def naT (l:List UInt8):List Int:=(readT l).1.2.map fun x=>(x.at_:Int)
def nmT (l:List UInt8):List ByteArray:=(readT l).1.2.map fun x=>tx x.nm
/-- A tree's five slices. -/
def trA (ro no ao bo co:Option Addr) (rc nc ac bc cc rn nn an bn cn:Nat):Array Value:=#[.slice ro rn rc,.slice no nn nc,.slice ao an ac,.slice bo bn bc,.slice co cn cc]
/-- A tree that was read, as it lies. -/
structure TrT (w:World) (ro no ao bo co:Option Addr) (rc nc ac bc cc:Nat) (NK:List Nk) (l:List UInt8):Prop where
 t:TnW w ro no ao bo co rc nc ac bc cc (ruT l) NK (raT l) (naT l) (nmT l)
 k:∀ x ∈ NK,Sv w x.2.1 x.1.kids.length x.2.2 1 (inc x.1.kids)
 e:NK.map (·.1)=ndT l
theorem TrT.below {w w':World} {ro no ao bo co:Option Addr} {rc nc ac bc cc:Nat} {NK:List Nk} {l:List UInt8} (h:TrT w ro no ao bo co rc nc ac bc cc NK l) (hb:Below w.heap.size w w'):TrT w' ro no ao bo co rc nc ac bc cc NK l:=
 ⟨h.t.below hb,fun x hx=>(h.k x hx).below hb,h.e⟩
theorem ruT_len (l:List UInt8):(ruT l).length=(readT l).1.1.length:=by simp [ruT]
theorem raT_len (l:List UInt8):(raT l).length=(readT l).1.1.length:=by simp [raT]
theorem ndT_len (l:List UInt8):(ndT l).length=(readT l).1.2.length:=by simp [ndT]
theorem naT_len (l:List UInt8):(naT l).length=(readT l).1.2.length:=by simp [naT]
theorem nmT_len (l:List UInt8):(nmT l).length=(readT l).1.2.length:=by simp [nmT]
theorem TrT.len {w:World} {ro no ao bo co:Option Addr} {rc nc ac bc cc:Nat} {NK:List Nk} {l:List UInt8} (h:TrT w ro no ao bo co rc nc ac bc cc NK l):NK.length=(readT l).1.2.length:=by
 have:=congrArg List.length h.e
 rwa [List.length_map,ndT_len] at this
theorem TxtP.tn {l:List UInt8} {w w':World} {e:Ending} (h:TxtP l w e w') (hl:l.length<=1000000):
  ∃ (ro no ao bo co:Option Addr) (rc nc ac bc cc:Nat) (NK:List Nk),e=.returned (.tuple #[.agg (trA ro no ao bo co rc nc ac bc cc (ruT l).length NK.length (raT l).length (naT l).length (nmT l).length),.agg #[.int .i64 (readT l).2.1,.int .i64 (readT l).2.2]])/\
   TrT w' ro no ao bo co rc nc ac bc cc NK l/\Below w.heap.size w w':=by
 obtain ⟨ro,no,ao,bo,co,rc,nc,ac,bc,cc,NK,h1,hG,hRA,hNA,hNM,hb⟩:=h.tree (R:=(readT l).1.1) (N:=(readT l).1.2) (e0:=(readT l).2.1) (a0:=(readT l).2.2) rfl hl
 have hnl:NK.length=(readT l).1.2.length:=by have:=congrArg List.length hG.eq;simpa using this
 refine ⟨ro,no,ao,bo,co,rc,nc,ac,bc,cc,NK,?_,⟨⟨?_,?_,?_,?_,?_⟩,hG.nod.kids,hG.eq⟩,hb⟩
 ·rw [h1,ruT_len,raT_len,naT_len,nmT_len,hnl];rfl
 ·rw [ruT_len];exact hG.rul
 ·rw [hnl];exact hG.nod.sv
 ·rw [raT_len];exact hRA
 ·rw [naT_len];exact hNA
 ·rw [nmT_len];exact hNM
/-- A grammar in rows of its own, as it lies. -/
theorem GrO.gr {w:World} {B:Nat} {vr vn:Value} {R:List Ru} {N:List Nd} (h:GrO w B vr vn R N) (hr:∀ r ∈ R,r.name.size<=9223372036854775807) (hn:∀ x ∈ N,x.text.size<=9223372036854775807):
  ∃ (ro:Option Addr) (rc:Nat) (no:Option Addr) (nc:Nat) (NK:List Nk),vr=.slice ro R.length rc/\vn=.slice no NK.length nc/\GrW w ro R.length rc no NK.length nc NK ⟨R,N⟩:=by
 obtain ⟨NK,h1,h2,h3,h4⟩:=h.n
 obtain ⟨ro,rc,e1,s1⟩:=Sv.of_owns h.r
 obtain ⟨no,nc,e2,s2⟩:=Sv.of_owns h1
 refine ⟨ro,rc,no,nc,NK,e1,e2,⟨s1,hr,⟨s2,fun p hp=>?_,fun p hp=>hn p.1 (h2 ▸ List.mem_map_of_mem hp)⟩,h2⟩⟩
 obtain ⟨a,c,e,s⟩:=Sv.of_owns (h3 p hp)
 simp only [Value.slice.injEq,true_and] at e
 rw [e.1,e.2];exact s
theorem GrO.below {w w':World} {B:Nat} {vr vn:Value} {R:List Ru} {N:List Nd} (h:GrO w B vr vn R N) (hb:Below w.heap.size w w'):GrO w' B vr vn R N:=by
 have hf:=Fr.of_below (F:=fun _=>False) hb
 obtain ⟨NK,h1,h2,h3,h4⟩:=h.n
 exact ⟨owns_fr h.r hf (fun _ _ e=>e),NK,owns_fr h1 hf (fun _ _ e=>e),h2,fun x hx=>owns_fr (h3 x hx) hf (fun _ _ e=>e),h4⟩
theorem resN_text {R:List Ru} {NM:List ByteArray} {N:List Nd} {x:Nd} (h:x ∈ resN R NM N):∃ y ∈ N,x.text=y.text/\x.kids=y.kids:=by
 unfold resN at h
 obtain ⟨i,hi,rfl⟩:=List.mem_iff_getElem.1 h
 have h3:i < N.length:=by simpa using hi
 refine ⟨N[i],List.getElem_mem h3,?_,?_⟩
 ·simp only [List.getElem_mapIdx];unfold resD;split <;> rfl
 ·simp only [List.getElem_mapIdx];exact resD_kids _ _ _ _
theorem resN_len (R:List Ru) (NM:List ByteArray) (N:List Nd):(resN R NM N).length=N.length:=by simp [resN]
end Go.Proofs.YtgjhepblpdnkcaaGreatDoor
