/- Walks and plain laws: Gf Gg Kd. -/
import Derived.Test.YtgjhepblpdnkcaaGreatDoorM15
import Derived.Test.YtgjhepblpdnkcaaGreatDoorM13
namespace Go.Proofs.YtgjhepblpdnkcaaGreatDoor
open Go.RowKit Go.ChangeMaps
set_option maxRecDepth 100000
set_option maxHeartbeats 8000000

/-- A tree, as it lies: rules, nodes, places, names. -/
structure TnW (w:World) (ro no ao bo co:Option Addr) (rc nc ac bc cc:Nat) (R:List Ru) (NK:List Nk) (RA NA:List Int) (NM:List ByteArray):Prop where
 r:Sv w ro R.length rc 2 (R.flatMap ruc)
 n:Sv w no NK.length nc 9 (NK.flatMap ndc)
 ra:Sv w ao RA.length ac 1 (inc RA)
 na:Sv w bo NA.length bc 1 (inc NA)
 nm:Sv w co NM.length cc 1 (NM.map Value.string)
theorem TnW.below {w w':World} {ro no ao bo co:Option Addr} {rc nc ac bc cc:Nat} {R:List Ru} {NK:List Nk} {RA NA:List Int} {NM:List ByteArray} (h:TnW w ro no ao bo co rc nc ac bc cc R NK RA NA NM) (hb:Below w.heap.size w w'):TnW w' ro no ao bo co rc nc ac bc cc R NK RA NA NM:=
 ⟨h.r.below hb,h.n.below hb,h.ra.below hb,h.na.below hb,h.nm.below hb⟩
theorem msi_und:Tryz.prog.underlying 84=some (.map 9 3):=by kernel_rfl
theorem int_zero (w:World):(zeroValue 3).run Tryz.prog w=.ok (.int .i64 0) w:=by kernel_rfl
def twiB (R:List Ru) (k:Nat):Bool:=decide (fixF R (ruAt R k).name 0 ≠ some k)
def losB (R:List Ru) (NK:List Nk) (NM:List ByteArray) (n:Nat):Bool:=decide ((NK.getD n (⟨0,0,0,0,0,⟨#[]⟩,0,0,[]⟩,(none,0))).1.kind=5) && (fixF R (NM.getD n ⟨#[]⟩) 0).isNone
theorem twice_any (w:World) (ro no ao bo co:Option Addr) (rc nn nc an ac bn bc cn cc gm:Nat) (R:List Ru) (k:Nat) (hR:Sv w ro R.length rc 2 (R.flatMap ruc)) (hM:MapS w gm (fun s=>fixF R s 0)) (hk:k < R.length):
  Calls Tryz.prog 68 #[.agg #[.slice ro R.length rc,.slice no nn nc,.slice ao an ac,.slice bo bn bc,.slice co cn cc,.map (some gm)],.int .i64 k] w fun e w'=>e=.returned (.bool (twiB R k))/\Below w.heap.size w w':=by
 obtain ⟨g,hg⟩:∃ g,w.heap.size=g:=⟨_,rfl⟩
 have hb:=(Below.refl w.heap.size w).alloc (Nat.le_refl _) (.cells #[.slice ro R.length rc,.slice no nn nc,.slice ao an ac,.slice bo bn bc,.slice co cn cc,.map (some gm)] 86)
 obtain ⟨z,hz⟩:∃ z,w.alloc (.cells #[.slice ro R.length rc,.slice no nn nc,.slice ao an ac,.slice bo bn bc,.slice co cn cc,.map (some gm)] 86)=z:=⟨_,rfl⟩
 have hr:=hrow.new w #[.slice ro R.length rc,.slice no nn nc,.slice ao an ac,.slice bo bn bc,.slice co cn cc,.map (some gm)] 86
 rw [hz] at hb hr
 rw [hg] at hr
 have hRz:=hR.below hb
 have hMz:=hM.below hb
 obtain ⟨a,rfl,hc⟩:=Sv.at ruc_len hRz (by decide) k hk
 have hbd:=hRz.bound
 have hn0:z.cell? (a.add (k * 2))=some (.string R[k].name):=by
  have:=hc 0 _ rfl
  rwa [show (a.add (k * 2)).add 0=a.add (k * 2) by unfold Addr.add;simp] at this
 have hkI:(k:Int) < R.length:=by omega
 obtain ⟨s,hs⟩:∃ s,R[k].name=s:=⟨_,rfl⟩
 rw [hs] at hn0
 obtain ⟨j,hj,hjk⟩:=fixF_self R 0 k hk
 rw [hs] at hj
 have hlk0:=fun (v:Later z)=>(hMz.below v.ok).look (P:=Tryz.prog) (t:=84) (kt:=9) (e:=3) strU msi_und (int_zero v.val) s false
 simp only [hj] at hlk0
 have c0:∀ v:Later z,v.val.cell? ⟨g,0,none⟩=some (.slice (some a) R.length rc):=fun v=>(hr.below v.ok).cell 0
 have c5:∀ v:Later z,v.val.cell? ⟨g,5,none⟩=some (.map (some gm)):=fun v=>(hr.below v.ok).cell 5
 have n0:∀ v:Later z,v.val.cell? (a.add (k * 2))=some (.string s):=fun v=>(v.ok.cell (World.block_lt_of_cell? z _ hn0)).trans hn0
 have HZ:=Lib.hid hz;have HG:=Lib.hid hg;have HB:=Lib.hid hb
 have HT:Hid (twiB R k=decide ((j:Int) ≠ k)):=by
  unfold Hid twiB
  rw [ruAt_in hk,hs,hj]
  congr 1
  simp only [ne_eq,Option.some.injEq,eq_iff_iff]
  omega
 clear hR hM hz hg hb hr hRz hMz hc hn0 hs hj hjk hk
 go_enter Tryz.func68,Tryz.ntmps68
 go_upto_region 1 with (fail)
 rw [HZ.out,HG.out]
 by_cases hjj:j=k
 ·have hq:((j:Int) != k)=false:=by rw [hjj];simp
  have HTT:Hid (twiB R k=false):=by unfold Hid;rw [HT.out,hjj];simp
  clear hjj
  refine wp_region_later (by kernel_rfl) (by kernel_rfl) ?_
  repeat (go_big_quiet_step (fail))
  refine wpQuiet_nil ?_
  intro w5 hw5
  obtain ⟨y,rfl⟩:=hw5
  have HB5:=Lib.hid (HB.out.trans (y.ok.mono HB.out.size))
  go_wp2_with fail
  go_ret
  exact ⟨by rw [HTT.out];rfl,HB5.out⟩
 ·have hq:((j:Int) != k)=true:=by rw [bne_iff_ne];omega
  have HTT:Hid (twiB R k=true):=by unfold Hid;rw [HT.out];simp;omega
  clear hjj
  refine wp_region_later (by kernel_rfl) (by kernel_rfl) ?_
  repeat (go_big_quiet_step (fail))
  refine wpQuiet_nil ?_
  intro w5 hw5
  obtain ⟨y,rfl⟩:=hw5
  have HB5:=Lib.hid (HB.out.trans (y.ok.mono HB.out.size))
  go_wp2_with fail
  go_ret
  exact ⟨by rw [HTT.out];rfl,HB5.out⟩
theorem lost_any (w:World) (ro no ao bo co:Option Addr) (rc nc an ac bn bc cc gm:Nat) (R:List Ru) (NK:List Nk) (NM:List ByteArray) (k:Nat) (hN:Sv w no NK.length nc 9 (NK.flatMap ndc)) (hS:Sv w co NM.length cc 1 (NM.map Value.string)) (hM:MapS w gm (fun s=>fixF R s 0)) (hk:k < NK.length) (hk2:k < NM.length):
  Calls Tryz.prog 69 #[.agg #[.slice ro R.length rc,.slice no NK.length nc,.slice ao an ac,.slice bo bn bc,.slice co NM.length cc,.map (some gm)],.int .i64 k] w fun e w'=>e=.returned (.bool (losB R NK NM k))/\Below w.heap.size w w':=by
 obtain ⟨rn,hrn⟩:∃ n,R.length=n:=⟨_,rfl⟩
 rw [hrn]
 clear hrn
 obtain ⟨g,hg⟩:∃ g,w.heap.size=g:=⟨_,rfl⟩
 have hb:=(Below.refl w.heap.size w).alloc (Nat.le_refl _) (.cells #[.slice ro rn rc,.slice no NK.length nc,.slice ao an ac,.slice bo bn bc,.slice co NM.length cc,.map (some gm)] 86)
 obtain ⟨z,hz⟩:∃ z,w.alloc (.cells #[.slice ro rn rc,.slice no NK.length nc,.slice ao an ac,.slice bo bn bc,.slice co NM.length cc,.map (some gm)] 86)=z:=⟨_,rfl⟩
 have hr:=hrow.new w #[.slice ro rn rc,.slice no NK.length nc,.slice ao an ac,.slice bo bn bc,.slice co NM.length cc,.map (some gm)] 86
 rw [hz] at hb hr
 rw [hg] at hr
 have hNz:=hN.below hb
 have hSz:=hS.below hb
 have hMz:=hM.below hb
 obtain ⟨a,rfl,hc⟩:=Sv.at ndc_len hNz (by decide) k hk
 obtain ⟨b,rfl,hs0⟩:=hSz.str k hk2
 have hbd:=hNz.bound
 have hbd2:=hSz.bound
 obtain ⟨s,hs⟩:∃ s,NM[k]=s:=⟨_,rfl⟩
 rw [hs] at hs0
 obtain ⟨x,hx⟩:∃ x,NK[k]=x:=⟨_,rfl⟩
 have hn0:z.cell? (a.add (k * 9))=some (.int .i64 x.1.kind):=by
  have:=hc 0 _ rfl
  rw [show (a.add (k * 9)).add 0=a.add (k * 9) by unfold Addr.add;simp] at this
  rw [this,hx]
 have HL:Hid (losB R NK NM k=(decide (x.1.kind=5) && (fixF R s 0).isNone)):=by
  unfold Hid losB
  rw [List.getD_eq_getElem?_getD,List.getElem?_eq_getElem hk,List.getD_eq_getElem?_getD,List.getElem?_eq_getElem hk2,Option.getD_some,Option.getD_some,hx,hs]
 have hkI:(k:Int) < NK.length:=by omega
 have hkI2:(k:Int) < NM.length:=by omega
 have HNK:=Lib.hid hn0
 have HRR:=Lib.hid hr
 have hlk0:=fun (v:Later z)=>(hMz.below v.ok).look (P:=Tryz.prog) (t:=84) (kt:=9) (e:=3) strU msi_und (int_zero v.val) s true
 have c4:∀ v:Later z,v.val.cell? ⟨g,4,none⟩=some (.slice (some b) NM.length cc):=fun v=>(hr.below v.ok).cell 4
 have c5:∀ v:Later z,v.val.cell? ⟨g,5,none⟩=some (.map (some gm)):=fun v=>(hr.below v.ok).cell 5
 have n0:∀ v:Later z,v.val.cell? (b.add k)=some (.string s):=fun v=>(v.ok.cell (World.block_lt_of_cell? z _ hs0)).trans hs0
 have HZ:=Lib.hid hz;have HG:=Lib.hid hg;have HB:=Lib.hid hb
 clear hN hS hM hz hg hb hr hNz hSz hMz hc hn0 hs hx hk hk2 hs0
 go_enter Tryz.func69,Tryz.ntmps69
 go_upto_region 1 with (fail)
 rw [HZ.out,HG.out]
 cases hF:fixF R s 0 with
 | some j=>
  simp only [hF] at hlk0
  have HLL:Hid (losB R NK NM k=false):=by unfold Hid;rw [HL.out,hF];simp
  clear hF
  refine wp_region_later (by kernel_rfl) (by kernel_rfl) ?_
  repeat (go_big_quiet_step (fail))
  refine wpQuiet_nil ?_
  intro w5 hw5
  obtain ⟨y,rfl⟩:=hw5
  have HB5:=Lib.hid (HB.out.trans (y.ok.mono HB.out.size))
  have k1:y.val.cell? ⟨g,1,none⟩=some (.slice (some a) NK.length nc):=(HRR.out.below y.ok).cell 1
  have k2:y.val.cell? (a.add (k * 9))=some (.int .i64 x.1.kind):=(y.ok.cell (World.block_lt_of_cell? z _ HNK.out)).trans HNK.out
  by_cases hq:x.1.kind=5
  ·have hq2:(x.1.kind == 5)=true:=by rw [hq];rfl
   clear hq
   go_wp2_with fail
   go_ret
   exact ⟨by rw [HLL.out];rfl,HB5.out⟩
  ·have hq2:(x.1.kind == 5)=false:=by rw [beq_eq_false_iff_ne];exact hq
   clear hq
   go_wp2_with fail
   go_ret
   exact ⟨by rw [HLL.out];rfl,HB5.out⟩
 | none=>
  simp only [hF] at hlk0
  have HLL:Hid (losB R NK NM k=decide (x.1.kind=5)):=by unfold Hid;rw [HL.out,hF];simp
  clear hF
  refine wp_region_later (by kernel_rfl) (by kernel_rfl) ?_
  repeat (go_big_quiet_step (fail))
  refine wpQuiet_nil ?_
  intro w5 hw5
  obtain ⟨y,rfl⟩:=hw5
  have HB5:=Lib.hid (HB.out.trans (y.ok.mono HB.out.size))
  have k1:y.val.cell? ⟨g,1,none⟩=some (.slice (some a) NK.length nc):=(HRR.out.below y.ok).cell 1
  have k2:y.val.cell? (a.add (k * 9))=some (.int .i64 x.1.kind):=(y.ok.cell (World.block_lt_of_cell? z _ HNK.out)).trans HNK.out
  by_cases hq:x.1.kind=5
  ·have hq2:(x.1.kind == 5)=true:=by rw [hq];rfl
   have HQ:=Lib.hid hq
   clear hq
   go_wp2_with fail
   go_ret
   exact ⟨by rw [HLL.out,HQ.out];rfl,HB5.out⟩
  ·have hq2:(x.1.kind == 5)=false:=by rw [beq_eq_false_iff_ne];exact hq
   have HQ:=Lib.hid hq
   clear hq
   go_wp2_with fail
   go_ret
   exact ⟨by rw [HLL.out,decide_eq_false HQ.out];rfl,HB5.out⟩
end Go.Proofs.YtgjhepblpdnkcaaGreatDoor
namespace Go.Proofs.YtgjhepblpdnkcaaGreatDoor
open Go.RowKit Go.ChangeMaps Go.Shelf
set_option maxRecDepth 100000
set_option maxHeartbeats 8000000

theorem load_ntree {ops:Array Oper} {rest:List Oper} {o:Oper} {a:Act} {w:World} {Q:Exit->Act->World->Prop} (hgd:o.guard=none) (x:Operand) (ho:o.op=.load 86 x)
  (g:Nat) (hx:a.eval x=.pointer (some ⟨g,0,none⟩)) (cs:Array Value) (hg:hrow w g cs 86) (hs:cs.size=6)
  (h:wpList Tryz.prog ops Q rest (a.put o.dst (.agg cs)) w):wpList Tryz.prog ops Q (o :: rest) a w:=
 wpList_load_row hgd _ x ho g hx _ _ _ _ hg.h Tryz.underlying86 rfl (hs ▸ ntr_info) h
def whoB (R:List Ru) (NK:List Nk) (RA NA:List Int) (NM:List ByteArray):Bool:=decide (RA.length=R.length) && (decide (NA.length=NK.length) && decide (NM.length=NA.length))
/-- The first rule with a name that a rule ahead of it has; the first call of a name that no rule has. -/
def twcF (R:List Ru) (NK:List Nk) (RA NA:List Int) (NM:List ByteArray):Option Nat:=if whoB R NK RA NA NM then frst (twiB R) RA.length 0 else none
def lstF (R:List Ru) (NK:List Nk) (RA NA:List Int) (NM:List ByteArray):Option Nat:=if whoB R NK RA NA NM then frst (losB R NK NM) NA.length 0 else none
theorem Twice_any (w:World) (ro no ao bo co:Option Addr) (rc nc ac bc cc:Nat) (R:List Ru) (NK:List Nk) (RA NA:List Int) (NM:List ByteArray) (hT:TnW w ro no ao bo co rc nc ac bc cc R NK RA NA NM) (hl1:R.length<=1000000) (hl2:RA.length<=1000000):
  Calls Tryz.prog 28 #[.agg #[.slice ro R.length rc,.slice no NK.length nc,.slice ao RA.length ac,.slice bo NA.length bc,.slice co NM.length cc]] w fun e w'=>e=.returned (.tuple (frV (twcF R NK RA NA NM)))/\Below w.heap.size w w':=by
 have hmf:∀ (fn:Fn) (first cap:Array Value) (w:World),(Instr.makeFunc fn first cap).run Tryz.prog w=.ok (.func fn first cap) w:=fun _ _ _ _=>rfl
 obtain ⟨g,hg⟩:∃ g,w.heap.size=g:=⟨_,rfl⟩
 have hb:=(Below.refl w.heap.size w).alloc (Nat.le_refl _) (.cells #[.slice ro R.length rc,.slice no NK.length nc,.slice ao RA.length ac,.slice bo NA.length bc,.slice co NM.length cc] 29)
 obtain ⟨z,hz⟩:∃ z,w.alloc (.cells #[.slice ro R.length rc,.slice no NK.length nc,.slice ao RA.length ac,.slice bo NA.length bc,.slice co NM.length cc] 29)=z:=⟨_,rfl⟩
 have hr:=hrow.new w #[.slice ro R.length rc,.slice no NK.length nc,.slice ao RA.length ac,.slice bo NA.length bc,.slice co NM.length cc] 29
 rw [hz] at hb hr
 rw [hg] at hr
 have HO:=Lib.hid (open_any z ro no ao bo co rc NK.length nc RA.length ac NA.length bc NM.length cc R (hT.below hb).r hl1)
 have HT:=Lib.hid (hT.below hb)
 have HZ:=Lib.hid hz;have HG:=Lib.hid hg;have HB:=Lib.hid hb;have HR:=Lib.hid hr;have HL:=Lib.hid hl2
 clear hT hz hg hb hr hl1 hl2
 unfold OpnP at HO
 go_enter Tryz.func28,Tryz.ntmps28
 go_upto_region 1 with (fail)
 rw [HZ.out,HG.out]
 go_wp2_with (refine load_rtree rfl (.tmp 1) rfl g rfl _ HR.out rfl ?_)
 refine HO.out.mono ?_
 rintro e x ⟨gm,rfl,hm,hbx⟩
 have hbl:=(Below.refl x.heap.size x).alloc (Nat.le_refl _) (.cells #[.slice ro R.length rc,.slice no NK.length nc,.slice ao RA.length ac,.slice bo NA.length bc,.slice co NM.length cc,.map (some gm)] 86)
 have HN:=Lib.hid (hrow.new x #[.slice ro R.length rc,.slice no NK.length nc,.slice ao RA.length ac,.slice bo NA.length bc,.slice co NM.length cc,.map (some gm)] 86)
 have HM:=Lib.hid (hm.below hbl)
 have hbb:=hbx.trans (hbl.mono hbx.size)
 have HT2:=Lib.hid (HT.out.below hbb)
 have HR2:=Lib.hid (HR.out.below hbb)
 have HB2:=Lib.hid (HB.out.trans (hbb.mono HB.out.size))
 clear hm hbx hbl hbb HO HT HR HB HZ HG
 obtain ⟨b,hb⟩:∃ b,(decide (RA.length=R.length) && (decide (NA.length=NK.length) && decide (NM.length=NA.length)))=b:=⟨_,rfl⟩
 have HBB:=Lib.hid hb
 simp only [List.push_toArray,List.cons_append,List.nil_append] at *
 rw [hb]
 clear hb
 go_upto_region 2 with (fail)
 revert HN HM HT2 HR2 HB2
 generalize x.alloc (.cells #[.slice ro R.length rc,.slice no NK.length nc,.slice ao RA.length ac,.slice bo NA.length bc,.slice co NM.length cc,.map (some gm)] 86)=y
 generalize x.heap.size=g4
 intro HN HM HT2 HR2 HB2
 cases b with
 | true=>
  have hw:=HBB.out
  simp only [Bool.and_eq_true,decide_eq_true_eq] at hw
  obtain ⟨h1,h2,h3⟩:=hw
  have HF:=Lib.hid (first_any y RA.length (by have:=HL.out;omega) (twiB R) 68 (.agg #[.slice ro R.length rc,.slice no NK.length nc,.slice ao RA.length ac,.slice bo NA.length bc,.slice co NM.length cc,.map (some gm)]) (enters_of Tryz.func68 (by kernel_rfl) rfl) (fun k hk v hv=>by
   have h:=HT2.out.below hv
   exact twice_any v ro no ao bo co rc NK.length nc RA.length ac NA.length bc NM.length cc gm R k h.r (HM.out.below hv) (by omega)))
  have kc:=HR2.out.cell 2
  clear h1 h2 h3
  go_wp2_with (refine load_ntree rfl (.tmp 4) rfl g4 rfl _ HN.out rfl ?_)
  refine HF.out.mono ?_
  rintro e v ⟨rfl,hbv⟩
  have HB3:=Lib.hid (HB2.out.trans (hbv.mono HB2.out.size))
  have HW:Hid (twcF R NK RA NA NM=frst (twiB R) RA.length 0):=by unfold Hid twcF whoB;rw [HBB.out];rfl
  clear hbv HF kc
  cases hf:frst (twiB R) RA.length 0 with
  | none=>
   have HFF:=Lib.hid hf
   unfold frV
   clear hf
   go_wp2_with fail
   go_ret2
   exact ⟨by rw [HW.out,HFF.out];rfl,HB3.out⟩
  | some i=>
   have HFF:=Lib.hid hf
   unfold frV
   clear hf
   go_wp2_with fail
   go_ret2
   exact ⟨by rw [HW.out,HFF.out];rfl,HB3.out⟩
 | false=>
  have HW:Hid (twcF R NK RA NA NM=none):=by unfold Hid twcF whoB;rw [HBB.out];rfl
  go_wp2_with fail
  go_ret2
  exact ⟨by rw [HW.out];rfl,HB2.out⟩
theorem Lost_any (w:World) (ro no ao bo co:Option Addr) (rc nc ac bc cc:Nat) (R:List Ru) (NK:List Nk) (RA NA:List Int) (NM:List ByteArray) (hT:TnW w ro no ao bo co rc nc ac bc cc R NK RA NA NM) (hl1:R.length<=1000000) (hl2:NA.length<=1000000):
  Calls Tryz.prog 30 #[.agg #[.slice ro R.length rc,.slice no NK.length nc,.slice ao RA.length ac,.slice bo NA.length bc,.slice co NM.length cc]] w fun e w'=>e=.returned (.tuple (frV (lstF R NK RA NA NM)))/\Below w.heap.size w w':=by
 have hmf:∀ (fn:Fn) (first cap:Array Value) (w:World),(Instr.makeFunc fn first cap).run Tryz.prog w=.ok (.func fn first cap) w:=fun _ _ _ _=>rfl
 obtain ⟨g,hg⟩:∃ g,w.heap.size=g:=⟨_,rfl⟩
 have hb:=(Below.refl w.heap.size w).alloc (Nat.le_refl _) (.cells #[.slice ro R.length rc,.slice no NK.length nc,.slice ao RA.length ac,.slice bo NA.length bc,.slice co NM.length cc] 29)
 obtain ⟨z,hz⟩:∃ z,w.alloc (.cells #[.slice ro R.length rc,.slice no NK.length nc,.slice ao RA.length ac,.slice bo NA.length bc,.slice co NM.length cc] 29)=z:=⟨_,rfl⟩
 have hr:=hrow.new w #[.slice ro R.length rc,.slice no NK.length nc,.slice ao RA.length ac,.slice bo NA.length bc,.slice co NM.length cc] 29
 rw [hz] at hb hr
 rw [hg] at hr
 have HO:=Lib.hid (open_any z ro no ao bo co rc NK.length nc RA.length ac NA.length bc NM.length cc R (hT.below hb).r hl1)
 have HT:=Lib.hid (hT.below hb)
 have HZ:=Lib.hid hz;have HG:=Lib.hid hg;have HB:=Lib.hid hb;have HR:=Lib.hid hr;have HL:=Lib.hid hl2
 clear hT hz hg hb hr hl1 hl2
 unfold OpnP at HO
 go_enter Tryz.func30,Tryz.ntmps30
 go_upto_region 1 with (fail)
 rw [HZ.out,HG.out]
 go_wp2_with (refine load_rtree rfl (.tmp 1) rfl g rfl _ HR.out rfl ?_)
 refine HO.out.mono ?_
 rintro e x ⟨gm,rfl,hm,hbx⟩
 have hbl:=(Below.refl x.heap.size x).alloc (Nat.le_refl _) (.cells #[.slice ro R.length rc,.slice no NK.length nc,.slice ao RA.length ac,.slice bo NA.length bc,.slice co NM.length cc,.map (some gm)] 86)
 have HN:=Lib.hid (hrow.new x #[.slice ro R.length rc,.slice no NK.length nc,.slice ao RA.length ac,.slice bo NA.length bc,.slice co NM.length cc,.map (some gm)] 86)
 have HM:=Lib.hid (hm.below hbl)
 have hbb:=hbx.trans (hbl.mono hbx.size)
 have HT2:=Lib.hid (HT.out.below hbb)
 have HR2:=Lib.hid (HR.out.below hbb)
 have HB2:=Lib.hid (HB.out.trans (hbb.mono HB.out.size))
 clear hm hbx hbl hbb HO HT HR HB HZ HG
 obtain ⟨b,hb⟩:∃ b,(decide (RA.length=R.length) && (decide (NA.length=NK.length) && decide (NM.length=NA.length)))=b:=⟨_,rfl⟩
 have HBB:=Lib.hid hb
 simp only [List.push_toArray,List.cons_append,List.nil_append] at *
 rw [hb]
 clear hb
 go_upto_region 2 with (fail)
 revert HN HM HT2 HR2 HB2
 generalize x.alloc (.cells #[.slice ro R.length rc,.slice no NK.length nc,.slice ao RA.length ac,.slice bo NA.length bc,.slice co NM.length cc,.map (some gm)] 86)=y
 generalize x.heap.size=g4
 intro HN HM HT2 HR2 HB2
 cases b with
 | true=>
  have hw:=HBB.out
  simp only [Bool.and_eq_true,decide_eq_true_eq] at hw
  obtain ⟨h1,h2,h3⟩:=hw
  have HF:=Lib.hid (first_any y NA.length (by have:=HL.out;omega) (losB R NK NM) 69 (.agg #[.slice ro R.length rc,.slice no NK.length nc,.slice ao RA.length ac,.slice bo NA.length bc,.slice co NM.length cc,.map (some gm)]) (enters_of Tryz.func69 (by kernel_rfl) rfl) (fun k hk v hv=>by
   have h:=HT2.out.below hv
   exact lost_any v ro no ao bo co rc nc RA.length ac NA.length bc cc gm R NK NM k h.n h.nm (HM.out.below hv) (by omega) (by omega)))
  have kc:=HR2.out.cell 3
  clear h1 h2 h3
  go_wp2_with (refine load_ntree rfl (.tmp 4) rfl g4 rfl _ HN.out rfl ?_)
  refine HF.out.mono ?_
  rintro e v ⟨rfl,hbv⟩
  have HB3:=Lib.hid (HB2.out.trans (hbv.mono HB2.out.size))
  have HW:Hid (lstF R NK RA NA NM=frst (losB R NK NM) NA.length 0):=by unfold Hid lstF whoB;rw [HBB.out];rfl
  clear hbv HF kc
  cases hf:frst (losB R NK NM) NA.length 0 with
  | none=>
   have HFF:=Lib.hid hf
   unfold frV
   clear hf
   go_wp2_with fail
   go_ret2
   exact ⟨by rw [HW.out,HFF.out];rfl,HB3.out⟩
  | some i=>
   have HFF:=Lib.hid hf
   unfold frV
   clear hf
   go_wp2_with fail
   go_ret2
   exact ⟨by rw [HW.out,HFF.out];rfl,HB3.out⟩
 | false=>
  have HW:Hid (lstF R NK RA NA NM=none):=by unfold Hid lstF whoB;rw [HBB.out];rfl
  go_wp2_with fail
  go_ret2
  exact ⟨by rw [HW.out];rfl,HB2.out⟩
end Go.Proofs.YtgjhepblpdnkcaaGreatDoor
namespace Go.Proofs.YtgjhepblpdnkcaaGreatDoor
open Go

/-- Which may come up: 0 the map; 1, 2 the text; 3 the lookup; 4, 5 the place; 6 the part; 7, 8 the call and the store. -/
def rdyO (l0 l1 l2 l3 l4 l5 l6:Bool):Nat->Bool
 | 0=>!l0
 | 1=>!l1
 | 2=>!l2 && l1
 | 3=>!l3 && (l0 && l2)
 | 4=>!l4
 | 5=>!l5 && l4
 | 6=>!l6
 | 7=>l3 && (l5 && (l6 && l0))
 | _=>false
/-- The slots, so far. -/
def tmO (A:Array Value) (d:Nat) (v0 v1 v2 v3 v4 v5 v6:Value) (l0 l1 l2 l3 l4 l5 l6:Bool):Array Value:=
 ((((((A.setIfInBounds d (bif l0 then v0 else A.getD d undef)).setIfInBounds (d+1) (bif l1 then v1 else A.getD (d+1) undef)).setIfInBounds (d+2) (bif l2 then v2 else A.getD (d+2) undef)).setIfInBounds (d+3) (bif l3 then v3 else A.getD (d+3) undef)).setIfInBounds (d+4) (bif l4 then v4 else A.getD (d+4) undef)).setIfInBounds (d+5) (bif l5 then v5 else A.getD (d+5) undef)).setIfInBounds (d+6) (bif l6 then v6 else A.getD (d+6) undef)
def InvO (A:Array Value) (D:List Deferred) (d:Nat) (v0 v1 v2 v3 v4 v5 v6:Value) (w0 w1:World) (f:Nat) (listed:Array Bool) (a:Act) (w:World):Prop:=
 ∃ l0 l1 l2 l3 l4 l5 l6:Bool,listed=#[l0,l1,l2,l3,l4,l5,l6,false,false]/\(l2=true->l1=true)/\(l3=true->l0=true/\l2=true)/\(l5=true->l4=true)/\
  f+l0.toNat+l1.toNat+l2.toNat+l3.toNat+l4.toNat+l5.toNat+l6.toNat=7/\a={ tmps:=tmO A d v0 v1 v2 v3 v4 v5 v6 l0 l1 l2 l3 l4 l5 l6,defers:=D }/\w=bif l0 then w1 else w0
theorem set_self {A:Array Value} {k:Nat} {u:Value}:A.setIfInBounds k (A.getD k u)=A:=by
 rcases Nat.lt_or_ge k A.size with h | h
 ·apply Array.ext
  ·simp
  ·intro i h1 h2
   rw [Array.getElem_setIfInBounds (by simpa using h2)]
   split
   ·rename_i e
    subst e
    simp
   ·rfl
 ·rw [Array.setIfInBounds_def,dif_neg (by omega)]
theorem tO_none (A:Array Value) (d:Nat) (v0 v1 v2 v3 v4 v5 v6:Value):tmO A d v0 v1 v2 v3 v4 v5 v6 false false false false false false false=A:=by
 unfold tmO
 simp only [cond_false,set_self]
section
variable {F:Fence} {n:Nat} {P:Program} {ops:Array Oper} {Q:Exit->Act->World->Prop} {A:Array Value} {D:List Deferred} {d:Nat} {v0 v1 v2 v3 v4 v5 v6:Value} {w w1:World}
/-- What one operation leaves. -/
def opO (F:Fence) (n:Nat) (P:Program) (ops:Array Oper) (Q:Exit->Act->World->Prop) (i:Nat) (a:Act) (w:World) (a':Act) (w':World):Prop:=∃ o,ops[i]?=some o/\∀ K:Act->World->Prop,K a' w'->wpListIn F n P ops (Exit.then K Q) [o] a w
theorem wpIn_over_region {id:Nat} (hm:P.follows .mixedOrders=true) (hsz:ops.size=9) (d:Nat) (v0 v1 v2 v3 v4 v5 v6:Value) (w1:World)
  (hr:∀ l0 l1 l2 l3 l4 l5 l6:Bool,Region.ready .any ops #[l0,l1,l2,l3,l4,l5,l6,false,false]=(List.range 9).filter (rdyO l0 l1 l2 l3 l4 l5 l6))
  (hr8:Region.ready .any ops #[true,true,true,true,true,true,true,true,false]=[8]) (hr9:Region.ready .any ops #[true,true,true,true,true,true,true,true,true]=[])
  (h0:∀ l1 l2 l4 l5 l6:Bool,opO F n P ops Q 0 { tmps:=tmO A d v0 v1 v2 v3 v4 v5 v6 false l1 l2 false l4 l5 l6,defers:=D } w.drew { tmps:=tmO A d v0 v1 v2 v3 v4 v5 v6 true l1 l2 false l4 l5 l6,defers:=D } w1)
  (h1:∀ l0 l4 l5 l6:Bool,opO F n P ops Q 1 { tmps:=tmO A d v0 v1 v2 v3 v4 v5 v6 l0 false false false l4 l5 l6,defers:=D } (bif l0 then w1 else w.drew) { tmps:=tmO A d v0 v1 v2 v3 v4 v5 v6 l0 true false false l4 l5 l6,defers:=D } (bif l0 then w1 else w.drew))
  (h2:∀ l0 l4 l5 l6:Bool,opO F n P ops Q 2 { tmps:=tmO A d v0 v1 v2 v3 v4 v5 v6 l0 true false false l4 l5 l6,defers:=D } (bif l0 then w1 else w.drew) { tmps:=tmO A d v0 v1 v2 v3 v4 v5 v6 l0 true true false l4 l5 l6,defers:=D } (bif l0 then w1 else w.drew))
  (h3:∀ l4 l5 l6:Bool,opO F n P ops Q 3 { tmps:=tmO A d v0 v1 v2 v3 v4 v5 v6 true true true false l4 l5 l6,defers:=D } w1 { tmps:=tmO A d v0 v1 v2 v3 v4 v5 v6 true true true true l4 l5 l6,defers:=D } w1)
  (h4:∀ l0 l1 l2 l3 l6:Bool,opO F n P ops Q 4 { tmps:=tmO A d v0 v1 v2 v3 v4 v5 v6 l0 l1 l2 l3 false false l6,defers:=D } (bif l0 then w1 else w.drew) { tmps:=tmO A d v0 v1 v2 v3 v4 v5 v6 l0 l1 l2 l3 true false l6,defers:=D } (bif l0 then w1 else w.drew))
  (h5:∀ l0 l1 l2 l3 l6:Bool,opO F n P ops Q 5 { tmps:=tmO A d v0 v1 v2 v3 v4 v5 v6 l0 l1 l2 l3 true false l6,defers:=D } (bif l0 then w1 else w.drew) { tmps:=tmO A d v0 v1 v2 v3 v4 v5 v6 l0 l1 l2 l3 true true l6,defers:=D } (bif l0 then w1 else w.drew))
  (h6:∀ l0 l1 l2 l3 l4 l5:Bool,opO F n P ops Q 6 { tmps:=tmO A d v0 v1 v2 v3 v4 v5 v6 l0 l1 l2 l3 l4 l5 false,defers:=D } (bif l0 then w1 else w.drew) { tmps:=tmO A d v0 v1 v2 v3 v4 v5 v6 l0 l1 l2 l3 l4 l5 true,defers:=D } (bif l0 then w1 else w.drew))
  (ht:∃ o o2,ops[7]?=some o/\ops[8]?=some o2/\wpListIn F n P ops Q [o,o2] { tmps:=tmO A d v0 v1 v2 v3 v4 v5 v6 true true true true true true true,defers:=D } w1):
  (Code.region id ops true).wpIn F n P Q { tmps:=A,defers:=D } w:=by
 refine wpIn_region_any hm ?_
 have step:∀ (i:Nat) (a:Act) (w:World) (a':Act) (w':World),opO F n P ops Q i a w a' w'->∀ K:Act->World->Prop,K a' w'->∃ o,ops[i]?=some o/\wpListIn F n P ops (Exit.then K Q) [o] a w:=
  fun i a w a' w' ⟨o,ho,h⟩ K hK=>⟨o,ho,h K hK⟩
 have:=wpAnyIn_inv (F:=F) (n:=n) (P:=P) (ops:=ops) (md:=.any) (Q:=Q) (g:=2) (InvO A D d v0 v1 v2 v3 v4 v5 v6 w.drew w1) ?_ ?_ 7 (Array.replicate 9 false) { tmps:=A,defers:=D } w.drew ?_
 ·rw [hsz];exact this
 ·rintro listed a w' ⟨l0,l1,l2,l3,l4,l5,l6,rfl,-,-,-,hf,rfl,rfl⟩
  have t:∀ b:Bool,b.toNat<=1:=fun b=>by cases b <;> decide
  have u:∀ b:Bool,b.toNat=1->b=true:=fun b h=>by cases b <;> simp_all
  have:=t l0;have:=t l1;have:=t l2;have:=t l3;have:=t l4;have:=t l5;have:=t l6
  obtain rfl:=u l0 (by omega);obtain rfl:=u l1 (by omega);obtain rfl:=u l2 (by omega);obtain rfl:=u l3 (by omega);obtain rfl:=u l4 (by omega);obtain rfl:=u l5 (by omega);obtain rfl:=u l6 (by omega)
  obtain ⟨o,o2,e1,e2,hh⟩:=ht
  exact wpAnyIn_two (i:=7) (j:=8) ((hr true true true true true true true).trans (by decide)) e1 hr8 e2 hr9 hh
 ·rintro f listed a w' ⟨l0,l1,l2,l3,l4,l5,l6,rfl,i1,i2,i3,hf,rfl,rfl⟩
  rw [hr]
  refine ⟨fun e=>?_,fun i hi=>?_⟩
  ·rw [List.filter_eq_nil_iff] at e
   have e0:=e 0 (by decide);have e1:=e 1 (by decide);have e2:=e 2 (by decide);have e3:=e 3 (by decide);have e4:=e 4 (by decide);have e5:=e 5 (by decide);have e6:=e 6 (by decide)
   revert e0 e1 e2 e3 e4 e5 e6 hf
   clear e i1 i2 i3 hr h0 h1 h2 h3 h4 h5 h6 ht step
   cases l0 <;> cases l1 <;> cases l2 <;> cases l3 <;> cases l4 <;> cases l5 <;> cases l6 <;> simp [rdyO]
  ·obtain ⟨hi9,hrd⟩:=List.mem_filter.1 hi
   have hi9:i < 9:=by simpa using hi9
   clear hi hr hr8 hr9 ht
   match i,hi9 with
   | 0,_=>
    have:l0=false:=by simpa [rdyO] using hrd
    subst this
    have:l3=false:=by cases l3 with
     | false=>rfl
     | true=>exact absurd (i2 rfl).1 (by decide)
    subst this
    exact step _ _ _ _ _ (h0 l1 l2 l4 l5 l6) _ ⟨true,l1,l2,false,l4,l5,l6,rfl,i1,fun e=>(by cases e),i3,by simp at hf ⊢;omega,rfl,rfl⟩
   | 1,_=>
    have:l1=false:=by simpa [rdyO] using hrd
    subst this
    have:l2=false:=by cases l2 with
     | false=>rfl
     | true=>exact absurd (i1 rfl) (by decide)
    subst this
    have:l3=false:=by cases l3 with
     | false=>rfl
     | true=>exact absurd (i2 rfl).2 (by decide)
    subst this
    exact step _ _ _ _ _ (h1 l0 l4 l5 l6) _ ⟨l0,true,false,false,l4,l5,l6,rfl,fun _=>rfl,i2,i3,by simp at hf ⊢;omega,rfl,rfl⟩
   | 2,_=>
    have hx:l2=false/\l1=true:=by simpa [rdyO] using hrd
    obtain ⟨rfl,rfl⟩:=hx
    have:l3=false:=by cases l3 with
     | false=>rfl
     | true=>exact absurd (i2 rfl).2 (by decide)
    subst this
    exact step _ _ _ _ _ (h2 l0 l4 l5 l6) _ ⟨l0,true,true,false,l4,l5,l6,rfl,fun _=>rfl,fun e=>(by cases e),i3,by simp at hf ⊢;omega,rfl,rfl⟩
   | 3,_=>
    have hx:l3=false/\l0=true/\l2=true:=by simpa [rdyO] using hrd
    obtain ⟨rfl,rfl,rfl⟩:=hx
    obtain rfl:=i1 rfl
    exact step _ _ _ _ _ (h3 l4 l5 l6) _ ⟨true,true,true,true,l4,l5,l6,rfl,fun _=>rfl,fun _=>⟨rfl,rfl⟩,i3,by simp at hf ⊢;omega,rfl,rfl⟩
   | 4,_=>
    have:l4=false:=by simpa [rdyO] using hrd
    subst this
    have:l5=false:=by cases l5 with
     | false=>rfl
     | true=>exact absurd (i3 rfl) (by decide)
    subst this
    exact step _ _ _ _ _ (h4 l0 l1 l2 l3 l6) _ ⟨l0,l1,l2,l3,true,false,l6,rfl,i1,i2,fun _=>rfl,by simp at hf ⊢;omega,rfl,rfl⟩
   | 5,_=>
    have hx:l5=false/\l4=true:=by simpa [rdyO] using hrd
    obtain ⟨rfl,rfl⟩:=hx
    exact step _ _ _ _ _ (h5 l0 l1 l2 l3 l6) _ ⟨l0,l1,l2,l3,true,true,l6,rfl,i1,i2,fun _=>rfl,by simp at hf ⊢;omega,rfl,rfl⟩
   | 6,_=>
    have:l6=false:=by simpa [rdyO] using hrd
    subst this
    exact step _ _ _ _ _ (h6 l0 l1 l2 l3 l4 l5) _ ⟨l0,l1,l2,l3,l4,l5,true,rfl,i1,i2,i3,by simp at hf ⊢;omega,rfl,rfl⟩
   | 7,_=>
    exfalso
    have hx:l3=true/\l5=true/\l6=true/\l0=true:=by simpa [rdyO] using hrd
    obtain ⟨rfl,rfl,rfl,rfl⟩:=hx
    obtain ⟨-,rfl⟩:=i2 rfl
    obtain rfl:=i1 rfl
    obtain rfl:=i3 rfl
    simp at hf
   | 8,_=>simp [rdyO] at hrd
   | i+9,h=>omega
 ·exact ⟨false,false,false,false,false,false,false,rfl,fun e=>(by cases e),fun e=>(by cases e),fun e=>(by cases e),rfl,by rw [tO_none],rfl⟩
end
end Go.Proofs.YtgjhepblpdnkcaaGreatDoor
