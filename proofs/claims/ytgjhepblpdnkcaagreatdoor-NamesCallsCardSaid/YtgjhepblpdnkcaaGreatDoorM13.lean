/- Walks and plain laws: Jl Jm Jn Jo Jp Js Jx Jy Ka Kb Kc. -/
import Derived.Test.YtgjhepblpdnkcaaGreatDoorM12
import Derived.Test.YtgjhepblpdnkcaaGreatDoorM06
import Derived.OrdersIn
import Derived.TacticsInMore
namespace Go.Proofs.YtgjhepblpdnkcaaGreatDoor
open Go.RowKit Go.ChangeMaps
set_option maxRecDepth 100000
set_option maxHeartbeats 8000000

theorem wk_und:Tryz.prog.underlying 80=some (.int .i64):=by kernel_rfl
theorem mm_und:Tryz.prog.underlying 288=some (.map 80 287):=by kernel_rfl
theorem mmUp (w:World) (es:Array MapEntry) (clock:Nat) (n:Int) (v:Value) (h1:∀ x ∈ es.toList,∃ a,x.key=.int .i64 a) (h2:∀ x ∈ es.toList,x.key ≠ .int .i64 n):
  (Instr.mapUpdate 288 (.map (some w.heap.size)) (.int .i64 n) v).run Tryz.prog (w.alloc (.map es clock))=.ok () (w.alloc (.map (es.push ⟨.int .i64 n,v,clock⟩) (clock+1))):=by
 rw [run_map_new (keyInt wk_und) mm_und (heap_alloc_new _ _) h1 ⟨n,rfl⟩ h2,setBlock_new]
def mth (f gr:Nat):Value:=.func (.func f) #[.pointer (some ⟨gr,0,none⟩)] #[]
def mkE (gr:Nat):Array MapEntry:=#[⟨.int .i64 2,mth 206 gr,0⟩,⟨.int .i64 3,mth 207 gr,1⟩,⟨.int .i64 4,mth 208 gr,2⟩,⟨.int .i64 5,mth 209 gr,3⟩]
theorem mkE_keys (gr:Nat):∀ x ∈ (mkE gr).toList,∃ a,x.key=.int .i64 a:=by simp [mkE]
theorem mk_look (w:World) (g gr:Nat) (hb:w.heap[g]?=some (.map (mkE gr) 4)) (k:Nat) (f:Nat) (h:(k=2/\f=206)∨(k=3/\f=207)∨(k=4/\f=208)∨(k=5/\f=209)):
  (Instr.lookup 288 (.map (some g)) (.int .i64 k) false).run Tryz.prog w=.ok (mth f gr) w:=by
 rcases h with ⟨rfl,rfl⟩ | ⟨rfl,rfl⟩ | ⟨rfl,rfl⟩ | ⟨rfl,rfl⟩
 ·exact run_look_yes (keyInt wk_und) mm_und hb (mkE_keys gr) ⟨_,rfl⟩ (i:=0) (x:=⟨.int .i64 2,mth 206 gr,0⟩) rfl rfl (fun m hm=>absurd hm (by omega)) false
 ·refine run_look_yes (keyInt wk_und) mm_und hb (mkE_keys gr) ⟨_,rfl⟩ (i:=1) (x:=⟨.int .i64 3,mth 207 gr,1⟩) rfl rfl (fun m hm y hy=>?_) false
  have:m=0:=by omega
  subst this;simp [mkE] at hy;subst hy;simp
 ·refine run_look_yes (keyInt wk_und) mm_und hb (mkE_keys gr) ⟨_,rfl⟩ (i:=2) (x:=⟨.int .i64 4,mth 208 gr,2⟩) rfl rfl (fun m hm y hy=>?_) false
  have:m=0∨m=1:=by omega
  rcases this with rfl | rfl <;> (simp [mkE] at hy;subst hy;simp)
 ·refine run_look_yes (keyInt wk_und) mm_und hb (mkE_keys gr) ⟨_,rfl⟩ (i:=3) (x:=⟨.int .i64 5,mth 209 gr,3⟩) rfl rfl (fun m hm y hy=>?_) false
  have:m=0∨m=1∨m=2:=by omega
  rcases this with rfl | rfl | rfl <;> (simp [mkE] at hy;subst hy;simp)
theorem mk_none (w:World) (g gr:Nat) (hb:w.heap[g]?=some (.map (mkE gr) 4)):
  (Instr.lookup 288 (.map (some g)) (.int .i64 1) false).run Tryz.prog w=.ok .nilFunc w:=
 run_look_no (keyInt wk_und) mm_und hb (mkE_keys gr) ⟨_,rfl⟩ (by simp [mkE]) (z:=.nilFunc) (by kernel_rfl) false
theorem fn_nil (f:Nat) (a b:Array Value) (w:World):(binOp .eql 287 (.func (.func f) a b) .nilFunc).run Tryz.prog w=.ok (.bool false) w:=by kernel_rfl
theorem nil_nil (w:World):(binOp .eql 287 .nilFunc .nilFunc).run Tryz.prog w=.ok (.bool true) w:=by kernel_rfl
theorem prim_call (L:List Wd) (B gr i d:Nat) (w:World) (h:RdW L B gr i d w) (hi:i < L.length) (hL:L.length<=100000) (hk:(wdAt L i).kind=2) (p:Pt)
  (hC:∀ y,B<=y.heap.size->Calls Tryz.prog 206 #[ptr gr,.agg (wdD (wdAt L i))] y fun e w'=>LeafP B p y e w'):
  Calls Tryz.prog 188 #[ptr gr] w fun e w'=>PrP L B gr d (.ok p (i+1)) w e w':=by
 have hmm:=@run_makeMap Tryz.prog
 have hmu:=mmUp
 have hmf:∀ (fn:Fn) (first cap:Array Value) (w:World),(Instr.makeFunc fn first cap).run Tryz.prog w=.ok (.func fn first cap) w:=fun _ _ _ _=>rfl
 have HRD:=Lib.hid h;have HI:=Lib.hid hi;have HL:=Lib.hid hL;have HC:=Lib.hid hC;have HK:=Lib.hid hk
 clear h hi hL hC hk
 unfold PrP ptr at *
 go_enter Tryz.func188,Tryz.ntmps188
 go_wp2_with fail
 have hb:=(Below.refl _ w).alloc (Nat.le_refl _) (.map (mkE gr) 4)
 have HB:=Lib.hid hb
 have hrd1:=HRD.out.below hb
 have HM:=Lib.hid (fun y (hy:Below (w.alloc (.map (mkE gr) 4)).heap.size (w.alloc (.map (mkE gr) 4)) y)=>mk_look y w.heap.size gr ((hy.block _ (by simp)).trans (heap_alloc_new _ _)) (wdAt L i).kind 206 (.inl ⟨HK.out,rfl⟩))
 have HW:=Lib.hid (fun y (hy:Below (w.alloc (.map (mkE gr) 4)).heap.size (w.alloc (.map (mkE gr) 4)) y)=>word_any2 L B gr i d y (hrd1.below hy) HI.out)
 have HH:=Lib.hid (fun y (hy:Below (w.alloc (.map (mkE gr) 4)).heap.size (w.alloc (.map (mkE gr) 4)) y)=>here_lit L B gr i d y (hrd1.below hy) HI.out [[40]] 1 #[.string ⟨#[40]⟩] rfl rfl (by decide))
 have HT:=Lib.hid (fun y (hy:Below (w.alloc (.map (mkE gr) 4)).heap.size (w.alloc (.map (mkE gr) 4)) y)=>take_any L B gr i d y (hrd1.below hy) HI.out HL.out)
 have HGB:Hid (B<=w.heap.size):=HRD.out.le
 have h40:hereW L i [40]=false:=here_not _ (by rw [HK.out];decide)
 have hkI:(((wdAt L i).kind:Int) == 5)=false:=by rw [HK.out];rfl
 have hkJ:¬ ((wdAt L i).kind:Int)=5:=by have:=HK.out;omega
 simp only [List.any_cons,List.any_nil,Bool.or_false,h40] at HH
 clear hb hrd1 hmm hmu hmf HRD h40
 have hf0:=wfld0
 unfold mkE mth ptr wdD wdA at *
 generalize w.alloc (Obj.map _ 4)=wm at *
 have HW0:=Lib.hid (HW.out wm (Below.refl _ _))
 refine HW0.out.mono ?_
 rintro e y1 ⟨rfl,hb1⟩
 have HB1:=Lib.hid hb1
 have HW1:=Lib.hid (HW.out y1 hb1)
 have HM1:=HM.out y1 hb1
 have hfn:=fn_nil
 clear hb1 HW HW0 HM
 go_wp2_with fail
 refine HW1.out.mono ?_
 rintro e y2 ⟨rfl,hb2⟩
 have HB2:=Lib.hid (HB1.out.trans (hb2.mono HB1.out.size))
 have HH2:=Lib.hid (HH.out y2 HB2.out)
 clear HW1 HM1 HH hb2 HB1
 go_wp2_with fail
 refine HH2.out.mono ?_
 rintro e y3 ⟨rfl,hb3⟩
 have HB3:=Lib.hid (HB2.out.trans (hb3.mono HB2.out.size))
 have HT3:=Lib.hid (HT.out y3 HB3.out)
 clear HH2 HT hb3 HB2
 go_wp2_with fail
 refine HT3.out.mono ?_
 rintro e y4 ⟨rfl,hr4,hf4⟩
 have HF4:=Lib.hid ((Fr.of_below (F:=fun k=>k=gr) (HB.out.trans (HB3.out.mono HB.out.size))).trans hf4 (fun _ _ h=>h))
 have HR4:=Lib.hid hr4
 have HC4:=Lib.hid (HC.out y4 (Nat.le_trans HGB.out HF4.out.size))
 clear HT3 hr4 hf4 HC HB3
 go_wp2_with fail
 refine HC4.out.mono ?_
 rintro e y5 ⟨b,rfl,hp5,hb5⟩
 have HP5:=Lib.hid hp5
 have HR5:=Lib.hid (HR4.out.below hb5)
 have HF5:=Lib.hid (HF4.out.trans (Fr.of_below (F:=fun k=>k=gr) hb5) (fun _ _ h=>h))
 clear HC4 hp5 hb5 HR4 HF4
 unfold ptr
 go_wp2_with fail
 go_ret
 exact ⟨b,rfl,HP5.out,HR5.out,HF5.out⟩
theorem prim_text (L:List Wd) (B gr i d:Nat) (w:World) (h:RdW L B gr i d w) (hi:i < L.length) (hL:L.length<=100000) (hk:(wdAt L i).kind=3) (p:Pt)
  (hC:∀ y,B<=y.heap.size->Calls Tryz.prog 207 #[ptr gr,.agg (wdD (wdAt L i))] y fun e w'=>LeafP B p y e w'):
  Calls Tryz.prog 188 #[ptr gr] w fun e w'=>PrP L B gr d (.ok p (i+1)) w e w':=by
 have hmm:=@run_makeMap Tryz.prog
 have hmu:=mmUp
 have hmf:∀ (fn:Fn) (first cap:Array Value) (w:World),(Instr.makeFunc fn first cap).run Tryz.prog w=.ok (.func fn first cap) w:=fun _ _ _ _=>rfl
 have HRD:=Lib.hid h;have HI:=Lib.hid hi;have HL:=Lib.hid hL;have HC:=Lib.hid hC;have HK:=Lib.hid hk
 clear h hi hL hC hk
 unfold PrP ptr at *
 go_enter Tryz.func188,Tryz.ntmps188
 go_wp2_with fail
 have hb:=(Below.refl _ w).alloc (Nat.le_refl _) (.map (mkE gr) 4)
 have HB:=Lib.hid hb
 have hrd1:=HRD.out.below hb
 have HM:=Lib.hid (fun y (hy:Below (w.alloc (.map (mkE gr) 4)).heap.size (w.alloc (.map (mkE gr) 4)) y)=>mk_look y w.heap.size gr ((hy.block _ (by simp)).trans (heap_alloc_new _ _)) (wdAt L i).kind 207 (.inr (.inl ⟨HK.out,rfl⟩)))
 have HW:=Lib.hid (fun y (hy:Below (w.alloc (.map (mkE gr) 4)).heap.size (w.alloc (.map (mkE gr) 4)) y)=>word_any2 L B gr i d y (hrd1.below hy) HI.out)
 have HH:=Lib.hid (fun y (hy:Below (w.alloc (.map (mkE gr) 4)).heap.size (w.alloc (.map (mkE gr) 4)) y)=>here_lit L B gr i d y (hrd1.below hy) HI.out [[40]] 1 #[.string ⟨#[40]⟩] rfl rfl (by decide))
 have HT:=Lib.hid (fun y (hy:Below (w.alloc (.map (mkE gr) 4)).heap.size (w.alloc (.map (mkE gr) 4)) y)=>take_any L B gr i d y (hrd1.below hy) HI.out HL.out)
 have HGB:Hid (B<=w.heap.size):=HRD.out.le
 have h40:hereW L i [40]=false:=here_not _ (by rw [HK.out];decide)
 have hkI:(((wdAt L i).kind:Int) == 5)=false:=by rw [HK.out];rfl
 have hkJ:¬ ((wdAt L i).kind:Int)=5:=by have:=HK.out;omega
 simp only [List.any_cons,List.any_nil,Bool.or_false,h40] at HH
 clear hb hrd1 hmm hmu hmf HRD h40
 have hf0:=wfld0
 unfold mkE mth ptr wdD wdA at *
 generalize w.alloc (Obj.map _ 4)=wm at *
 have HW0:=Lib.hid (HW.out wm (Below.refl _ _))
 refine HW0.out.mono ?_
 rintro e y1 ⟨rfl,hb1⟩
 have HB1:=Lib.hid hb1
 have HW1:=Lib.hid (HW.out y1 hb1)
 have HM1:=HM.out y1 hb1
 have hfn:=fn_nil
 clear hb1 HW HW0 HM
 go_wp2_with fail
 refine HW1.out.mono ?_
 rintro e y2 ⟨rfl,hb2⟩
 have HB2:=Lib.hid (HB1.out.trans (hb2.mono HB1.out.size))
 have HH2:=Lib.hid (HH.out y2 HB2.out)
 clear HW1 HM1 HH hb2 HB1
 go_wp2_with fail
 refine HH2.out.mono ?_
 rintro e y3 ⟨rfl,hb3⟩
 have HB3:=Lib.hid (HB2.out.trans (hb3.mono HB2.out.size))
 have HT3:=Lib.hid (HT.out y3 HB3.out)
 clear HH2 HT hb3 HB2
 go_wp2_with fail
 refine HT3.out.mono ?_
 rintro e y4 ⟨rfl,hr4,hf4⟩
 have HF4:=Lib.hid ((Fr.of_below (F:=fun k=>k=gr) (HB.out.trans (HB3.out.mono HB.out.size))).trans hf4 (fun _ _ h=>h))
 have HR4:=Lib.hid hr4
 have HC4:=Lib.hid (HC.out y4 (Nat.le_trans HGB.out HF4.out.size))
 clear HT3 hr4 hf4 HC HB3
 go_wp2_with fail
 refine HC4.out.mono ?_
 rintro e y5 ⟨b,rfl,hp5,hb5⟩
 have HP5:=Lib.hid hp5
 have HR5:=Lib.hid (HR4.out.below hb5)
 have HF5:=Lib.hid (HF4.out.trans (Fr.of_below (F:=fun k=>k=gr) hb5) (fun _ _ h=>h))
 clear HC4 hp5 hb5 HR4 HF4
 unfold ptr
 go_wp2_with fail
 go_ret
 exact ⟨b,rfl,HP5.out,HR5.out,HF5.out⟩
theorem prim_set (L:List Wd) (B gr i d:Nat) (w:World) (h:RdW L B gr i d w) (hi:i < L.length) (hL:L.length<=100000) (hk:(wdAt L i).kind=4) (p:Pt)
  (hC:∀ y,B<=y.heap.size->Calls Tryz.prog 208 #[ptr gr,.agg (wdD (wdAt L i))] y fun e w'=>LeafP B p y e w'):
  Calls Tryz.prog 188 #[ptr gr] w fun e w'=>PrP L B gr d (.ok p (i+1)) w e w':=by
 have hmm:=@run_makeMap Tryz.prog
 have hmu:=mmUp
 have hmf:∀ (fn:Fn) (first cap:Array Value) (w:World),(Instr.makeFunc fn first cap).run Tryz.prog w=.ok (.func fn first cap) w:=fun _ _ _ _=>rfl
 have HRD:=Lib.hid h;have HI:=Lib.hid hi;have HL:=Lib.hid hL;have HC:=Lib.hid hC;have HK:=Lib.hid hk
 clear h hi hL hC hk
 unfold PrP ptr at *
 go_enter Tryz.func188,Tryz.ntmps188
 go_wp2_with fail
 have hb:=(Below.refl _ w).alloc (Nat.le_refl _) (.map (mkE gr) 4)
 have HB:=Lib.hid hb
 have hrd1:=HRD.out.below hb
 have HM:=Lib.hid (fun y (hy:Below (w.alloc (.map (mkE gr) 4)).heap.size (w.alloc (.map (mkE gr) 4)) y)=>mk_look y w.heap.size gr ((hy.block _ (by simp)).trans (heap_alloc_new _ _)) (wdAt L i).kind 208 (.inr (.inr (.inl ⟨HK.out,rfl⟩))))
 have HW:=Lib.hid (fun y (hy:Below (w.alloc (.map (mkE gr) 4)).heap.size (w.alloc (.map (mkE gr) 4)) y)=>word_any2 L B gr i d y (hrd1.below hy) HI.out)
 have HH:=Lib.hid (fun y (hy:Below (w.alloc (.map (mkE gr) 4)).heap.size (w.alloc (.map (mkE gr) 4)) y)=>here_lit L B gr i d y (hrd1.below hy) HI.out [[40]] 1 #[.string ⟨#[40]⟩] rfl rfl (by decide))
 have HT:=Lib.hid (fun y (hy:Below (w.alloc (.map (mkE gr) 4)).heap.size (w.alloc (.map (mkE gr) 4)) y)=>take_any L B gr i d y (hrd1.below hy) HI.out HL.out)
 have HGB:Hid (B<=w.heap.size):=HRD.out.le
 have h40:hereW L i [40]=false:=here_not _ (by rw [HK.out];decide)
 have hkI:(((wdAt L i).kind:Int) == 5)=false:=by rw [HK.out];rfl
 have hkJ:¬ ((wdAt L i).kind:Int)=5:=by have:=HK.out;omega
 simp only [List.any_cons,List.any_nil,Bool.or_false,h40] at HH
 clear hb hrd1 hmm hmu hmf HRD h40
 have hf0:=wfld0
 unfold mkE mth ptr wdD wdA at *
 generalize w.alloc (Obj.map _ 4)=wm at *
 have HW0:=Lib.hid (HW.out wm (Below.refl _ _))
 refine HW0.out.mono ?_
 rintro e y1 ⟨rfl,hb1⟩
 have HB1:=Lib.hid hb1
 have HW1:=Lib.hid (HW.out y1 hb1)
 have HM1:=HM.out y1 hb1
 have hfn:=fn_nil
 clear hb1 HW HW0 HM
 go_wp2_with fail
 refine HW1.out.mono ?_
 rintro e y2 ⟨rfl,hb2⟩
 have HB2:=Lib.hid (HB1.out.trans (hb2.mono HB1.out.size))
 have HH2:=Lib.hid (HH.out y2 HB2.out)
 clear HW1 HM1 HH hb2 HB1
 go_wp2_with fail
 refine HH2.out.mono ?_
 rintro e y3 ⟨rfl,hb3⟩
 have HB3:=Lib.hid (HB2.out.trans (hb3.mono HB2.out.size))
 have HT3:=Lib.hid (HT.out y3 HB3.out)
 clear HH2 HT hb3 HB2
 go_wp2_with fail
 refine HT3.out.mono ?_
 rintro e y4 ⟨rfl,hr4,hf4⟩
 have HF4:=Lib.hid ((Fr.of_below (F:=fun k=>k=gr) (HB.out.trans (HB3.out.mono HB.out.size))).trans hf4 (fun _ _ h=>h))
 have HR4:=Lib.hid hr4
 have HC4:=Lib.hid (HC.out y4 (Nat.le_trans HGB.out HF4.out.size))
 clear HT3 hr4 hf4 HC HB3
 go_wp2_with fail
 refine HC4.out.mono ?_
 rintro e y5 ⟨b,rfl,hp5,hb5⟩
 have HP5:=Lib.hid hp5
 have HR5:=Lib.hid (HR4.out.below hb5)
 have HF5:=Lib.hid (HF4.out.trans (Fr.of_below (F:=fun k=>k=gr) hb5) (fun _ _ h=>h))
 clear HC4 hp5 hb5 HR4 HF4
 unfold ptr
 go_wp2_with fail
 go_ret
 exact ⟨b,rfl,HP5.out,HR5.out,HF5.out⟩
end Go.Proofs.YtgjhepblpdnkcaaGreatDoor
namespace Go.Proofs.YtgjhepblpdnkcaaGreatDoor
open Go.RowKit Go.ChangeMaps
set_option maxRecDepth 100000
set_option maxHeartbeats 8000000

theorem mk_noneK (w:World) (g gr:Nat) (hb:w.heap[g]?=some (.map (mkE gr) 4)) (k:Nat) (hk:k=1):
  (Instr.lookup 288 (.map (some g)) (.int .i64 k) false).run Tryz.prog w=.ok .nilFunc w:=by subst hk;exact mk_none w g gr hb
theorem prim_end (L:List Wd) (B gr i d:Nat) (w:World) (h:RdW L B gr i d w) (hi:i < L.length) (hL:L.length<=100000) (hk:(wdAt L i).kind=1):
  Calls Tryz.prog 188 #[ptr gr] w fun e w'=>PrP L B gr d (.err 7 (wdAt L i).at_) w e w':=by
 have hmm:=@run_makeMap Tryz.prog
 have hmu:=mmUp
 have hmf:∀ (fn:Fn) (first cap:Array Value) (w:World),(Instr.makeFunc fn first cap).run Tryz.prog w=.ok (.func fn first cap) w:=fun _ _ _ _=>rfl
 have HRD:=Lib.hid h;have HI:=Lib.hid hi;have HL:=Lib.hid hL;have HK:=Lib.hid hk
 clear h hi hL hk
 unfold PrP ptr at *
 go_enter Tryz.func188,Tryz.ntmps188
 go_wp2_with fail
 have hb:=(Below.refl _ w).alloc (Nat.le_refl _) (.map (mkE gr) 4)
 have HB:=Lib.hid hb
 have hrd1:=HRD.out.below hb
 have HM:=Lib.hid (fun y (hy:Below (w.alloc (.map (mkE gr) 4)).heap.size (w.alloc (.map (mkE gr) 4)) y)=>mk_noneK y w.heap.size gr ((hy.block _ (by simp)).trans (heap_alloc_new _ _)) (wdAt L i).kind HK.out)
 have HW:=Lib.hid (fun y (hy:Below (w.alloc (.map (mkE gr) 4)).heap.size (w.alloc (.map (mkE gr) 4)) y)=>word_any2 L B gr i d y (hrd1.below hy) HI.out)
 have HF:=Lib.hid (fun y (hy:Below (w.alloc (.map (mkE gr) 4)).heap.size (w.alloc (.map (mkE gr) 4)) y)=>fail_any L B gr i d y (hrd1.below hy) HI.out 7)
 clear hb hrd1 hmm hmu hmf HRD
 have hf0:=wfld0
 unfold mkE mth ptr wdD wdA at *
 generalize w.alloc (Obj.map _ 4)=wm at *
 have HW0:=Lib.hid (HW.out wm (Below.refl _ _))
 refine HW0.out.mono ?_
 rintro e y1 ⟨rfl,hb1⟩
 have HB1:=Lib.hid hb1
 have HW1:=Lib.hid (HW.out y1 hb1)
 have HM1:=HM.out y1 hb1
 have HF3:=Lib.hid (HF.out y1 hb1)
 have hnn:=nil_nil
 clear hb1 HW HW0 HM HW1 HF
 go_wp2_with fail
 refine HF3.out.mono ?_
 rintro e y9 ⟨rfl,hb9⟩
 have HF9:=Lib.hid (Fr.of_below (F:=fun k=>k=gr) (HB.out.trans ((HB1.out.trans (hb9.mono HB1.out.size)).mono HB.out.size)))
 clear hb9 HF3
 unfold badE
 go_wp2_with fail
 exact ⟨rfl,rfl,HF9.out⟩
theorem prim_bad (L:List Wd) (B gr i d:Nat) (w:World) (h:RdW L B gr i d w) (hi:i < L.length) (hL:L.length<=100000) (hk:(wdAt L i).kind=5) (h46:hereW L i [46]=false) (h40:hereW L i [40]=false):
  Calls Tryz.prog 188 #[ptr gr] w fun e w'=>PrP L B gr d (.err 7 (wdAt L i).at_) w e w':=by
 have hmm:=@run_makeMap Tryz.prog
 have hmu:=mmUp
 have hmf:∀ (fn:Fn) (first cap:Array Value) (w:World),(Instr.makeFunc fn first cap).run Tryz.prog w=.ok (.func fn first cap) w:=fun _ _ _ _=>rfl
 have HRD:=Lib.hid h;have HI:=Lib.hid hi;have HL:=Lib.hid hL;have HK:=Lib.hid hk
 clear h hi hL hk
 unfold PrP ptr at *
 go_enter Tryz.func188,Tryz.ntmps188
 go_wp2_with fail
 have hb:=(Below.refl _ w).alloc (Nat.le_refl _) (.map (mkE gr) 4)
 have HB:=Lib.hid hb
 have hrd1:=HRD.out.below hb
 have HM:=Lib.hid (fun y (hy:Below (w.alloc (.map (mkE gr) 4)).heap.size (w.alloc (.map (mkE gr) 4)) y)=>mk_look y w.heap.size gr ((hy.block _ (by simp)).trans (heap_alloc_new _ _)) (wdAt L i).kind 209 (.inr (.inr (.inr ⟨HK.out,rfl⟩))))
 have HW:=Lib.hid (fun y (hy:Below (w.alloc (.map (mkE gr) 4)).heap.size (w.alloc (.map (mkE gr) 4)) y)=>word_any2 L B gr i d y (hrd1.below hy) HI.out)
 have HF:=Lib.hid (fun y (hy:Below (w.alloc (.map (mkE gr) 4)).heap.size (w.alloc (.map (mkE gr) 4)) y)=>fail_any L B gr i d y (hrd1.below hy) HI.out 7)
 have H2:=Lib.hid (fun y (hy:Below (w.alloc (.map (mkE gr) 4)).heap.size (w.alloc (.map (mkE gr) 4)) y)=>here_lit L B gr i d y (hrd1.below hy) HI.out [[46],[40]] 2 #[.string ⟨#[46]⟩,.string ⟨#[40]⟩] rfl rfl (by decide))
 simp only [List.any_cons,List.any_nil,h46,h40,Bool.or_self] at H2
 clear hb hrd1 hmm hmu hmf HRD h46 h40
 have hf0:=wfld0
 unfold mkE mth ptr wdD wdA at *
 have hkI:(((wdAt L i).kind:Int) == 5)=true:=by rw [HK.out];rfl
 have hkJ:((wdAt L i).kind:Int)=5:=by have:=HK.out;omega
 generalize w.alloc (Obj.map _ 4)=wm at *
 have HW0:=Lib.hid (HW.out wm (Below.refl _ _))
 refine HW0.out.mono ?_
 rintro e y1 ⟨rfl,hb1⟩
 have HB1:=Lib.hid hb1
 have HW1:=Lib.hid (HW.out y1 hb1)
 have HM1:=HM.out y1 hb1
 rw [hkJ] at HM1
 have hfn:=fn_nil
 clear hb1 HW HW0 HM
 go_wp2_with fail
 refine HW1.out.mono ?_
 rintro e y2 ⟨rfl,hb2⟩
 have HB2:=Lib.hid (HB1.out.trans (hb2.mono HB1.out.size))
 have HH2:=Lib.hid (H2.out y2 HB2.out)
 clear HW1 HM1 H2 hb2 HB1
 go_wp2_with fail
 refine HH2.out.mono ?_
 rintro e y3 ⟨rfl,hb3⟩
 have HB3:=Lib.hid (HB2.out.trans (hb3.mono HB2.out.size))
 have HF3:=Lib.hid (HF.out y3 HB3.out)
 clear HH2 hb3 HB2 HF
 go_wp2_with fail
 refine HF3.out.mono ?_
 rintro e y9 ⟨rfl,hb9⟩
 have HF9:=Lib.hid (Fr.of_below (F:=fun k=>k=gr) (HB.out.trans ((HB3.out.trans (hb9.mono HB3.out.size)).mono HB.out.size)))
 clear hb9 HF3
 unfold badE
 go_wp2_with fail
 exact ⟨rfl,rfl,HF9.out⟩
end Go.Proofs.YtgjhepblpdnkcaaGreatDoor
namespace Go.Proofs.YtgjhepblpdnkcaaGreatDoor
open Go.RowKit Go.ChangeMaps
set_option maxRecDepth 100000
set_option maxHeartbeats 8000000

theorem prim_deep (L:List Wd) (B gr i d:Nat) (w:World) (h:RdW L B gr i d w) (hi:i < L.length) (hL:L.length<=100000) (hk:(wdAt L i).kind=5) (h46:hereW L i [46]=false) (h40:hereW L i [40]=true) (hd:500<=d):
  Calls Tryz.prog 188 #[ptr gr] w fun e w'=>PrP L B gr d (.err 3 (wdAt L i).at_) w e w':=by
 have hmm:=@run_makeMap Tryz.prog
 have hmu:=mmUp
 have hmf:∀ (fn:Fn) (first cap:Array Value) (w:World),(Instr.makeFunc fn first cap).run Tryz.prog w=.ok (.func fn first cap) w:=fun _ _ _ _=>rfl
 have HRD:=Lib.hid h;have HI:=Lib.hid hi;have HL:=Lib.hid hL;have HK:=Lib.hid hk
 clear h hi hL hk
 unfold PrP ptr at *
 go_enter Tryz.func188,Tryz.ntmps188
 go_wp2_with fail
 have hb:=(Below.refl _ w).alloc (Nat.le_refl _) (.map (mkE gr) 4)
 have HB:=Lib.hid hb
 have hrd1:=HRD.out.below hb
 have HM:=Lib.hid (fun y (hy:Below (w.alloc (.map (mkE gr) 4)).heap.size (w.alloc (.map (mkE gr) 4)) y)=>mk_look y w.heap.size gr ((hy.block _ (by simp)).trans (heap_alloc_new _ _)) (wdAt L i).kind 209 (.inr (.inr (.inr ⟨HK.out,rfl⟩))))
 have HW:=Lib.hid (fun y (hy:Below (w.alloc (.map (mkE gr) 4)).heap.size (w.alloc (.map (mkE gr) 4)) y)=>word_any2 L B gr i d y (hrd1.below hy) HI.out)
 have HF:=Lib.hid (fun y (hy:Below (w.alloc (.map (mkE gr) 4)).heap.size (w.alloc (.map (mkE gr) 4)) y)=>fail_any L B gr i d y (hrd1.below hy) HI.out 3)
 have H2:=Lib.hid (fun y (hy:Below (w.alloc (.map (mkE gr) 4)).heap.size (w.alloc (.map (mkE gr) 4)) y)=>here_lit L B gr i d y (hrd1.below hy) HI.out [[46],[40]] 2 #[.string ⟨#[46]⟩,.string ⟨#[40]⟩] rfl rfl (by decide))
 have H1:=Lib.hid (fun y (hy:Below (w.alloc (.map (mkE gr) 4)).heap.size (w.alloc (.map (mkE gr) 4)) y)=>here_lit L B gr i d y (hrd1.below hy) HI.out [[40]] 1 #[.string ⟨#[40]⟩] rfl rfl (by decide))
 have HR:=Lib.hid (fun y (hy:Below (w.alloc (.map (mkE gr) 4)).heap.size (w.alloc (.map (mkE gr) 4)) y)=>hrd1.below hy)
 simp only [List.any_cons,List.any_nil,h46,h40,Bool.or_false,Bool.false_or] at H2
 simp only [List.any_cons,List.any_nil,h40,Bool.or_false] at H1
 clear hb hrd1 hmm hmu hmf HRD h46 h40
 have hf0:=wfld0
 unfold mkE mth ptr wdD wdA at *
 have hkI:(((wdAt L i).kind:Int) == 5)=true:=by rw [HK.out];rfl
 have hkJ:((wdAt L i).kind:Int)=5:=by have:=HK.out;omega
 have hdI:(500:Int)<=d:=by omega
 clear hd
 generalize w.alloc (Obj.map _ 4)=wm at *
 have HW0:=Lib.hid (HW.out wm (Below.refl _ _))
 refine HW0.out.mono ?_
 rintro e y1 ⟨rfl,hb1⟩
 have HB1:=Lib.hid hb1
 have HW1:=Lib.hid (HW.out y1 hb1)
 have HM1:=HM.out y1 hb1
 rw [hkJ] at HM1
 have hfn:=fn_nil
 clear hb1 HW HW0 HM
 go_wp2_with fail
 refine HW1.out.mono ?_
 rintro e y2 ⟨rfl,hb2⟩
 have HB2:=Lib.hid (HB1.out.trans (hb2.mono HB1.out.size))
 have HH2:=Lib.hid (H2.out y2 HB2.out)
 clear HW1 HM1 H2 hb2 HB1
 go_wp2_with fail
 refine HH2.out.mono ?_
 rintro e y3 ⟨rfl,hb3⟩
 have HB3:=Lib.hid (HB2.out.trans (hb3.mono HB2.out.size))
 have HH3:=Lib.hid (H1.out y3 HB3.out)
 clear HH2 hb3 HB2 H1
 go_wp2_with fail
 refine HH3.out.mono ?_
 rintro e y4 ⟨rfl,hb4⟩
 have HB4:=Lib.hid (HB3.out.trans (hb4.mono HB3.out.size))
 have HRy:=Lib.hid (HR.out y4 HB4.out)
 obtain ⟨ao,cap,hr4,_,_⟩:=HRy.out.row
 obtain ⟨_,_,e4⟩:=hr4.c3
 clear hr4
 have HF3:=Lib.hid (HF.out y4 HB4.out)
 clear HH3 hb4 HB3 HF HR
 go_wp2_with fail
 refine HF3.out.mono ?_
 rintro e y9 ⟨rfl,hb9⟩
 have HF9:=Lib.hid (Fr.of_below (F:=fun k=>k=gr) (HB.out.trans ((HB4.out.trans (hb9.mono HB4.out.size)).mono HB.out.size)))
 clear hb9 HF3
 unfold badE
 go_wp2_with fail
 exact ⟨rfl,rfl,HF9.out⟩
theorem prim_dot (L:List Wd) (B gr i d:Nat) (w:World) (h:RdW L B gr i d w) (hi:i < L.length) (hL:L.length<=100000) (hk:(wdAt L i).kind=5) (h46:hereW L i [46]=true) (h40:hereW L i [40]=false) (r:Rs Pt) (hC:∀ y,RdW L B gr (i+1) d y->Calls Tryz.prog 209 #[ptr gr,.agg (wdD (wdAt L i))] y fun e w'=>PrP L B gr d r y e w'):
  Calls Tryz.prog 188 #[ptr gr] w fun e w'=>PrP L B gr d r w e w':=by
 have hmm:=@run_makeMap Tryz.prog
 have hmu:=mmUp
 have hmf:∀ (fn:Fn) (first cap:Array Value) (w:World),(Instr.makeFunc fn first cap).run Tryz.prog w=.ok (.func fn first cap) w:=fun _ _ _ _=>rfl
 have HRD:=Lib.hid h;have HI:=Lib.hid hi;have HL:=Lib.hid hL;have HK:=Lib.hid hk;have HC:=Lib.hid hC
 clear h hi hL hk hC
 unfold ptr at *
 go_enter Tryz.func188,Tryz.ntmps188
 go_wp2_with fail
 have hb:=(Below.refl _ w).alloc (Nat.le_refl _) (.map (mkE gr) 4)
 have HB:=Lib.hid hb
 have hrd1:=HRD.out.below hb
 have HM:=Lib.hid (fun y (hy:Below (w.alloc (.map (mkE gr) 4)).heap.size (w.alloc (.map (mkE gr) 4)) y)=>mk_look y w.heap.size gr ((hy.block _ (by simp)).trans (heap_alloc_new _ _)) (wdAt L i).kind 209 (.inr (.inr (.inr ⟨HK.out,rfl⟩))))
 have HW:=Lib.hid (fun y (hy:Below (w.alloc (.map (mkE gr) 4)).heap.size (w.alloc (.map (mkE gr) 4)) y)=>word_any2 L B gr i d y (hrd1.below hy) HI.out)
 have HT:=Lib.hid (fun y (hy:Below (w.alloc (.map (mkE gr) 4)).heap.size (w.alloc (.map (mkE gr) 4)) y)=>take_any L B gr i d y (hrd1.below hy) HI.out HL.out)
 have H2:=Lib.hid (fun y (hy:Below (w.alloc (.map (mkE gr) 4)).heap.size (w.alloc (.map (mkE gr) 4)) y)=>here_lit L B gr i d y (hrd1.below hy) HI.out [[46],[40]] 2 #[.string ⟨#[46]⟩,.string ⟨#[40]⟩] rfl rfl (by decide))
 have H1:=Lib.hid (fun y (hy:Below (w.alloc (.map (mkE gr) 4)).heap.size (w.alloc (.map (mkE gr) 4)) y)=>here_lit L B gr i d y (hrd1.below hy) HI.out [[40]] 1 #[.string ⟨#[40]⟩] rfl rfl (by decide))
 simp only [List.any_cons,List.any_nil,h46,h40,Bool.or_self,Bool.or_false] at H2
 simp only [List.any_cons,List.any_nil,h40,Bool.or_false] at H1
 clear hb hrd1 hmm hmu hmf HRD h46 h40
 have hf0:=wfld0
 unfold mkE mth ptr wdD wdA at *
 have hkI:(((wdAt L i).kind:Int) == 5)=true:=by rw [HK.out];rfl
 have hkJ:((wdAt L i).kind:Int)=5:=by have:=HK.out;omega
 simp only [hkJ] at HC
 generalize w.alloc (Obj.map _ 4)=wm at *
 have HW0:=Lib.hid (HW.out wm (Below.refl _ _))
 refine HW0.out.mono ?_
 rintro e y1 ⟨rfl,hb1⟩
 have HB1:=Lib.hid hb1
 have HW1:=Lib.hid (HW.out y1 hb1)
 have HM1:=HM.out y1 hb1
 rw [hkJ] at HM1
 have hfn:=fn_nil
 clear hb1 HW HW0 HM
 go_wp2_with fail
 refine HW1.out.mono ?_
 rintro e y2 ⟨rfl,hb2⟩
 have HB2:=Lib.hid (HB1.out.trans (hb2.mono HB1.out.size))
 have HH2:=Lib.hid (H2.out y2 HB2.out)
 clear HW1 HM1 H2 hb2 HB1
 go_wp2_with fail
 refine HH2.out.mono ?_
 rintro e y3 ⟨rfl,hb3⟩
 have HB3:=Lib.hid (HB2.out.trans (hb3.mono HB2.out.size))
 have HH3:=Lib.hid (H1.out y3 HB3.out)
 clear HH2 hb3 HB2 H1
 go_wp2_with fail
 refine HH3.out.mono ?_
 rintro e y4 ⟨rfl,hb4⟩
 have HB4:=Lib.hid (HB3.out.trans (hb4.mono HB3.out.size))
 have HT4:=Lib.hid (HT.out y4 HB4.out)
 have hB4:=HB4
 clear HH3 hb4 HB3 HT
 go_wp2_with fail
 refine HT4.out.mono ?_
 rintro e y5 ⟨rfl,hr5,hf5⟩
 have HF5:=Lib.hid ((Fr.of_below (F:=fun k=>k=gr) (HB.out.trans (HB4.out.mono HB.out.size))).trans hf5 (fun _ _ h=>h))
 have HC5:=Lib.hid (HC.out y5 hr5)
 clear HT4 hr5 hf5 HC HB4 hB4
 go_wp2_with fail
 cases r with
 | err c a=>
  refine HC5.out.mono ?_
  rintro e y6 ⟨rfl,hf6⟩
  have HF6:=Lib.hid (HF5.out.trans hf6 (fun _ _ h=>h))
  clear HC5 hf6 HF5
  unfold badE
  go_wp2_with fail
  exact ⟨rfl,rfl,HF6.out⟩
 | ok p j=>
  refine HC5.out.mono ?_
  rintro e y6 ⟨b,rfl,hp6,hr6,hf6⟩
  have HP6:=Lib.hid hp6;have HR6:=Lib.hid hr6
  have HF6:=Lib.hid (HF5.out.trans hf6 (fun _ _ h=>h))
  clear HC5 hp6 hr6 hf6 HF5
  unfold ptr
  go_wp2_with fail
  go_ret
  exact ⟨b,rfl,HP6.out,HR6.out,HF6.out⟩
theorem prim_open (L:List Wd) (B gr i d:Nat) (w:World) (h:RdW L B gr i d w) (hi:i < L.length) (hL:L.length<=100000) (hk:(wdAt L i).kind=5) (h46:hereW L i [46]=false) (h40:hereW L i [40]=true) (hd:d < 500) (r:Rs Pt) (hC:∀ y,RdW L B gr (i+1) d y->Calls Tryz.prog 209 #[ptr gr,.agg (wdD (wdAt L i))] y fun e w'=>PrP L B gr d r y e w'):
  Calls Tryz.prog 188 #[ptr gr] w fun e w'=>PrP L B gr d r w e w':=by
 have hmm:=@run_makeMap Tryz.prog
 have hmu:=mmUp
 have hmf:∀ (fn:Fn) (first cap:Array Value) (w:World),(Instr.makeFunc fn first cap).run Tryz.prog w=.ok (.func fn first cap) w:=fun _ _ _ _=>rfl
 have HRD:=Lib.hid h;have HI:=Lib.hid hi;have HL:=Lib.hid hL;have HK:=Lib.hid hk;have HC:=Lib.hid hC
 clear h hi hL hk hC
 unfold ptr at *
 go_enter Tryz.func188,Tryz.ntmps188
 go_wp2_with fail
 have hb:=(Below.refl _ w).alloc (Nat.le_refl _) (.map (mkE gr) 4)
 have HB:=Lib.hid hb
 have hrd1:=HRD.out.below hb
 have HM:=Lib.hid (fun y (hy:Below (w.alloc (.map (mkE gr) 4)).heap.size (w.alloc (.map (mkE gr) 4)) y)=>mk_look y w.heap.size gr ((hy.block _ (by simp)).trans (heap_alloc_new _ _)) (wdAt L i).kind 209 (.inr (.inr (.inr ⟨HK.out,rfl⟩))))
 have HW:=Lib.hid (fun y (hy:Below (w.alloc (.map (mkE gr) 4)).heap.size (w.alloc (.map (mkE gr) 4)) y)=>word_any2 L B gr i d y (hrd1.below hy) HI.out)
 have HT:=Lib.hid (fun y (hy:Below (w.alloc (.map (mkE gr) 4)).heap.size (w.alloc (.map (mkE gr) 4)) y)=>take_any L B gr i d y (hrd1.below hy) HI.out HL.out)
 have H2:=Lib.hid (fun y (hy:Below (w.alloc (.map (mkE gr) 4)).heap.size (w.alloc (.map (mkE gr) 4)) y)=>here_lit L B gr i d y (hrd1.below hy) HI.out [[46],[40]] 2 #[.string ⟨#[46]⟩,.string ⟨#[40]⟩] rfl rfl (by decide))
 have H1:=Lib.hid (fun y (hy:Below (w.alloc (.map (mkE gr) 4)).heap.size (w.alloc (.map (mkE gr) 4)) y)=>here_lit L B gr i d y (hrd1.below hy) HI.out [[40]] 1 #[.string ⟨#[40]⟩] rfl rfl (by decide))
 have HR:=Lib.hid (fun y (hy:Below (w.alloc (.map (mkE gr) 4)).heap.size (w.alloc (.map (mkE gr) 4)) y)=>hrd1.below hy)
 simp only [List.any_cons,List.any_nil,h46,h40,Bool.or_false,Bool.false_or] at H2
 simp only [List.any_cons,List.any_nil,h40,Bool.or_false] at H1
 clear hb hrd1 hmm hmu hmf HRD h46 h40
 have hf0:=wfld0
 unfold mkE mth ptr wdD wdA at *
 have hkI:(((wdAt L i).kind:Int) == 5)=true:=by rw [HK.out];rfl
 have hkJ:((wdAt L i).kind:Int)=5:=by have:=HK.out;omega
 simp only [hkJ] at HC
 have hdI:¬ (500:Int)<=d:=by omega
 clear hd
 generalize w.alloc (Obj.map _ 4)=wm at *
 have HW0:=Lib.hid (HW.out wm (Below.refl _ _))
 refine HW0.out.mono ?_
 rintro e y1 ⟨rfl,hb1⟩
 have HB1:=Lib.hid hb1
 have HW1:=Lib.hid (HW.out y1 hb1)
 have HM1:=HM.out y1 hb1
 rw [hkJ] at HM1
 have hfn:=fn_nil
 clear hb1 HW HW0 HM
 go_wp2_with fail
 refine HW1.out.mono ?_
 rintro e y2 ⟨rfl,hb2⟩
 have HB2:=Lib.hid (HB1.out.trans (hb2.mono HB1.out.size))
 have HH2:=Lib.hid (H2.out y2 HB2.out)
 clear HW1 HM1 H2 hb2 HB1
 go_wp2_with fail
 refine HH2.out.mono ?_
 rintro e y3 ⟨rfl,hb3⟩
 have HB3:=Lib.hid (HB2.out.trans (hb3.mono HB2.out.size))
 have HH3:=Lib.hid (H1.out y3 HB3.out)
 clear HH2 hb3 HB2 H1
 go_wp2_with fail
 refine HH3.out.mono ?_
 rintro e y4 ⟨rfl,hb4⟩
 have HB4:=Lib.hid (HB3.out.trans (hb4.mono HB3.out.size))
 have HRy:=Lib.hid (HR.out y4 HB4.out)
 obtain ⟨ao,cap,hr4,_,_⟩:=HRy.out.row
 obtain ⟨_,_,e4⟩:=hr4.c3
 clear hr4
 clear HR HRy
 have HT4:=Lib.hid (HT.out y4 HB4.out)
 have hB4:=HB4
 clear HH3 hb4 HB3 HT
 go_wp2_with fail
 refine HT4.out.mono ?_
 rintro e y5 ⟨rfl,hr5,hf5⟩
 have HF5:=Lib.hid ((Fr.of_below (F:=fun k=>k=gr) (HB.out.trans (HB4.out.mono HB.out.size))).trans hf5 (fun _ _ h=>h))
 have HC5:=Lib.hid (HC.out y5 hr5)
 clear HT4 hr5 hf5 HC HB4 hB4
 go_wp2_with fail
 cases r with
 | err c a=>
  refine HC5.out.mono ?_
  rintro e y6 ⟨rfl,hf6⟩
  have HF6:=Lib.hid (HF5.out.trans hf6 (fun _ _ h=>h))
  clear HC5 hf6 HF5
  unfold badE
  go_wp2_with fail
  exact ⟨rfl,rfl,HF6.out⟩
 | ok p j=>
  refine HC5.out.mono ?_
  rintro e y6 ⟨b,rfl,hp6,hr6,hf6⟩
  have HP6:=Lib.hid hp6;have HR6:=Lib.hid hr6
  have HF6:=Lib.hid (HF5.out.trans hf6 (fun _ _ h=>h))
  clear HC5 hp6 hr6 hf6 HF5
  unfold ptr
  go_wp2_with fail
  go_ret
  exact ⟨b,rfl,HP6.out,HR6.out,HF6.out⟩
end Go.Proofs.YtgjhepblpdnkcaaGreatDoor
namespace Go.Proofs.YtgjhepblpdnkcaaGreatDoor
open Go.RowKit
set_option maxRecDepth 100000
set_option maxHeartbeats 4000000

theorem prim_step (L:List Wd) (gr f:Nat) (hW:WsOk L) (hL:L.length<=100000) (HA:PrC L gr 78 .alt f):PrC L gr 188 .prim (f+1):=by
 intro B i d w r e hrd hi hd
 simp only [prs] at e
 by_cases k2:(wdAt L i).kind=2
 ·rw [if_pos k2,Option.some.injEq] at e
  subst e
  exact prim_call L B gr i d w hrd hi hL k2 _ (fun y hy=>call_any B gr (wdAt L i) y hy)
 rw [if_neg k2] at e
 by_cases k3:(wdAt L i).kind=3
 ·rw [if_pos k3,Option.some.injEq] at e
  subst e
  exact prim_text L B gr i d w hrd hi hL k3 _ (fun y hy=>text_any2 B gr (wdAt L i) y hy)
 rw [if_neg k3] at e
 by_cases k4:(wdAt L i).kind=4
 ·rw [if_pos k4,Option.some.injEq] at e
  subst e
  exact prim_set L B gr i d w hrd hi hL k4 _ (fun y hy=>set_any2 B gr (wdAt L i) y hy)
 rw [if_neg k4] at e
 cases h46:hereW L i [46] with
 | true=>
  rw [h46,if_pos rfl,Option.some.injEq] at e
  subst e
  have hx:=(here_kind h46).2
  have h40:hereW L i [40]=false:=by
   rw [here_sign _ (here_kind h46).1,hx];rfl
  refine prim_dot L B gr i d w hrd hi hL (here_kind h46).1 h46 h40 _ (fun y hy=>(sgn_dot B gr (wdAt L i) y hy.le hx).mono ?_)
  rintro e w' ⟨b,rfl,hp,hb⟩
  exact ⟨b,rfl,hp,hy.below hb,Fr.of_below hb⟩
 | false=>
  rw [h46,if_neg Bool.false_ne_true] at e
  cases h40:hereW L i [40] with
  | true=>
   rw [h40,if_pos rfl] at e
   have hk:=(here_kind h40).1
   have hx:(wdAt L i).tx ≠ [46]:=by rw [(here_kind h40).2];decide
   have hi1:=hW.after hi h40
   by_cases hdd:500<=d
   ·rw [if_pos hdd,Option.some.injEq] at e
    subst e
    exact prim_deep L B gr i d w hrd hi hL hk h46 h40 hdd
   ·rw [if_neg hdd] at e
    cases h41:hereW L (i+1) [41] with
    | true=>
     rw [h41,if_pos rfl,Option.some.injEq] at e
     subst e
     exact prim_open L B gr i d w hrd hi hL hk h46 h40 (by omega) _ (fun y hy=>sgn_empty L B gr (i+1) d (wdAt L i) y hy hi1 hL hx h41)
    | false=>
     rw [h41,if_neg Bool.false_ne_true] at e
     cases hq:prs L f .alt [] (i+1) (d+1) with
     | none=>rw [hq] at e;cases e
     | some r2=>
      rw [hq] at e
      have hr:r=shutR L r2:=by
       cases r2 with
       | err c a=>simpa [shutR] using e.symm
       | ok p j=>
        simp only [shutR] at e ⊢
        split at e
        ·rename_i h;simp only [Option.some.injEq] at e;rw [if_pos h,e]
        ·rename_i h;simp only [Option.some.injEq] at e;rw [if_neg h,e]
      subst hr
      exact prim_open L B gr i d w hrd hi hL hk h46 h40 (by omega) _ (fun y hy=>sgn_open L B gr (i+1) d f (wdAt L i) y hW hy hi1 hL hx h41 (by omega) HA r2 hq)
  | false=>
   rw [h40,if_neg Bool.false_ne_true,Option.some.injEq] at e
   subst e
   obtain ⟨q1,q2⟩:=hW.kd i hi
   have hk:(wdAt L i).kind=1∨(wdAt L i).kind=5:=by omega
   rcases hk with hk | hk
   ·exact prim_end L B gr i d w hrd hi hL hk
   ·exact prim_bad L B gr i d w hrd hi hL hk h46 h40
end Go.Proofs.YtgjhepblpdnkcaaGreatDoor
namespace Go.Proofs.YtgjhepblpdnkcaaGreatDoor
open Go.RowKit
set_option maxRecDepth 100000
set_option maxHeartbeats 8000000

theorem elWord:Elem Tryz.prog 69 82 9 80 (.agg wd0):=⟨by kernel_rfl,by kernel_rfl,rfl,by decide⟩
/-- append(signs, w). -/
theorem app_word2 {ops:Array Oper} {rest:List Oper} {o:Oper} {a:Act} {w:World} {Q:Exit->Act->World->Prop} (hgd:o.guard=none) (s x:Operand) (ho:o.op=.call { callee:=.builtin .append,args:=#[s,x],argTypes:=#[69,69] })
  (B:Nat) (v:Value) (n:Nat) (xs:List Value) (hs:a.eval s=v) (hown:w.ownsRow B 82 9 v n xs) (c:Array Value) (d:Wd) (hc:c=wdD d) (hx:a.eval x=.slice (some ⟨w.heap.size,0,none⟩) 1 1) (hn:n<=1000000) (hB:B<=w.heap.size)
  (h:∀ v' w',w'.ownsRow B 82 9 v' (n+1) (xs ++ (wdD d).toList)->(w.alloc (.cells (wdD d) 82)).grownBy w' v.ownBlock->(∀ k,v'.ownBlock=some k->v.ownBlock=some k∨w.heap.size < k)->wpList Tryz.prog ops Q rest (a.put o.dst v') w'):
  wpList Tryz.prog ops Q (o :: rest) a (w.alloc (.cells c 82)):=by
 subst hc
 refine wpList_append_tag _ hgd s x 69 82 ho elWord B v n xs hs (hown.alloc _) ⟨w.heap.size,0,none⟩ 1 1 (wdD d).toList hx (Sv.lit w 82 (wdD d) 1 9 (by unfold maxLen;omega) rfl) (by simp [wdD,wdA,Value.oneCell']) (by omega) (by unfold maxLen;omega) (by rw [World.size_alloc];omega) ?_
 intro v' w' h1 h2 h3
 exact h v' w' h1 h2 (fun k hk=>(h3 k hk).imp id (fun h=>by rw [World.size_alloc] at h;omega))
/-- The signs taken so far. -/
structure SgnI (L:List Wd) (B gr d i:Nat) (w:World) (v:Value) (wr:World) (n:Nat):Prop where
 own:wr.ownsRow w.heap.size 82 9 v n (((List.range n).map fun k=>wdAt L (i+k)).flatMap fun x=>(wdD x).toList)
 rd:RdW L B gr (i+n) d wr
 fr:Fr (fun k=>k=gr) w wr
theorem SgnI.start {L:List Wd} {B gr d i:Nat} {w:World} (h:RdW L B gr i d w):SgnI L B gr d i w (.slice none 0 0) w 0:=⟨World.ownsRow_nil _ _ _ _,h,Fr.refl _ _⟩
theorem SgnI.more {L:List Wd} {B gr d i n:Nat} {w wr w3 w':World} {v v':Value} (h:SgnI L B gr d i w v wr n) (hBw:B<=w.heap.size) (h3:Fr (fun k=>k=gr) wr w3) (hrd:RdW L B gr (i+n+1) d w3)
  (ho:w'.ownsRow w.heap.size 82 9 v' (n+1) ((((List.range n).map fun k=>wdAt L (i+k)).flatMap fun x=>(wdD x).toList) ++ (wdD (wdAt L (i+n))).toList)) (hg:(w3.alloc (.cells (wdD (wdAt L (i+n))) 82)).grownBy w' v.ownBlock):
  SgnI L B gr d i w v' w' (n+1):=by
 have hA:Fr (fun _=>False) w3 (w3.alloc (.cells (wdD (wdAt L (i+n))) 82)):=Fr.of_below ((Below.refl _ _).alloc (Nat.le_refl _) _)
 have hG:Fr (fun k=>v.ownBlock=some k) w3 w':=(hA.weak (fun _ h=>h.elim)).trans (Fr.grown hg) (fun _ _ h=>h)
 have hvb:∀ k,v.ownBlock=some k->w.heap.size<=k/\k < wr.heap.size:=fun k hk=>h.own.lt k hk
 refine ⟨?_,hrd.fr hG (fun q e=>Nat.le_trans hBw (hvb q e).1),?_⟩
 ·rw [List.range_succ,List.map_append,List.flatMap_append]
  simpa using ho
 ·exact (h.fr.trans h3 (fun _ _ h=>h)).trans hG (fun q hq e=>by have:=(hvb q e).1;omega)
end Go.Proofs.YtgjhepblpdnkcaaGreatDoor
namespace Go.Proofs.YtgjhepblpdnkcaaGreatDoor
open Go.RowKit

theorem prC_zero (L:List Wd) (gr fn:Nat) (m:Md):PrC L gr fn m 0:=by
 intro B i d w r e
 simp [prs] at e
/-- All of them, by the fuel. -/
theorem prC_all (L:List Wd) (gr:Nat) (hW:WsOk L) (hL:L.length<=100000)
  (hI:∀ f,(∀ f',f'<=f->PrC L gr 188 .prim f')->PrC L gr 158 .item (f+1)):
  ∀ f,∀ f',f'<=f->PrC L gr 78 .alt f'/\PrC L gr 121 .seq f'/\PrC L gr 158 .item f'/\PrC L gr 188 .prim f'
 | 0,f',h=>by
  obtain rfl:f'=0:=by omega
  exact ⟨prC_zero _ _ _ _,prC_zero _ _ _ _,prC_zero _ _ _ _,prC_zero _ _ _ _⟩
 | f+1,f',h=>by
  have ih:=prC_all L gr hW hL hI f
  rcases Nat.lt_or_ge f' (f+1) with h1 | h1
  ·exact ih f' (by omega)
  ·obtain rfl:f'=f+1:=by omega
   exact ⟨alt_step L gr f hW hL (fun q hq=>(ih q hq).2.1),seq_step L gr f hW hL (fun q hq=>(ih q hq).2.2.1),hI f (fun q hq=>(ih q hq).2.2.2),prim_step L gr f hW hL (ih f (Nat.le_refl f)).1⟩
end Go.Proofs.YtgjhepblpdnkcaaGreatDoor
namespace Go.Proofs.YtgjhepblpdnkcaaGreatDoor
open Go.RowKit

/-- The reader that Text makes. -/
theorem RdW.start {L:List Wd} {w:World} {ao:Option Addr} {cap:Nat} (hs:Sv w ao L.length cap 9 (L.flatMap fun x=>(wdD x).toList)) (hL:0 < L.length):
  RdW L (w.heap.size+1) w.heap.size 0 (0:Nat) (w.alloc (.cells #[.slice ao L.length cap,.int .i64 0,.int .i64 0] 77)):=by
 have hb:=(Below.refl _ w).alloc (Nat.le_refl _) (.cells #[.slice ao L.length cap,.int .i64 0,.int .i64 0] 77)
 refine ⟨⟨ao,cap,hrow.new _ _ _,hs.below hb,fun a ha=>?_⟩,by omega,by simp⟩
 obtain ⟨a',e,hc⟩:=hs.at wdD_len (by decide) 0 hL
 rw [ha] at e;cases e
 have:=World.block_lt_of_cell? w _ (hc 0 _ rfl)
 simpa [add_block] using this
theorem words_len (l:List UInt8):(wordsOf l).1.length<=l.length+1:=by
 have h:=yields_len l (l.length+1) 0
 have e:yieldsF l (l.length+1) 0=yieldsOf l:=rfl
 rw [e,yields_of,List.length_append,List.length_map] at h
 omega
end Go.Proofs.YtgjhepblpdnkcaaGreatDoor
namespace Go.Proofs.YtgjhepblpdnkcaaGreatDoor
open Go.RowKit
set_option maxRecDepth 100000
set_option maxHeartbeats 4000000

theorem back_any (ao:Option Addr) (n cap:Nat) (w:World):Calls Tryz.prog 191 #[.slice ao n cap] w fun e w'=>e=.returned (.func (.func 210) #[] #[.pointer (some ⟨w.heap.size,0,none⟩)])/\w'=w.alloc (.cells #[.slice ao n cap] 69):=by
 have hmf:∀ (fn:Fn) (first cap:Array Value) (w:World),(Instr.makeFunc fn first cap).run Tryz.prog w=.ok (.func fn first cap) w:=fun _ _ _ _=>rfl
 go_enter Tryz.func191,Tryz.ntmps191
 go_wp2_with fail
 go_ret
 exact ⟨rfl,rfl⟩
end Go.Proofs.YtgjhepblpdnkcaaGreatDoor
namespace Go.Proofs.YtgjhepblpdnkcaaGreatDoor
open Go.RowKit Go.Shelf
set_option maxRecDepth 100000
set_option maxHeartbeats 1000000

/-- What a round keeps: all cells but those of one block. -/
def KpC (P:Nat) (W W':World):Prop:=W.heap.size<=W'.heap.size/\∀ (k:Nat) (cs:Array Value) (t:TypeId) (fr:Nat×Nat),k ≠ P->W.heap[k]?=some (.cells cs t fr)->W'.heap[k]?=W.heap[k]?
theorem kpC_t {P:Nat} {A B C:World} (h:KpC P A B) (k:KpC P B C):KpC P A C:=⟨Nat.le_trans h.1 k.1,fun i cs t fr hi hc=>by
 have e:=h.2 i cs t fr hi hc
 rw [k.2 i cs t fr hi (e.trans hc),e]⟩
theorem kpC_b {P:Nat} (W:World) (l:Nat) (o o':Obj) (h:W.heap[l]?=some o) (hc:o.isCells=false):KpC P W (W.putObj l o'):=by
 have hg:=grownBy_putObj' W l o'
 refine ⟨hg.size,fun k _ _ _ _ hk=>hg.block k (Array.getElem?_eq_some_iff.1 hk).1 (fun e=>?_)⟩
 cases e
 rw [hk] at h;cases h;cases hc
theorem kpC_fr {P:Nat} {F:Nat->Prop} {W W':World} (h:Fr F W W') (hF:∀ k,F k->k=P):KpC P W W':=
 ⟨h.size,fun k _ _ _ hk hc=>h.block k (Array.getElem?_eq_some_iff.1 hc).1 (fun hf=>hk (hF k hf))⟩
theorem KpC.cell {P:Nat} {W W':World} (h:KpC P W W') {a:Addr} {v:Value} (hc:W.cell? a=some v) (ha:a.block ≠ P):W'.cell? a=some v:=by
 have hx:∃ cs t fr,W.heap[a.block]?=some (.cells cs t fr):=by
  unfold World.cell? at hc
  cases hk:W.heap[a.block]? with
  | none=>simp [hk] at hc
  | some ob=>cases ob <;> simp_all
 obtain ⟨cs,t,fr,hk⟩:=hx
 exact (World.cell?_of_block (h.2 _ cs t fr ha hk)).trans hc
theorem KpC.sv {P:Nat} {W W':World} (h:KpC P W W') {ao:Option Addr} {n cap size:Nat} {xs:List Value} (hs:Sv W ao n cap size xs) (ha:∀ a,ao=some a->a.block ≠ P):Sv W' ao n cap size xs:=by
 refine ⟨hs.len,hs.le,hs.cm,hs.nn,fun j hj=>?_⟩
 obtain ⟨a,e,hc⟩:=hs.cell j hj
 rw [List.getElem?_eq_getElem hj] at hc ⊢
 exact ⟨a,e,h.cell hc (by rw [add_block];exact ha a e)⟩
/-- Is the block of cells? -/
def Cl (W:World) (k:Nat):Prop:=∃ cs t fr,W.heap[k]?=some (Obj.cells cs t fr)
theorem Cl.fr {F:Nat->Prop} {W W':World} (h:Fr F W W') {k:Nat} (hk:¬ F k) (hc:Cl W k):Cl W' k:=by
 obtain ⟨cs,t,fr,e⟩:=hc
 exact ⟨cs,t,fr,(h.block k (Array.getElem?_eq_some_iff.1 e).1 hk).trans e⟩
mutual
/-- A part's blocks are of cells. -/
theorem PtW.cl {w:World} {F:Nat->Prop}:∀ (p:Pt) (b:Nat),PtW w F p b->PtW w (fun k=>F k/\Cl w k) p b
 | .mk k cl t lv a nm ks,b,h=>by
  unfold PtW at h ⊢
  obtain ⟨h1,ao,cap,bs,h2,h3,h4,h5⟩:=h
  refine ⟨⟨h1,⟨_,_,_,h2.h⟩⟩,ao,cap,bs,h2,h3,fun x hx hk=>⟨h4 x hx hk,?_⟩,PtsW.cl ks bs h5⟩
  have hl:=h3.len
  have hp:0 < ks.length:=List.length_pos_iff.2 hk
  obtain ⟨a',ha,hc⟩:=h3.cell 0 (by omega)
  rw [hx] at ha;cases ha
  rw [show x.add 0=x by unfold Addr.add;simp,List.getElem?_eq_getElem (by omega)] at hc
  unfold World.cell? at hc
  cases hk:w.heap[x.block]? with
  | none=>simp [hk] at hc
  | some ob=>
   cases ob with
   | cells cs t fr=>exact ⟨cs,t,fr,hk⟩
   | _=>simp [hk] at hc
theorem PtsW.cl {w:World} {F:Nat->Prop}:∀ (ps:List Pt) (bs:List Nat),PtsW w F ps bs->PtsW w (fun k=>F k/\Cl w k) ps bs
 | [],bs,h=>by unfold PtsW at h ⊢;exact h
 | p :: ps,bs,h=>by
  unfold PtsW at h ⊢
  obtain ⟨b,r,h1,h2,h3⟩:=h
  exact ⟨b,r,h1,PtW.cl p b h2,PtsW.cl ps r h3⟩
end
/-- Words from behind, each with its number. -/
def backL (ws:List Wd):List (Nat×Wd):=(List.range ws.length).reverse.map fun i=>(i,wdAt ws i)
theorem backL_len (ws:List Wd):(backL ws).length=ws.length:=by simp [backL]
theorem backL_at (ws:List Wd) (k:Nat) (h:k < ws.length):(backL ws)[k]?=some (ws.length - 1 - k,wdAt ws (ws.length - 1 - k)):=by
 unfold backL
 rw [List.getElem?_map,List.getElem?_reverse (by simpa using h)]
 simp only [List.length_range]
 rw [List.getElem?_range (by omega)];rfl
theorem backL_take (ws:List Wd) (k:Nat) (h:k < ws.length):(backL ws).take (k+1)=(backL ws).take k ++ [(ws.length - 1 - k,wdAt ws (ws.length - 1 - k))]:=by
 rw [List.take_add_one,backL_at ws k h];rfl
def enB (x:Nat×Wd):Array Value:=#[.int .i64 x.1,.agg (wdD x.2)]
/-- The kind that a text makes ahead of a part (nought: none). -/
def ahT (t:List UInt8):Nat:=if t=[33] then 11 else if t=[38] then 12 else 0
/-- A part with the signs ahead of it, from behind. -/
def wrapF (p:Pt) (xs:List (Nat×Wd)):Pt:=xs.foldl (fun p x=>ovr (ahT x.2.tx) x.2.at_ p) p
theorem wrapF_snoc (p:Pt) (xs:List (Nat×Wd)) (x:Nat×Wd):wrapF p (xs ++ [x])=ovr (ahT x.2.tx) x.2.at_ (wrapF p xs):=by
 unfold wrapF;rw [List.foldl_append];rfl
theorem wrapF_take {L:List Wd} {i n:Nat} {p:Pt} (ws:List Wd) (hw:ws=(List.range n).map fun k=>wdAt L (i+k)) (hs:∀ k,k < n->(hereW L (i+k) [33] || hereW L (i+k) [38])=true):
  ∀ m,m<=n->wrapF p ((backL ws).take m)=wrapB L (i+(n - m)) m p
 | 0,_=>rfl
 | m+1,hm=>by
  have hl:ws.length=n:=by rw [hw];simp
  rw [backL_take ws m (by omega),wrapF_snoc,wrapF_take ws hw hs m (by omega)]
  have hwd:wdAt ws (n - 1 - m)=wdAt L (i+(n - (m+1))):=by
   rw [wdAt_in (by omega)]
   subst hw
   rw [List.getElem_map,List.getElem_range]
   congr 1;omega
  rw [hl]
  simp only []
  rw [hwd]
  show _=ovr (aheadK (wdAt L (i+(n - (m+1))))) (wdAt L (i+(n - (m+1)))).at_ (wrapB L (i+(n - (m+1))+1) m p)
  rw [show i+(n - (m+1))+1=i+(n - m) by omega]
  congr 1
  have:=hs (n - (m+1)) (by omega)
  simp only [Bool.or_eq_true] at this
  unfold ahT aheadK
  rcases this with h | h
  ·rw [(here_kind h).2,if_pos rfl,if_pos rfl]
  ·rw [(here_kind h).2];rfl
theorem wrapF_all {L:List Wd} {i n:Nat} {p:Pt} (ws:List Wd) (hw:ws=(List.range n).map fun k=>wdAt L (i+k)) (hs:∀ k,k < n->(hereW L (i+k) [33] || hereW L (i+k) [38])=true):wrapF p (backL ws)=wrapB L i n p:=by
 have hl:ws.length=n:=by rw [hw];simp
 have:=wrapF_take (p:=p) ws hw hs n (Nat.le_refl _)
 rw [List.take_of_length_le (by rw [backL_len];omega)] at this
 rw [this];congr 1;omega
end Go.Proofs.YtgjhepblpdnkcaaGreatDoor
namespace Go.Proofs.YtgjhepblpdnkcaaGreatDoor
open Go

section
variable {F:Fence} {n:Nat} {P:Program} {ops:Array Oper} {md:Region.Mode} {Q:Exit->Act->World->Prop}
theorem wpIn_then {o:Oper} {K:Act->World->Prop} {a:Act} {w:World} (h:o.wpIn F n P a w K (Exit.then K Q)):o.wpIn F n P a w K Q:=by
 unfold Oper.wpIn at *
 refine ⟨h.1,?_⟩
 have hh:=h.2
 generalize (o.semAt F.round a.eval).run P w=r at *
 cases r with
 | ok x w'=>
  cases x <;> simp only [Oper.uponIn] at hh ⊢ <;>
   first
    | exact hh
    | exact ⟨hh.1,CallsIn.mono hh.2 (fun e w'' he=>by cases e <;> exact he)⟩
    | exact ⟨hh.1,RoundIn.mono hh.2 (fun e w'' he=>by cases e <;> exact he)⟩
 | halt x w'=>cases x <;> simp only [Oper.uponIn] at hh ⊢ <;> exact hh
theorem wpOpIn_of_list {i:Nat} {o:Oper} {K:Act->World->Prop} {a:Act} {w:World} (hi:ops[i]?=some o) (h:wpListIn F n P ops (Exit.then K Q) [o] a w):wpOpIn F n P ops Q i K a w:=by
 unfold wpOpIn
 rw [hi]
 simp only [wpListIn] at h ⊢
 split at h
 ·rename_i hw;rw [if_pos hw];exact wpIn_then h
 ·rename_i hw;rw [if_neg hw];exact h
theorem wpOpIn_of_cons {i:Nat} {o:Oper} {rest:List Oper} {a:Act} {w:World} (hi:ops[i]?=some o) (h:wpListIn F n P ops Q (o :: rest) a w):wpOpIn F n P ops Q i (wpListIn F n P ops Q rest) a w:=by
 unfold wpOpIn
 rw [hi]
 simp only [wpListIn] at h ⊢
 exact h
theorem wpAnyIn_inv {g:Nat} (Inv:Nat->Array Bool->Act->World->Prop) (h0:∀ listed a w,Inv 0 listed a w->wpAnyIn F n P md ops Q g listed a w)
  (hs:∀ f listed a w,Inv (f+1) listed a w->Region.ready md ops listed ≠ []/\∀ i ∈ Region.ready md ops listed,∃ o,ops[i]?=some o/\wpListIn F n P ops (Exit.then (Inv f (listed.setIfInBounds i true)) Q) [o] a w):
  ∀ f listed a w,Inv f listed a w->wpAnyIn F n P md ops Q (f+g) listed a w
 | 0,listed,a,w,h=>by rw [Nat.zero_add];exact h0 _ _ _ h
 | f+1,listed,a,w,h=>by
  rw [show f+1+g=(f+g)+1 by omega]
  obtain ⟨h1,h2⟩:=hs f listed a w h
  refine ⟨fun e=>absurd e h1,fun i hi=>?_⟩
  obtain ⟨o,ho,hl⟩:=h2 i hi
  exact wpOpIn_mono (fun a' w' h'=>wpAnyIn_inv Inv h0 hs f _ a' w' h') (wpOpIn_of_list ho hl)
/-- A load of several cells. -/
theorem wpListIn_load_part {rest:List Oper} {o:Oper} {a:Act} {w:World} (hgd:o.guard=none) (ty:TypeId) (x:Operand) (ho:o.op=.load ty x) (p:Addr) (hx:a.eval x=.pointer (some p)) (cs:Array Value)
  (hl:(loadVar ty p).run P w=.ok (.agg cs) w) (h:wpListIn F n P ops Q rest (a.put o.dst (.agg cs)) w):wpListIn F n P ops Q (o :: rest) a w:=by
 refine wpListIn_plain hgd fun K hK=>?_
 unfold Oper.wpIn
 refine ⟨fun f hf=>(by unfold Oper.about at hf;rw [ho] at hf;cases hf),?_⟩
 have hs:o.semAt F.round a.eval=execOp a.eval o:=by
  cases F.round with
  | none=>rfl
  | some l=>exact Oper.semAt_some l _ _ (fun c e=>by rw [ho] at e;cases e)
 have hr:(o.semAt F.round a.eval).run P w=.ok (.value (.agg cs)) w:=by
  rw [hs]
  unfold execOp
  simp only [ho,hx,Instr.loadAt,Instr.sureAddr,Sem.run_bind,Sem.run_pure,Result.andThen_ok,hl]
 rw [hr]
 exact hK _ _ h
/-- The last two. -/
theorem wpAnyIn_two {i j:Nat} {o o2:Oper} {listed:Array Bool} {a:Act} {w:World} (hr1:Region.ready md ops listed=[i]) (hi:ops[i]?=some o) (hr2:Region.ready md ops (listed.setIfInBounds i true)=[j]) (hj:ops[j]?=some o2)
  (hr3:Region.ready md ops ((listed.setIfInBounds i true).setIfInBounds j true)=[]) (h:wpListIn F n P ops Q [o,o2] a w):wpAnyIn F n P md ops Q 2 listed a w:=by
 refine ⟨fun e=>(by rw [hr1] at e;cases e),fun k hk=>?_⟩
 rw [hr1] at hk
 obtain rfl:k=i:=by simpa using hk
 refine wpOpIn_mono (fun a' w' h'=>?_) (wpOpIn_of_cons hi h)
 refine ⟨fun e=>(by rw [hr2] at e;cases e),fun k hk=>?_⟩
 rw [hr2] at hk
 obtain rfl:k=j:=by simpa using hk
 exact wpOpIn_mono (fun a2 w2 h2=>⟨hr3,h2⟩) (wpOpIn_of_cons hj h')
end
end Go.Proofs.YtgjhepblpdnkcaaGreatDoor
namespace Go.Proofs.YtgjhepblpdnkcaaGreatDoor
open Go.RowKit Go.Shelf
attribute [local go_sem] Oper.semAt_some
set_option maxRecDepth 100000
set_option maxHeartbeats 1000000

theorem kpC_refl (P:Nat) (W:World):KpC P W W:=⟨Nat.le_refl _,fun _ _ _ _ _ _=>rfl⟩
theorem back1_stops (ws:List Wd) (ao:Option Addr) (cap B P n:Nat) (w:World) (hc:w.cell? ⟨B,0,none⟩=some (.slice ao ws.length cap)) (hs:Sv w ao ws.length cap 9 (ws.flatMap fun x=>(wdD x).toList)) (hBP:B ≠ P) (haP:∀ a,ao=some a->a.block ≠ P) (hL:ws.length<=1000000):
  SeqStopsK Fence.wide n Tryz.prog 210 #[.pointer (some ⟨B,0,none⟩)] enB (KpC P) (fun xs=>xs=backL ws) (fun _=>True) ws.length w:=fun l J Jx W hW hJ hJx hY h0=>by
 have hW0:W.cell? ⟨B,0,none⟩=some (.slice ao ws.length cap):=(hW.cell (p:=⟨B,0,none⟩) (World.block_lt_of_cell? w _ hc)).trans hc
 have hsW:=hs.below hW
 have HC:=Lib.hid hW0;have HS:=Lib.hid hsW;have HY:=Lib.hid hY;have H0:=Lib.hid h0;have HL:=Lib.hid hL
 have HB:=Lib.hid hBP;have HA:=Lib.hid haP
 clear hs hJ hJx hY h0 hW hW0 hsW hBP haP hc
 refine callsIn_of_wp Tryz.func210 rfl trivial ?_ rfl
 simp only [Tryz.ntmps210,List.size_toArray,List.length_cons,List.length_nil,Nat.reduceAdd,Nat.reduceSub,Array.replicate_succ,Array.replicate_zero,List.push_toArray,List.append_toArray,List.nil_append,List.cons_append]
 have hc0:=HC.out
 gi_wp2
 clear hc0
 gi_loopw [3] (fun p wr=>∃ m:Nat,m<=ws.length/\p=.int .i64 ((m:Int) - 1)/\Hid (J ((backL ws).take (ws.length - m)) wr/\KpC P W wr)) (fun p _=>(intOf p+1).toNat)
 case atStart=>exact ⟨ws.length,Nat.le_refl _,rfl,by unfold Hid;rw [Nat.sub_self];exact ⟨H0.out,kpC_refl _ _⟩⟩
 case round=>
  obtain ⟨m,hm,rfl,HI⟩:=hrel
  cases m with
  | zero=>
   have hlt:¬ (0:Int)<=((0:Nat):Int) - 1:=by omega
   gi_wp2
   go_end0
   exact ⟨⟨_,rfl⟩,.inl (by have:=HI.out.1;rw [Nat.sub_zero,List.take_of_length_le (by rw [backL_len];omega)] at this;exact this)⟩
  | succ i=>
   have hi:i < ws.length:=by omega
   obtain ⟨a,rfl,hp⟩:=Sv.at wdD_len HS.out (by decide) i hi
   have e1:((i+1:Nat):Int) - 1=(i:Int):=by omega
   rw [e1]
   have hge:(0:Int)<=(i:Int):=by omega
   have hiI:(i:Int) < ws.length:=by omega
   have hcr:ws.length<=1000000:=HL.out
   have hbx:=HI.out.2.cell HC.out HB.out
   have HPW:Hid ((loadVar 82 (a.add (i * 9))).run Tryz.prog wr=.ok (.agg (wdD (wdAt ws i))) wr):=by
    rw [wdAt_in hi]
    exact run_loadVar_part wr (a.add (i * 9)) _ _ _ (fun j v hj=>HI.out.2.cell (hp j v hj) (by simp only [add_block];exact HA.out a rfl)) Tryz.underlying82 rfl wd_sz9
   have HT:=Lib.hid (backL_take ws (ws.length - 1 - i) (by omega))
   have e2:ws.length - 1 - (ws.length - 1 - i)=i:=by omega
   have e3:ws.length - 1 - i+1=ws.length - i:=by omega
   have e4:ws.length - (i+1)=ws.length - 1 - i:=by omega
   rw [e2,e3] at HT
   obtain ⟨fn,tmps,assign,body,hy,hR⟩:=HY.out _ (i,wdAt ws i) wr HI.out.1 (by rw [List.length_take,backL_len];omega)
   have hy2:(Instr.yield l #[.int .i64 i,.agg (wdD (wdAt ws i))]).run Tryz.prog wr=.ok (.round l fn tmps assign body) wr:=hy
   have HRo:=Lib.hid hR
   have HKW:=Lib.hid HI.out.2
   clear hy hR hp e1 e2 e3
   rw [e4] at HRo
   rw [← HT.out] at HRo
   clear HT e4 hm
   gi_wp2_with (refine wpListIn_load_part rfl 82 (.tmp 15) rfl (a.add (i * 9)) rfl _ HPW.out ?_)
   refine ⟨fun h=>(by cases h),HRo.out.mono ?_⟩
   rintro e W' (⟨rfl,hJ',hkp⟩ | ⟨rfl,hJx'⟩)
   ·have HJ':=Lib.hid hJ'
    have HK':=Lib.hid (kpC_t HKW.out hkp)
    clear hJ' hkp
    gi_wp2
    go_roundw
    case rel=>exact ⟨i,by omega,rfl,HJ'.out,HK'.out⟩
    case measure=>simp [intOf]
   ·have HJ':=Lib.hid hJx';clear hJx'
    gi_wp2
    refine bodyPost_ret (results_none rfl _ _ _) rfl ?_
    exact ⟨⟨_,rfl⟩,.inr ⟨_,trivial,HJ'.out⟩⟩
end Go.Proofs.YtgjhepblpdnkcaaGreatDoor
