/- Walks and plain laws: FW3 FGd FW5 FW6 FGe FW7. -/
import Derived.Test.YtgjhepblpdnkcaaGreatDoorM02
import Derived.Test.YtgjhepblpdnkcaaGreatDoorM08
import Derived.Maps.Own
import Derived.Deep.RegionHeld3
import Derived.BigQuiet
import Derived.Test.YtgjhepblpdnkcaaGreatDoorM07
import Derived.Test.YtgjhepblpdnkcaaGreatDoorProg
import Derived.OwnWalk
import Derived.BigRegion
import Derived.Deep.DeepCutAuto
import Derived.IntWalk
import Derived.Deep.OwnRows
namespace Go.Proofs.YtgjhepblpdnkcaaGreatDoor
open Go.RowKit Go.ChangeMaps
set_option maxRecDepth 100000
set_option maxHeartbeats 2000000

/-- What kinds want, as the map has it. -/
def wantE:Array MapEntry:=#[⟨.int .i64 1,.func (.func 163) #[] #[],0⟩,⟨.int .i64 2,.func (.func 163) #[] #[],1⟩,⟨.int .i64 3,.func (.func 164) #[] #[],2⟩,⟨.int .i64 4,.func (.func 165) #[] #[],3⟩,⟨.int .i64 5,.func (.func 166) #[] #[],4⟩,
 ⟨.int .i64 6,.func (.func 167) #[] #[],5⟩,⟨.int .i64 7,.func (.func 167) #[] #[],6⟩,⟨.int .i64 8,.func (.func 168) #[] #[],7⟩,⟨.int .i64 9,.func (.func 168) #[] #[],8⟩,⟨.int .i64 10,.func (.func 168) #[] #[],9⟩,⟨.int .i64 11,.func (.func 168) #[] #[],10⟩,⟨.int .i64 12,.func (.func 168) #[] #[],11⟩]

theorem fkind_und:Tryz.prog.underlying 40=some (.int .i64):=by kernel_rfl
theorem want_und:Tryz.prog.underlying 194=some (.map 40 193):=by kernel_rfl

theorem fmapUp (w:World) (es:Array MapEntry) (clock:Nat) (n:Int) (v:Value) (h1:∀ x ∈ es.toList,∃ a,x.key=.int .i64 a) (h2:∀ x ∈ es.toList,x.key ≠ .int .i64 n):
  (Instr.mapUpdate 194 (.map (some w.heap.size)) (.int .i64 n) v).run Tryz.prog (w.alloc (.map es clock))=.ok () (w.alloc (.map (es.push ⟨.int .i64 n,v,clock⟩) (clock+1))):=by
 rw [run_map_new (keyInt fkind_und) want_und (heap_alloc_new _ _) h1 ⟨n,rfl⟩ h2,setBlock_new]

theorem wants_any (w:World):Calls Tryz.prog 133 #[] w fun e w'=>e=.returned (.map (some w.heap.size))/\w'=w.alloc (.map wantE 12):=by
 have hmm:=@run_makeMap Tryz.prog
 have hmu:=fmapUp
 go_enter Tryz.func133,Tryz.ntmps133
 go_wp2_with fail
 go_ret
 exact ⟨rfl,rfl⟩

/-- What a kind has in that map. -/
def wantV (k:Int):Value:=
 if k=1∨k=2 then .func (.func 163) #[] #[] else if k=3 then .func (.func 164) #[] #[] else if k=4 then .func (.func 165) #[] #[] else if k=5 then .func (.func 166) #[] #[]
 else if k=6∨k=7 then .func (.func 167) #[] #[] else if 8<=k/\k<=12 then .func (.func 168) #[] #[] else .nilFunc
theorem wantE_at (i:Nat) (h:i < 12):∃ b,wantE[i]?=some ⟨.int .i64 ((i:Int)+1),wantV ((i:Int)+1),b⟩:=by
 match i,h with
 | 0,_=>exact ⟨_,rfl⟩
 | 1,_=>exact ⟨_,rfl⟩
 | 2,_=>exact ⟨_,rfl⟩
 | 3,_=>exact ⟨_,rfl⟩
 | 4,_=>exact ⟨_,rfl⟩
 | 5,_=>exact ⟨_,rfl⟩
 | 6,_=>exact ⟨_,rfl⟩
 | 7,_=>exact ⟨_,rfl⟩
 | 8,_=>exact ⟨_,rfl⟩
 | 9,_=>exact ⟨_,rfl⟩
 | 10,_=>exact ⟨_,rfl⟩
 | 11,_=>exact ⟨_,rfl⟩
theorem wantE_key:∀ x ∈ wantE.toList,∃ a,x.key=.int .i64 a:=by
 intro x hx
 obtain ⟨i,hi⟩:=List.mem_iff_getElem?.1 hx
 have hlt:i < 12:=(List.getElem?_eq_some_iff.1 hi).1
 obtain ⟨b,hb⟩:=wantE_at i hlt
 have:wantE[i]?=some x:=by simpa using hi
 rw [hb] at this
 cases this
 exact ⟨_,rfl⟩
theorem zeroF (w:World):(zeroValue 193).run Tryz.prog w=.ok .nilFunc w:=by kernel_rfl
theorem look_want (w:World) (g:Nat) (hg:w.heap[g]?=some (.map wantE 12)) (k:Int):(Instr.lookup 194 (.map (some g)) (.int .i64 k) false).run Tryz.prog w=.ok (wantV k) w:=by
 by_cases h:1<=k/\k<=12
 ·obtain ⟨i,rfl⟩:∃ i:Nat,k=(i:Int)+1:=⟨(k - 1).toNat,by omega⟩
  obtain ⟨b,hb⟩:=wantE_at i (by omega)
  have:=run_look_yes (keyInt fkind_und) want_und hg wantE_key ⟨_,rfl⟩ hb rfl (fun m hm y hy e=>by
   obtain ⟨b',hb'⟩:=wantE_at m (by omega)
   rw [hb'] at hy
   cases hy
   simp only [Value.int.injEq,true_and] at e
   omega) false
  simpa using this
 ·have hn:∀ x ∈ wantE.toList,x.key ≠ .int .i64 k:=by
   intro x hx e
   obtain ⟨i,hi⟩:=List.mem_iff_getElem?.1 hx
   have hlt:i < 12:=(List.getElem?_eq_some_iff.1 hi).1
   obtain ⟨b,hb⟩:=wantE_at i hlt
   have hx':wantE[i]?=some x:=by simpa using hi
   rw [hb] at hx'
   cases hx'
   simp only [Value.int.injEq,true_and] at e
   omega
  have:=run_look_no (keyInt fkind_und) want_und hg wantE_key ⟨_,rfl⟩ hn (zeroF w) false
  have hv:wantV k=.nilFunc:=by
   unfold wantV
   rw [if_neg (by omega),if_neg (by omega),if_neg (by omega),if_neg (by omega),if_neg (by omega),if_neg (by omega)]
  rw [hv]
  simpa using this
/-- The map behind a box, behind the draw. -/
theorem look_box (w:World) (o:Obj) (k:Int):(Instr.lookup 194 (.map (some (w.heap.size+1))) (.int .i64 k) false).run Tryz.prog ((w.alloc o).alloc (.map wantE 12)).drew=.ok (wantV k) ((w.alloc o).alloc (.map wantE 12)).drew:=by
 refine look_want _ _ ?_ k
 have:=heap_alloc_new (w.alloc o) (.map wantE 12)
 rw [World.size_alloc] at this
 exact this

theorem eq_fun (d:Nat) (w:World) (fn:Fn) (x y:Array Value):(Op.equalIn (d+1) 193 (.func fn x y) .nilFunc).run Tryz.prog w=.ok false w:=by
 simp [Op.equalIn,run_underlying Tryz.underlying193]
theorem eq_nof (d:Nat) (w:World):(Op.equalIn (d+1) 193 .nilFunc .nilFunc).run Tryz.prog w=.ok true w:=by
 simp [Op.equalIn,run_underlying Tryz.underlying193]
theorem neq_fun (w:World) (fn:Fn) (x y:Array Value):(binOp .neq 193 (.func fn x y) .nilFunc).run Tryz.prog w=.ok (.bool true) w:=by
 have h:(Op.equal 193 (.func fn x y) .nilFunc).run Tryz.prog w=.ok false w:=eq_fun 9999 w fn x y
 simp [binOp,h]
theorem neq_nof (w:World):(binOp .neq 193 .nilFunc .nilFunc).run Tryz.prog w=.ok (.bool false) w:=by
 have h:(Op.equal 193 .nilFunc .nilFunc).run Tryz.prog w=.ok true w:=eq_nof 9999 w
 simp [binOp,h]

/-- A node, as a value. -/
def ndv (x:Nd) (ka:Option Addr) (kc:Nat):Value:=.agg #[.int .i64 x.kind,.int .u64 x.c0,.int .u64 x.c1,.int .u64 x.c2,.int .u64 x.c3,.string x.text,.int .i64 x.rule,.int .i64 x.lev,.slice ka x.kids.length kc]

theorem nil_size:(ByteArray.mk #[]).size=0:=rfl
set_option linter.unusedSimpArgs false
section
variable {k a b c d:Int} {t:ByteArray} {r l:Int} {kids:List Int} {n:Nat}
theorem nb_bare (h:k=1∨k=2):(plainB a b c d t r l && kids.length == 0)=nodeB n ⟨k,a,b,c,d,t,r,l,kids⟩:=by
 unfold nodeB plainB clsB txtB calB
 simp only []
 rw [if_pos h]
 rw [Bool.eq_iff_iff]
 simp only [Bool.and_eq_true,Bool.or_eq_true,Bool.not_eq_true',beq_iff_eq,decide_eq_true_eq,Bool.and_eq_false_iff,beq_eq_false_iff_ne,ne_eq,beq_self_eq_true,true_and,and_true,nil_size]
 first | omega | grind
theorem wv_bare (h:k=1∨k=2):wantV k=.func (.func 163) #[] #[]:=by
 unfold wantV
 rw [if_pos h]
theorem nb_set (h:k=3):(!(a == 0 && b == 0 && c == 0 && d == 0) && (plainB 0 0 0 0 t r l && kids.length == 0))=nodeB n ⟨k,a,b,c,d,t,r,l,kids⟩:=by
 unfold nodeB plainB clsB txtB calB
 simp only []
 rw [if_neg (by omega),if_pos h]
 rw [Bool.eq_iff_iff]
 simp only [Bool.and_eq_true,Bool.or_eq_true,Bool.not_eq_true',beq_iff_eq,decide_eq_true_eq,Bool.and_eq_false_iff,beq_eq_false_iff_ne,ne_eq,beq_self_eq_true,true_and,and_true,nil_size]
 first | omega | grind
theorem wv_set (h:k=3):wantV k=.func (.func 164) #[] #[]:=by
 unfold wantV
 rw [if_neg (by omega),if_pos h]
theorem nb_text (h:k=4):(decide (0 < t.size) && decide (t.size<=64) && (plainB a b c d ⟨#[]⟩ r l && kids.length == 0))=nodeB n ⟨k,a,b,c,d,t,r,l,kids⟩:=by
 unfold nodeB plainB clsB txtB calB
 simp only []
 rw [if_neg (by omega),if_neg (by omega),if_pos h]
 rw [Bool.eq_iff_iff]
 simp only [Bool.and_eq_true,Bool.or_eq_true,Bool.not_eq_true',beq_iff_eq,decide_eq_true_eq,Bool.and_eq_false_iff,beq_eq_false_iff_ne,ne_eq,beq_self_eq_true,true_and,and_true,nil_size]
 first | omega | grind
theorem wv_text (h:k=4):wantV k=.func (.func 165) #[] #[]:=by
 unfold wantV
 rw [if_neg (by omega),if_neg (by omega),if_pos h]
theorem nb_call (h:k=5):(decide (0<=r) && decide (r < n) && decide (0<=l) && decide (l<=99) && (plainB a b c d t 0 0 && kids.length == 0))=nodeB n ⟨k,a,b,c,d,t,r,l,kids⟩:=by
 unfold nodeB plainB clsB txtB calB
 simp only []
 rw [if_neg (by omega),if_neg (by omega),if_neg (by omega),if_pos h]
 rw [Bool.eq_iff_iff]
 simp only [Bool.and_eq_true,Bool.or_eq_true,Bool.not_eq_true',beq_iff_eq,decide_eq_true_eq,Bool.and_eq_false_iff,beq_eq_false_iff_ne,ne_eq,beq_self_eq_true,true_and,and_true,nil_size]
 first | omega | grind
theorem wv_call (h:k=5):wantV k=.func (.func 166) #[] #[]:=by
 unfold wantV
 rw [if_neg (by omega),if_neg (by omega),if_neg (by omega),if_pos h]
theorem nb_many (h:k=6∨k=7):(plainB a b c d t r l && decide (2<=kids.length) && decide (kids.length<=64))=nodeB n ⟨k,a,b,c,d,t,r,l,kids⟩:=by
 unfold nodeB plainB clsB txtB calB
 simp only []
 rw [if_neg (by omega),if_neg (by omega),if_neg (by omega),if_neg (by omega),if_pos h]
 rw [Bool.eq_iff_iff]
 simp only [Bool.and_eq_true,Bool.or_eq_true,Bool.not_eq_true',beq_iff_eq,decide_eq_true_eq,Bool.and_eq_false_iff,beq_eq_false_iff_ne,ne_eq,beq_self_eq_true,true_and,and_true,nil_size]
 first | omega | grind
theorem wv_many (h:k=6∨k=7):wantV k=.func (.func 167) #[] #[]:=by
 unfold wantV
 rw [if_neg (by omega),if_neg (by omega),if_neg (by omega),if_neg (by omega),if_pos h]
theorem nb_one (h:8<=k/\k<=12):(plainB a b c d t r l && kids.length == 1)=nodeB n ⟨k,a,b,c,d,t,r,l,kids⟩:=by
 unfold nodeB plainB clsB txtB calB
 simp only []
 rw [if_neg (by omega),if_neg (by omega),if_neg (by omega),if_neg (by omega),if_neg (by omega),if_pos h]
 rw [Bool.eq_iff_iff]
 simp only [Bool.and_eq_true,Bool.or_eq_true,Bool.not_eq_true',beq_iff_eq,decide_eq_true_eq,Bool.and_eq_false_iff,beq_eq_false_iff_ne,ne_eq,beq_self_eq_true,true_and,and_true,nil_size]
 first | omega | grind
theorem wv_one (h:8<=k/\k<=12):wantV k=.func (.func 168) #[] #[]:=by
 unfold wantV
 rw [if_neg (by omega),if_neg (by omega),if_neg (by omega),if_neg (by omega),if_neg (by omega),if_pos h]
theorem nb_none (h:k < 1∨12 < k):false=nodeB n ⟨k,a,b,c,d,t,r,l,kids⟩:=by
 unfold nodeB
 simp only []
 rw [if_neg (by omega),if_neg (by omega),if_neg (by omega),if_neg (by omega),if_neg (by omega),if_neg (by omega)]
theorem wv_none (h:k < 1∨12 < k):wantV k=.nilFunc:=by
 unfold wantV
 rw [if_neg (by omega),if_neg (by omega),if_neg (by omega),if_neg (by omega),if_neg (by omega),if_neg (by omega)]
end

theorem node_any (w:World) (x:Nd) (ka:Option Addr) (kc:Nat) (n:Nat) (ht:x.text.size<=9223372036854775807):
  Calls Tryz.prog 96 #[ndv x ka kc,.int .i64 n] w fun e w'=>e=.returned (.bool (nodeB n x))/\Below w.heap.size w w':=by
 obtain ⟨kind,a,b,c,d,t,r,l,kids⟩:=x
 unfold ndv
 have hlk:=look_box
 have hfe:=neq_fun
 have hfn:=neq_nof
 have HB0:=Lib.hid (al1 (Below.refl w.heap.size w) (.cells #[.int .i64 kind,.int .u64 a,.int .u64 b,.int .u64 c,.int .u64 d,.string t,.int .i64 r,.int .i64 l,.slice ka kids.length kc] 45))
 go_enter Tryz.func96,Tryz.ntmps96
 go_wp2_with fail
 go_region_with ((go_at_call 133;refine (wants_any _).mono ?_;rintro e w2 ⟨rfl,rfl⟩))
 all_goals
  have HBW:=Lib.hid ((al1 HB0.out (.map wantE 12)).drew)
  rcases (show (kind=1∨kind=2)∨kind=3∨kind=4∨kind=5∨(kind=6∨kind=7)∨(8<=kind/\kind<=12)∨(kind < 1∨12 < kind) by omega) with h | h | h | h | h | h | h
  ·rw [wv_bare h]
   have H:=Lib.hid h;clear h
   go_wp2_with fail
   refine (fbare_any _ kind a b c d t r l ka kids.length kc n).mono ?_
   rintro e w2 ⟨rfl,hb⟩
   have HB2:=Lib.hid (HBW.out.trans (hb.mono HBW.out.size))
   clear hb
   go_wp2_with fail
   go_ret
   exact ⟨ret_bool (nb_bare H.out),HB2.out⟩
  ·rw [wv_set h]
   have H:=Lib.hid h;clear h
   go_wp2_with fail
   refine (setS_any _ kind a b c d t r l ka kids.length kc n).mono ?_
   rintro e w2 ⟨rfl,hb⟩
   have HB2:=Lib.hid (HBW.out.trans (hb.mono HBW.out.size))
   clear hb
   go_wp2_with fail
   go_ret
   exact ⟨ret_bool (by rw [← nb_set H.out];simp),HB2.out⟩
  ·rw [wv_text h]
   have H:=Lib.hid h;clear h
   go_wp2_with fail
   refine (textS_any _ kind a b c d t r l ka kids.length kc n ht).mono ?_
   rintro e w2 ⟨rfl,hb⟩
   have HB2:=Lib.hid (HBW.out.trans (hb.mono HBW.out.size))
   clear hb
   go_wp2_with fail
   go_ret
   exact ⟨ret_bool (nb_text H.out),HB2.out⟩
  ·rw [wv_call h]
   have H:=Lib.hid h;clear h
   go_wp2_with fail
   refine (callS_any _ kind a b c d t r l ka kids.length kc n).mono ?_
   rintro e w2 ⟨rfl,hb⟩
   have HB2:=Lib.hid (HBW.out.trans (hb.mono HBW.out.size))
   clear hb
   go_wp2_with fail
   go_ret
   exact ⟨ret_bool (nb_call H.out),HB2.out⟩
  ·rw [wv_many h]
   have H:=Lib.hid h;clear h
   go_wp2_with fail
   refine (many_any _ kind a b c d t r l ka kids.length kc n).mono ?_
   rintro e w2 ⟨rfl,hb⟩
   have HB2:=Lib.hid (HBW.out.trans (hb.mono HBW.out.size))
   clear hb
   go_wp2_with fail
   go_ret
   exact ⟨ret_bool (nb_many H.out),HB2.out⟩
  ·rw [wv_one h]
   have H:=Lib.hid h;clear h
   go_wp2_with fail
   refine (one_any _ kind a b c d t r l ka kids.length kc n).mono ?_
   rintro e w2 ⟨rfl,hb⟩
   have HB2:=Lib.hid (HBW.out.trans (hb.mono HBW.out.size))
   clear hb
   go_wp2_with fail
   go_ret
   exact ⟨ret_bool (nb_one H.out),HB2.out⟩
  ·rw [wv_none h]
   have H:=Lib.hid h;clear h
   go_wp2_with fail
   go_ret
   exact ⟨ret_bool (nb_none H.out),HBW.out⟩
end Go.Proofs.YtgjhepblpdnkcaaGreatDoor
namespace Go.Proofs.YtgjhepblpdnkcaaGreatDoor
open Go.RowKit

theorem fl_get {α:Type} {f:α->List Value} {s:Nat} (hf:∀ x,(f x).length=s):∀ (l:List α) (i j:Nat) (hi:i < l.length),j < s->(l.flatMap f)[i * s+j]?=(f l[i])[j]?
 | [],i,j,hi,_=>by simp at hi
 | x :: r,0,j,hi,hj=>by
  rw [List.flatMap_cons,List.getElem?_append_left (by rw [hf];omega)]
  simp
 | x :: r,i+1,j,hi,hj=>by
  rw [List.flatMap_cons,List.getElem?_append_right (by rw [hf,Nat.succ_mul];omega),hf,show (i+1) * s+j - s=i * s+j by rw [Nat.succ_mul];omega]
  rw [fl_get hf r i j (by simpa using hi) hj]
  simp
end Go.Proofs.YtgjhepblpdnkcaaGreatDoor
namespace Go.Proofs.YtgjhepblpdnkcaaGreatDoor
open Go.RowKit
set_option maxRecDepth 100000
set_option maxHeartbeats 1000000

theorem str_eq {a b:ByteArray}:a.toList=b.toList ↔ a=b:=by
 rw [Lib.toList_data,Lib.toList_data]
 constructor
 ·intro h
  cases a;cases b
  simp only [ByteArray.mk.injEq]
  exact Array.toList_inj.1 h
 ·rintro rfl;rfl
theorem str_beq (a b:ByteArray):(a.toList == b.toList)=decide (a=b):=by
 rw [Bool.eq_iff_iff];simp [str_eq]

theorem ruleE_any (w:World) (nm:ByteArray) (b:Int) (p:Addr) (s:ByteArray) (hp:w.cell? p=some (.string s)):
  Calls Tryz.prog 43 #[.agg #[.string nm,.int .i64 b],.pointer (some p)] w fun e w'=>e=.returned (.bool (decide (nm=s)))/\Below w.heap.size w w':=by
 have hlt:=World.block_lt_of_cell? w _ hp
 have hp2:(w.alloc (.cells #[.string nm,.int .i64 b] 49)).cell? p=some (.string s):=(((Below.refl w.heap.size w).alloc (Nat.le_refl _) _).cell hlt).trans hp
 go_enter Tryz.func43,Tryz.ntmps43
 go_wp2_with fail
 go_ret
 exact ⟨ret_bool (str_beq _ _),(Below.refl _ _).alloc (Nat.le_refl _) _⟩

/-- The rule's place, from one on. -/
theorem ruleIx_drop (s:ByteArray):∀ (k:Nat) (l:List Ru),l.length=k->(∀ i,(h:i < l.length)->(l[i]'h).name ≠ s)->∀ r,ruleIx (l ++ r) s=if ruleIx r s < 0 then -1 else ruleIx r s+k:=by
 intro k
 induction k with
 | zero=>
  intro l hl _ r
  have:l=[]:=List.eq_nil_of_length_eq_zero hl
  subst this
  simp only [List.nil_append]
  have hneg:∀ r:List Ru,ruleIx r s < 0->ruleIx r s=-1:=by
   intro r
   cases r with
   | nil=>intro _;rfl
   | cons x xs=>
    intro h
    simp only [ruleIx] at h ⊢
    by_cases hx:x.name=s
    ·rw [if_pos hx] at h;omega
    ·rw [if_neg hx] at h ⊢
     by_cases h2:ruleIx xs s < 0
     ·rw [if_pos h2]
     ·rw [if_neg h2] at h;omega
  by_cases h:ruleIx r s < 0
  ·rw [if_pos h,hneg r h]
  ·rw [if_neg h];omega
 | succ k ih=>
  intro l hl hn r
  cases l with
  | nil=>simp at hl
  | cons x xs=>
   have hx:x.name ≠ s:=hn 0 (by simp)
   have:=ih xs (by simpa using hl) (fun i h=>by have:=hn (i+1) (by simpa using h);simpa using this) r
   simp only [List.cons_append,ruleIx,if_neg hx,this]
   by_cases h:ruleIx r s < 0
   ·rw [if_pos h];simp;intro;omega
   ·rw [if_neg h,if_neg h,if_neg (by omega)];omega
theorem ruleIx_found {l:List Ru} {s:ByteArray} {k:Nat} (hk:k < l.length) (he:(l[k]'hk).name=s) (hn:∀ i,(h:i < k)->(l[i]'(by omega)).name ≠ s):ruleIx l s=k:=by
 have h:=ruleIx_drop s k (l.take k) (by simp;omega) (fun i h=>by
  have hi:i < k:=by simp at h;omega
  rw [List.getElem_take]
  exact hn i hi) (l.drop k)
 rw [List.take_append_drop] at h
 rw [h,List.drop_eq_getElem_cons hk]
 simp only [ruleIx,if_pos he]
 simp
theorem ruleIx_none {l:List Ru} {s:ByteArray} (hn:∀ i,(h:i < l.length)->(l[i]'h).name ≠ s):ruleIx l s=-1:=by
 have h:=ruleIx_drop s l.length l rfl hn []
 rw [List.append_nil] at h
 rw [h];rfl

theorem indexR_any (w:World) (ro:Option Addr) (rn rc:Nat) (l:List Ru) (hr:Sv w ro rn rc 2 (l.flatMap ruc)) (p:Addr) (s:ByteArray) (hp:w.cell? p=some (.string s)):
  Calls Tryz.prog 42 #[.slice ro rn rc,.func (.func 43) #[] #[.pointer (some p)]] w fun e w'=>e=.returned (.int .i64 (ruleIx l s))/\Below w.heap.size w w':=by
 obtain ⟨b1,b2⟩:=hr.bound
 have hl:=hr.n_eq ruc_len (by decide)
 have HR:=Lib.hid hr
 have HL:=Lib.hid hl
 have hlt:=World.block_lt_of_cell? w _ hp
 have HP:=Lib.hid hp
 clear hr hl hp
 go_enter Tryz.func42,Tryz.ntmps42
 go_wp2_with fail
 go_loopw [8] (fun i wr=>∃ k:Nat,k<=rn/\i=.int .i64 k/\Hid (Below w.heap.size w wr/\∀ i,(h:i < k)->(h':i < l.length)->(l[i]'h').name ≠ s)) (fun i _=>rn - (intOf i).toNat)
 case atStart=>exact ⟨0,by omega,rfl,Below.refl _ _,fun i h=>absurd h (by omega)⟩
 case round=>
  obtain ⟨k,hk,rfl,HI⟩:=hrel
  by_cases hlt2:k < rn
  ·have hk':(k:Int) < rn:=by omega
   have hkl:k < l.length:=by have:=HL.out;omega
   obtain ⟨ra,rfl,hc⟩:=Sv.at ruc_len (HR.out.below HI.out.1) (by decide) k hkl
   have c0:wr.cell? (ra.add (k * 2))=some (.string (l[k]'hkl).name):=hc 0 _ rfl
   have c1:wr.cell? ⟨(ra.add (k * 2)).block,(ra.add (k * 2)).off+1,none⟩=some (.int .i64 (l[k]'hkl).body):=by
    have:=hc 1 _ rfl
    rw [add_off _ _ _ (by decide)] at this
    exact this
   have hpw:wr.cell? p=some (.string s):=(HI.out.1.cell hlt).trans HP.out
   have HE:=Lib.hid (fun (h:(l[k]'hkl).name=s)=>ruleIx_found hkl h (fun i hi=>HI.out.2 i hi (by omega)))
   have HN:=Lib.hid (fun (h:(l[k]'hkl).name ≠ s)=>(fun i hi h'=>by
    by_cases e:i=k
    ·subst e;exact h
    ·exact HI.out.2 i (by omega) h':∀ i,(h:i < k+1)->(h':i < l.length)->(l[i]'h').name ≠ s))
   clear hc
   generalize l[k]'hkl=r at *
   obtain ⟨nm,b⟩:=r
   simp only [] at c0 c1 HE HN
   by_cases he:nm=s
   ·have HRes:=Lib.hid (HE.out he)
    have hdec:decide (nm=s)=true:=by simpa using he
    have HDec:=Lib.hid hdec
    clear hdec HE HN he
    go_wp2_with fail
    refine (ruleE_any wr nm b p s hpw).mono ?_
    rintro e w3 ⟨rfl,hb3⟩
    have HB3:=Lib.hid (HI.out.1.trans (hb3.mono HI.out.1.size))
    rw [HDec.out]
    clear hb3
    go_wp2_with fail
    go_ret
    exact ⟨ret_int HRes.out.symm,HB3.out⟩
   ·have HRes:=Lib.hid (HN.out he)
    have hdec:decide (nm=s)=false:=by simpa using he
    have HDec:=Lib.hid hdec
    clear hdec HE HN he
    go_wp2_with fail
    refine (ruleE_any wr nm b p s hpw).mono ?_
    rintro e w3 ⟨rfl,hb3⟩
    have HB3:=Lib.hid (HI.out.1.trans (hb3.mono HI.out.1.size))
    rw [HDec.out]
    clear hb3
    go_wp2_with fail
    go_roundw
    case rel=>exact ⟨k+1,by omega,by go_num,HB3.out,HRes.out⟩
    case measure=>simp [intOf];omega
  ·have hge:(rn:Int)<=k:=by omega
   have HRes:=Lib.hid (ruleIx_none (fun i h=>HI.out.2 i (by have:=HL.out;omega) h))
   go_wp2_with fail
   go_ret
   exact ⟨ret_int HRes.out.symm,HI.out.1⟩

theorem rule_any (w:World) (ro:Option Addr) (rn rc:Nat) (v:Value) (l:List Ru) (hr:Sv w ro rn rc 2 (l.flatMap ruc)) (s:ByteArray) (no:Option Addr) (nn nc:Nat) (hv:v=.slice no nn nc):
  Calls Tryz.prog 15 #[.agg #[.slice ro rn rc,v],.string s] w fun e w'=>e=.returned (.int .i64 (ruleIx l s))/\Below w.heap.size w w':=by
 subst hv
 have HB:=Lib.hid (al2 (Below.refl w.heap.size w) (.cells #[.slice ro rn rc,.slice no nn nc] 25) (.cells #[.string s] 9))
 have hc:((w.alloc (.cells #[.slice ro rn rc,.slice no nn nc] 25)).alloc (.cells #[.string s] 9)).cell? ⟨w.heap.size+1,0,none⟩=some (.string s):=by
  have:=(hrow.new (w.alloc (.cells #[.slice ro rn rc,.slice no nn nc] 25)) #[.string s] 9).cell 0
  rw [World.size_alloc] at this
  exact this
 have HC:=Lib.hid hc
 have HR:=Lib.hid (hr.below HB.out)
 clear hr hc
 go_enter Tryz.func15,Tryz.ntmps15
 go_wp2_with fail
 refine (indexR_any _ ro rn rc l HR.out _ s HC.out).mono ?_
 rintro e w2 ⟨rfl,hb⟩
 have HB2:=Lib.hid (HB.out.trans (hb.mono HB.out.size))
 clear hb
 go_wp2_with fail
 go_ret
 exact ⟨rfl,HB2.out⟩
end Go.Proofs.YtgjhepblpdnkcaaGreatDoor
namespace Go.Proofs.YtgjhepblpdnkcaaGreatDoor
open Go.RowKit
set_option maxRecDepth 100000
set_option maxHeartbeats 2000000

theorem whole1_any (w:World) (x:Nd) (ka:Option Addr) (kc:Nat) (ht:x.text.size<=9223372036854775807) (p:Addr) (ro:Option Addr) (rn rc:Nat) (hp:w.cell? p=some (.slice ro rn rc)):
  Calls Tryz.prog 95 #[ndv x ka kc,.pointer (some p)] w fun e w'=>e=.returned (.bool (!nodeB rn x))/\Below w.heap.size w w':=by
 have hlt:=World.block_lt_of_cell? w _ hp
 obtain ⟨k,a,b,c,d,t,r,l,kids⟩:=x
 have HN:=Lib.hid (fun w'=>node_any w' ⟨k,a,b,c,d,t,r,l,kids⟩ ka kc rn ht)
 unfold ndv
 have HB:=Lib.hid (al1 (Below.refl w.heap.size w) (.cells #[.int .i64 k,.int .u64 a,.int .u64 b,.int .u64 c,.int .u64 d,.string t,.int .i64 r,.int .i64 l,.slice ka kids.length kc] 45))
 have hp2:(w.alloc (.cells #[.int .i64 k,.int .u64 a,.int .u64 b,.int .u64 c,.int .u64 d,.string t,.int .i64 r,.int .i64 l,.slice ka kids.length kc] 45)).cell? p=some (.slice ro rn rc):=(HB.out.cell hlt).trans hp
 go_enter Tryz.func95,Tryz.ntmps95
 go_wp2_with fail
 refine (HN.out _).mono ?_
 rintro e w2 ⟨rfl,hb⟩
 have HB2:=Lib.hid (HB.out.trans (hb.mono HB.out.size))
 clear hb
 go_wp2_with fail
 go_ret
 exact ⟨rfl,HB2.out⟩

/-- What the search for a node that is not right tells. -/
def NodeAt (w:World) (rn:Nat) (N:List Nd) (e:Ending) (w':World):Prop:=∃ r:Int,e=.returned (.int .i64 r)/\(0<=r ↔ ¬ N.all (nodeB rn)=true)/\Below w.heap.size w w'

theorem indexN_any (w:World) (no:Option Addr) (nn nc:Nat) (NK:List (Nd×(Option Addr×Nat))) (hN:NdW w no nn nc NK) (p:Addr) (ro:Option Addr) (rn rc:Nat) (hp:w.cell? p=some (.slice ro rn rc)):
  Calls Tryz.prog 132 #[.slice no nn nc,.func (.func 95) #[] #[.pointer (some p)]] w (NodeAt w rn (NK.map (·.1))):=by
 obtain ⟨b1,b2⟩:=hN.sv.bound
 have hl:=hN.sv.n_eq ndc_len (by decide)
 have HN:=Lib.hid hN
 have HL:=Lib.hid hl
 have hlt:=World.block_lt_of_cell? w _ hp
 have HP:=Lib.hid hp
 clear hN hl hp
 go_enter Tryz.func132,Tryz.ntmps132
 go_wp2_with fail
 go_loopw [8] (fun i wr=>∃ k:Nat,k<=nn/\i=.int .i64 k/\Hid (Below w.heap.size w wr/\∀ i,(h:i < k)->(h':i < NK.length)->nodeB rn (NK[i]'h').1=true)) (fun i _=>nn - (intOf i).toNat)
 case atStart=>exact ⟨0,by omega,rfl,Below.refl _ _,fun i h=>absurd h (by omega)⟩
 case round=>
  obtain ⟨k,hk,rfl,HI⟩:=hrel
  by_cases hlt2:k < nn
  ·have hk':(k:Int) < nn:=by omega
   have hkl:k < NK.length:=by have:=HL.out;omega
   have hmem:NK[k]'hkl ∈ NK:=List.getElem_mem hkl
   obtain ⟨ra,rfl,hc⟩:=Sv.at ndc_len (HN.out.below HI.out.1).sv (by decide) k hkl
   have htx:=HN.out.txt _ hmem
   have HY:Hid (nodeB rn (NK[k]'hkl).1=false->¬ (NK.map (·.1)).all (nodeB rn)=true):=fun h hall=>by
    have:=List.all_eq_true.1 hall (NK[k]'hkl).1 (List.mem_map.2 ⟨_,hmem,rfl⟩)
    rw [h] at this;cases this
   have HM:Hid (nodeB rn (NK[k]'hkl).1=true->∀ i,(h:i < k+1)->(h':i < NK.length)->nodeB rn (NK[i]'h').1=true):=fun h i hi h'=>by
    by_cases e:i=k
    ·subst e;exact h
    ·exact HI.out.2 i (by omega) h'
   have hpw:wr.cell? p=some (.slice ro rn rc):=(HI.out.1.cell hlt).trans HP.out
   clear hmem
   generalize NK[k]'hkl=q at *
   obtain ⟨⟨kd,a,b,c,d,t,r,l,kids⟩,ka,kc⟩:=q
   simp only [] at htx HY HM
   have c0:wr.cell? (ra.add (k * 9))=some (.int .i64 kd):=hc 0 _ rfl
   have cc:=fun j v (hj:0 < j) (h:(ndc (⟨kd,a,b,c,d,t,r,l,kids⟩,ka,kc))[j]?=some v)=>(add_off ra (k * 9) j hj) ▸ hc j v h
   have c1:wr.cell? ⟨(ra.add (k * 9)).block,(ra.add (k * 9)).off+1,none⟩=some (.int .u64 a):=cc 1 _ (by decide) rfl
   have c2:wr.cell? ⟨(ra.add (k * 9)).block,(ra.add (k * 9)).off+2,none⟩=some (.int .u64 b):=cc 2 _ (by decide) rfl
   have c3:wr.cell? ⟨(ra.add (k * 9)).block,(ra.add (k * 9)).off+3,none⟩=some (.int .u64 c):=cc 3 _ (by decide) rfl
   have c4:wr.cell? ⟨(ra.add (k * 9)).block,(ra.add (k * 9)).off+4,none⟩=some (.int .u64 d):=cc 4 _ (by decide) rfl
   have c5:wr.cell? ⟨(ra.add (k * 9)).block,(ra.add (k * 9)).off+5,none⟩=some (.string t):=cc 5 _ (by decide) rfl
   have c6:wr.cell? ⟨(ra.add (k * 9)).block,(ra.add (k * 9)).off+6,none⟩=some (.int .i64 r):=cc 6 _ (by decide) rfl
   have c7:wr.cell? ⟨(ra.add (k * 9)).block,(ra.add (k * 9)).off+7,none⟩=some (.int .i64 l):=cc 7 _ (by decide) rfl
   have c8:wr.cell? ⟨(ra.add (k * 9)).block,(ra.add (k * 9)).off+8,none⟩=some (.slice ka kids.length kc):=cc 8 _ (by decide) rfl
   have HW:=Lib.hid (whole1_any wr ⟨kd,a,b,c,d,t,r,l,kids⟩ ka kc htx p ro rn rc hpw)
   clear hc cc hpw htx
   cases hb:nodeB rn ⟨kd,a,b,c,d,t,r,l,kids⟩
   ·have HRes:=Lib.hid (HY.out hb)
    have HBn:=Lib.hid hb
    clear hb HY HM
    go_wp2_with fail
    refine HW.out.mono ?_
    rintro e w3 ⟨rfl,hb3⟩
    have HB3:=Lib.hid (HI.out.1.trans (hb3.mono HI.out.1.size))
    rw [HBn.out]
    clear hb3
    go_wp2_with fail
    go_ret
    exact ⟨(k:Int),rfl,⟨fun _=>HRes.out,fun _=>by omega⟩,HB3.out⟩
   ·have HRes:=Lib.hid (HM.out hb)
    have HBn:=Lib.hid hb
    clear hb HY HM
    go_wp2_with fail
    refine HW.out.mono ?_
    rintro e w3 ⟨rfl,hb3⟩
    have HB3:=Lib.hid (HI.out.1.trans (hb3.mono HI.out.1.size))
    rw [HBn.out]
    clear hb3
    go_wp2_with fail
    go_roundw
    case rel=>exact ⟨k+1,by omega,by go_num,HB3.out,HRes.out⟩
    case measure=>simp [intOf];omega
  ·have hge:(nn:Int)<=k:=by omega
   have HRes:Hid ((NK.map (·.1)).all (nodeB rn)=true):=by
    show _=true
    rw [List.all_eq_true]
    intro x hx
    obtain ⟨q,hq,rfl⟩:=List.mem_map.1 hx
    obtain ⟨i,hi,rfl⟩:=List.getElem_of_mem hq
    exact HI.out.2 i (by have:=HL.out;omega) hi
   go_wp2_with fail
   go_ret
   exact ⟨-1,rfl,⟨fun h=>by omega,fun h=>absurd HRes.out h⟩,HI.out.1⟩

theorem contN_any (w:World) (no:Option Addr) (nn nc:Nat) (NK:List (Nd×(Option Addr×Nat))) (hN:NdW w no nn nc NK) (p:Addr) (ro:Option Addr) (rn rc:Nat) (hp:w.cell? p=some (.slice ro rn rc)):
  Calls Tryz.prog 94 #[.slice no nn nc,.func (.func 95) #[] #[.pointer (some p)]] w fun e w'=>e=.returned (.bool (!(NK.map (·.1)).all (nodeB rn)))/\Below w.heap.size w w':=by
 have HX:=Lib.hid (indexN_any w no nn nc NK hN p ro rn rc hp)
 clear hN hp
 go_enter Tryz.func94,Tryz.ntmps94
 go_wp2_with fail
 refine HX.out.mono ?_
 rintro e w2 ⟨r,rfl,hr,hb⟩
 have HR:=Lib.hid hr
 have HB:=Lib.hid hb
 clear hr hb
 go_wp2_with fail
 go_ret
 refine ⟨ret_bool ?_,HB.out⟩
 rw [Bool.eq_iff_iff]
 have:=HR.out
 simp only [decide_eq_true_eq,Bool.not_eq_true',Bool.not_eq_true] at this ⊢
 exact this
end Go.Proofs.YtgjhepblpdnkcaaGreatDoor
namespace Go.Proofs.YtgjhepblpdnkcaaGreatDoor
open Go.RowKit

section
variable {N:List Nd}
theorem tabs_none:∀ (e:Nat) {d:Nat},tabs N d=none->d<=e->tabs N e=none
 | 0,d,h,hd=>by
  obtain rfl:d=0:=by omega
  exact h
 | e+1,d,h,hd=>by
  by_cases he:d=e+1
  ·subst he;exact h
  ·have:=tabs_none e h (by omega)
   simp only [tabs,this]
theorem tabs_step {d:Nat} {T:List (Nat×Nat)} (hT:tabs N d=some T) (hd:d < N.length):tabs N (d+1)=match kidsT (N.length - d) T N.length (N[N.length - (d+1)]'(by omega)).kids (N.length - d) 0 with
  | none=>none
  | some (next,high)=>some ((next - (N.length - (d+1)),high+1) :: T):=by
 simp only [tabs,hT,List.getElem?_eq_getElem (show N.length - (d+1) < N.length by omega)]
 cases kidsT (N.length - d) T N.length (N[N.length - (d+1)]'(by omega)).kids (N.length - d) 0 <;> rfl
theorem kidsT_cons {n:Nat} {T:List (Nat×Nat)} {len:Nat} {k:Int} {ks:List Int} {m h:Nat}:kidsT n T len (k :: ks) m h=if k ≠ (m:Int)∨(len:Int)<=k then none else kidsT n T len ks (m+(T.getD (m - n) (0,0)).1) (max h (T.getD (m - n) (0,0)).2):=rfl
end

theorem tabs_at {κ:Type} {NK:List (Nd×κ)} {nn d n:Nat} {T:List (Nat×Nat)} (hl:NK.length=nn) (hn:n+1+d=nn) (hT:tabs (NK.map (·.1)) d=some T) (h:n < NK.length):
  tabs (NK.map (·.1)) (d+1)=match kidsT (n+1) T nn (NK[n]'h).1.kids (n+1) 0 with
   | none=>none
   | some p=>some ((p.1 - n,p.2+1) :: T):=by
 have hL:(NK.map (·.1)).length=nn:=by simp [hl]
 have e1:(NK.map (·.1)).length - (d+1)=n:=by omega
 have e2:(NK.map (·.1)).length - d=n+1:=by omega
 rw [tabs_step hT (by omega)]
 have e3:((NK.map (·.1))[(NK.map (·.1)).length - (d+1)]'(by omega))=(NK[n]'h).1:=by
  simp only [e1,List.getElem_map]
 rw [e3,e2,e1,hL]
 cases kidsT (n+1) T nn (NK[n]'h).1.kids (n+1) 0 <;> rfl

def rngs (n:Nat) (S:Nat->Nat):Array Value:=((List.range n).map fun i=>Value.int .i64 (S i)).toArray
theorem rngs_get (n:Nat) (S:Nat->Nat) (i:Nat) (h:i < n):(rngs n S)[i]?=some (.int .i64 (S i)):=by
 simp [rngs,h]
def updN (S:Nat->Nat) (k v:Nat):Nat->Nat:=fun i=>if i=k then v else S i
theorem rngs_set (n:Nat) (S:Nat->Nat) (k v:Nat):(rngs n S).setIfInBounds k (.int .i64 v)=rngs n (updN S k v):=by
 apply Array.ext
 ·simp [rngs]
 ·intro i h1 h2
  have hi:i < n:=by simpa [rngs] using h2
  rw [Array.getElem_setIfInBounds (by simpa using h1)]
  by_cases h:k=i
  ·subst h;simp [rngs,updN]
  ·simp [rngs,updN,h,show ¬ i=k from fun e=>h e.symm]

/-- The kids, as far as they are gone through. -/
theorem tab_at {N:List Nd} {n:Nat} {T:List (Nat×Nat)} (h:TabOk N n T) {k:Nat} (h1:n<=k) (h2:k < N.length):k+(T.getD (k - n) (0,0)).1<=N.length/\(T.getD (k - n) (0,0)).2<=N.length:=by
 have h3:=h.2 k h1 h2
 exact ⟨(aft_range h3).2.1,by have:=aft_len h3;omega⟩

/-- While the table is made: its box, the sizes, the heights. -/
structure OfS (w0 w:World) (gb g1 g2 nn:Nat) (S H:Nat->Nat):Prop where
 box:hrow w gb #[.slice (some ⟨g1,0,none⟩) nn nn,.slice (some ⟨g2,0,none⟩) nn nn] 104
 bel:Below w0.heap.size w0 w
 siz:hrow w g1 (rngs nn S) 3
 hei:hrow w g2 (rngs nn H) 3
 ne:g1 ≠ g2
 lo:w0.heap.size<=gb/\w0.heap.size<=g1/\w0.heap.size<=g2
section
variable {w0 w w':World} {gb g1 g2 nn:Nat} {S H:Nat->Nat}
theorem OfS.below (h:OfS w0 w gb g1 g2 nn S H) (hb:Below w.heap.size w w'):OfS w0 w' gb g1 g2 nn S H:=
 ⟨h.box.below hb,h.bel.trans (hb.mono h.bel.size),h.siz.below hb,h.hei.below hb,h.ne,h.lo⟩
theorem OfS.nb (h:OfS w0 w gb g1 g2 nn S H):gb ≠ g1/\gb ≠ g2:=by
 constructor
 ·rintro rfl
  have:=h.box.h.symm.trans h.siz.h
  simp only [Option.some.injEq,Obj.cells.injEq] at this
  exact absurd this.2.1 (by decide)
 ·rintro rfl
  have:=h.box.h.symm.trans h.hei.h
  simp only [Option.some.injEq,Obj.cells.injEq] at this
  exact absurd this.2.1 (by decide)
theorem OfS.put1 (h:OfS w0 w gb g1 g2 nn S H) (k v:Nat):OfS w0 (w.setCell ⟨g1,k,none⟩ (.int .i64 v)) gb g1 g2 nn (updN S k v) H:=by
 have hf:=Fr.setCell w ⟨g1,k,none⟩ (.int .i64 v)
 refine ⟨h.box.fr hf h.nb.1,h.bel.setCell h.lo.2.1 _,?_,h.hei.fr hf (fun e=>h.ne e.symm),h.ne,h.lo⟩
 rw [← rngs_set]
 exact heap_setCell_same _ _ _ _ _ _ h.siz.h
theorem OfS.put2 (h:OfS w0 w gb g1 g2 nn S H) (k v:Nat):OfS w0 (w.setCell ⟨g2,k,none⟩ (.int .i64 v)) gb g1 g2 nn S (updN H k v):=by
 have hf:=Fr.setCell w ⟨g2,k,none⟩ (.int .i64 v)
 refine ⟨h.box.fr hf h.nb.2,h.bel.setCell h.lo.2.2 _,h.siz.fr hf h.ne,?_,h.ne,h.lo⟩
 rw [← rngs_set]
 exact heap_setCell_same _ _ _ _ _ _ h.hei.h
theorem OfS.same (h:OfS w0 w gb g1 g2 nn S H):OfS w0 ((w.setCell ⟨gb,0,none⟩ (.slice (some ⟨g1,0,none⟩) nn nn)).setCell ⟨gb,1,none⟩ (.slice (some ⟨g2,0,none⟩) nn nn)) gb g1 g2 nn S H:=by
 have f1:=Fr.setCell w ⟨gb,0,none⟩ (.slice (some ⟨g1,0,none⟩) nn nn)
 have f2:=Fr.setCell (w.setCell ⟨gb,0,none⟩ (.slice (some ⟨g1,0,none⟩) nn nn)) ⟨gb,1,none⟩ (.slice (some ⟨g2,0,none⟩) nn nn)
 have hb:hrow (w.setCell ⟨gb,0,none⟩ (.slice (some ⟨g1,0,none⟩) nn nn)) gb _ _:=heap_setCell_same _ _ _ _ _ _ h.box.h
 have hb2:hrow ((w.setCell ⟨gb,0,none⟩ (.slice (some ⟨g1,0,none⟩) nn nn)).setCell ⟨gb,1,none⟩ (.slice (some ⟨g2,0,none⟩) nn nn)) gb _ _:=heap_setCell_same _ _ _ _ _ _ hb.h
 exact ⟨hb2,(h.bel.setCell h.lo.1 _).setCell h.lo.1 _,(h.siz.fr f1 (fun e=>h.nb.1 e.symm)).fr f2 (fun e=>h.nb.1 e.symm),(h.hei.fr f1 (fun e=>h.nb.2 e.symm)).fr f2 (fun e=>h.nb.2 e.symm),h.ne,h.lo⟩
end
/-- The sizes and heights that stand are those of the table. -/
def Agrees (n:Nat) (T:List (Nat×Nat)) (len:Nat) (S H:Nat->Nat):Prop:=∀ j,n<=j->j < len->S j=(T.getD (j - n) (0,0)).1/\H j=(T.getD (j - n) (0,0)).2
theorem Agrees.next {n:Nat} {T:List (Nat×Nat)} {len:Nat} {S H:Nat->Nat} (h:Agrees (n+1) T len S H) (a b:Nat):Agrees n ((a,b) :: T) len (updN S n a) (updN H n b):=by
 intro j h1 h2
 by_cases e:j=n
 ·subst e;simp [updN]
 ·obtain ⟨q,hq⟩:∃ q,j - n=q+1:=⟨j - (n+1),by omega⟩
  have:=h j (by omega) h2
  rw [hq,List.getD_cons_succ,show q=j - (n+1) by omega]
  simpa [updN,e] using this
end Go.Proofs.YtgjhepblpdnkcaaGreatDoor
namespace Go.Proofs.YtgjhepblpdnkcaaGreatDoor
open Go.RowKit
set_option maxRecDepth 100000
set_option maxHeartbeats 4000000

theorem infoInt:(Tryz.prog.info? 3).map (fun i=>(i.zero,i.size,i.bytes))=some (some (.int .i64 0),1,8):=by kernel_rfl
theorem made_rngs (n:Nat):madeCells #[.int .i64 0] n=rngs n (fun _=>0):=by
  apply Array.ext
  · simp [madeCells,rngs]
  · intro i h1 h2
    simp [madeCells,rngs,Nat.mod_one]
theorem three (w:World) (A B C:Obj):((((w.alloc A).alloc B).alloc C).drew).heap[w.heap.size]?=some A/\((((w.alloc A).alloc B).alloc C).drew).heap[w.heap.size+1]?=some B/\((((w.alloc A).alloc B).alloc C).drew).heap[w.heap.size+1+1]?=some C:=by
  show ((w.heap.push A).push B |>.push C)[w.heap.size]?=some A/\((w.heap.push A).push B |>.push C)[w.heap.size+1]?=some B/\((w.heap.push A).push B |>.push C)[w.heap.size+1+1]?=some C
  refine ⟨?_,?_,?_⟩
  · rw [Array.getElem?_push,if_neg (by simp;omega),Array.getElem?_push,if_neg (by simp),Array.getElem?_push,if_pos (by simp)]
  · rw [Array.getElem?_push,if_neg (by simp),Array.getElem?_push,if_pos (by simp)]
  · rw [Array.getElem?_push,if_pos (by simp)]
/-- What 'of' tells. -/
def OfOut (w:World) (N:List Nd) (nn:Nat) (e:Ending) (w':World):Prop:=
  ∃ (a1 a2:Nat) (S H:Nat->Nat) (b:Bool),e=.returned (.tuple #[.agg #[.slice (some ⟨a1,0,none⟩) nn nn,.slice (some ⟨a2,0,none⟩) nn nn],.bool b])/\Below w.heap.size w w'/\
    hrow w' a1 (rngs nn S) 3/\hrow w' a2 (rngs nn H) 3/\(b=true->∃ T,tabs N nn=some T/\Agrees 0 T nn S H)/\(b=false->tabs N nn=none)

theorem of_any (w:World) (no:Option Addr) (nn nc:Nat) (NK:List (Nd×(Option Addr×Nat))) (hN:NdW w no nn nc NK) (hb:nn<=2048):
    Calls Tryz.prog 97 #[.slice no nn nc] w (OfOut w (NK.map (·.1)) nn):=by
  obtain ⟨b1,b2⟩:=hN.sv.bound
  have hl:=hN.sv.n_eq ndc_len (by decide)
  have HN:=Lib.hid hN
  have HL:=Lib.hid hl
  have hmk:=run_make_row' (P:=Tryz.prog) 26 3 (.int .i64 0) 8 (by kernel_rfl) infoInt rfl .i64 .i64 nn (by omega) (by omega)
  clear hN hl
  go_enter Tryz.func97,Tryz.ntmps97
  go_upto_region 1 with (fail)
  go_cut [3] (fun v wx=>v=.bool false/\∃ g1 g2,OfS w wx w.heap.size g1 g2 nn (fun _=>0) (fun _=>0))
  case first=>
    go_region
    all_goals
      go_wp2_with fail
      go_meet
      refine ⟨rfl,?_⟩
      rw [made_rngs]
      have h3:=three w
      first
        | (refine ⟨w.heap.size+1,w.heap.size+1+1,?_,?_,?_,?_,by omega,by omega⟩
           · exact (h3 _ _ _).1
           · exact (al1 (al2 (Below.refl _ _) _ _) _).drew
           · exact (h3 _ _ _).2.1
           · exact (h3 _ _ _).2.2)
        | (refine ⟨w.heap.size+1+1,w.heap.size+1,?_,?_,?_,?_,by omega,by omega⟩
           · exact (h3 _ _ _).1
           · exact (al1 (al2 (Below.refl _ _) _ _) _).drew
           · exact (h3 _ _ _).2.2
           · exact (h3 _ _ _).2.1)
  case rest=>
    obtain ⟨rfl,g1,g2,hO⟩:=hcut
    have HO:=Lib.hid hO
    clear hO hmk
    generalize hgb:w.heap.size=gb at *
    have HGb:=Lib.hid hgb
    clear hgb
    go_wp2_with fail
    go_loopw [4] (fun s wr=>∃ (z:Int) (d:Nat) (T:List (Nat×Nat)) (S H:Nat->Nat),d<=nn/\z=(nn:Int) - 1 - d/\s=.int .i64 z/\Hid (OfS w wr gb g1 g2 nn S H)/\Hid (tabs (NK.map (·.1)) d=some T/\Agrees (nn - d) T nn S H)) (fun s _=>(intOf s+1).toNat)
    case atStart=>exact ⟨_,0,[],_,_,by omega,rfl,by simp,HO.out,rfl,fun j h1 h2=>absurd h2 (by omega)⟩
    case round=>
      obtain ⟨z,d,T,S,H,hd,hz,rfl,HS,HT⟩:=hrel
      by_cases hlt:d < nn
      · obtain ⟨n,hn⟩:∃ n:Nat,n+1+d=nn:=⟨nn - 1 - d,by omega⟩
        obtain rfl:z=n:=by omega
        have hz0:(0:Int)<=n:=by omega
        have hzn:(n:Int) < nn:=by omega
        have hnl:n < NK.length:=by have:=HL.out;omega
        have hmem:NK[n]'hnl ∈ NK:=List.getElem_mem hnl
        obtain ⟨ra,rfl,hc⟩:=Sv.at ndc_len (HN.out.below (by have:=HS.out.bel;exact this)).sv (by decide) n hnl
        have c8:wr.cell? ⟨(ra.add (n * 9)).block,(ra.add (n * 9)).off+8,none⟩=some (.slice (NK[n]'hnl).2.1 (NK[n]'hnl).1.kids.length (NK[n]'hnl).2.2):=by
          have:=hc 8 _ rfl
          rw [add_off _ _ _ (by decide)] at this
          exact this
        have HKs:=Lib.hid (HN.out.kids _ hmem)
        have hkb:=(HN.out.kids _ hmem).bound
        have hTb:=(tabs_ok (N:=NK.map (·.1)) d (by simp;have:=HL.out;omega)).1 T HT.out.1
        have HTb:=Lib.hid hTb
        have HStep:=Lib.hid (tabs_at HL.out hn HT.out.1 hnl)
        clear hc hmem hTb
        generalize NK[n]'hnl=q at *
        obtain ⟨x,ka,kc⟩:=q
        simp only [] at c8 HKs hkb HStep
        obtain ⟨hkb1,hkb2⟩:=hkb
        generalize hks:x.kids=ks at *
        have HLk:Hid (ks.length=ks.length):=rfl
        clear hks
        obtain ⟨wt,rfl⟩:∃ wt:World,wt=wr:=⟨_,rfl⟩
        have HZ:=Lib.hid hz
        have HNd:=Lib.hid hn
        clear hz hn hlt
        go_wp2_with fail
        go_loopw [5,6,31] (fun a b c wr=>∃ (i nx hi:Nat),i<=ks.length/\n+1<=nx/\nx<=nn/\hi<=nn/\c=.int .i64 i/\a=.int .i64 nx/\b=.int .i64 hi/\Hid (OfS w wr gb g1 g2 nn S H)/\Hid (kidsT (n+1) T nn (ks.drop i) nx hi=kidsT (n+1) T nn ks (n+1) 0)) (fun _ _ c _=>ks.length - (intOf c).toNat)
        case atStart=>exact ⟨0,n+1,0,by omega,by omega,by omega,by omega,rfl,by go_num,rfl,HS.out,rfl⟩
        case round=>
          obtain ⟨i,nx,hi,hile,hnx1,hnx2,hhi,rfl,rfl,rfl,HS,HK⟩:=hrel
          by_cases hit:i < ks.length
          · have hit':(i:Int) < ks.length:=by omega
            obtain ⟨kb,rfl,hkc⟩:=(HKs.out.below HS.out.bel).cell i (by simp [inc];omega)
            have hk:wr.cell? (kb.add i)=some (.int .i64 (ks[i]'hit)):=by rw [hkc];simp [inc,hit]
            obtain ⟨bc0,bc1⟩:=(HS.out.box).c2
            obtain ⟨bf0,bf1⟩:=(HS.out.box).f2
            have HKc:=Lib.hid (List.drop_eq_getElem_cons hit)
            clear hkc
            generalize ks[i]'hit=k at *
            have HK2:Hid ((if k ≠ (nx:Int)∨(nn:Int)<=k then none else kidsT (n+1) T nn (ks.drop (i+1)) (nx+(T.getD (nx - (n+1)) (0,0)).1) (max hi (T.getD (nx - (n+1)) (0,0)).2))=kidsT (n+1) T nn ks (n+1) 0):=by
              show _=_
              rw [← HK.out,HKc.out,kidsT_cons]
            by_cases hbad:k ≠ (nx:Int)∨(nn:Int)<=k
            · have hno:tabs (NK.map (·.1)) nn=none:=by
                have h2:=HK2.out
                rw [if_pos hbad] at h2
                have h3:=HStep.out
                rw [← h2] at h3
                exact tabs_none nn h3 (by have:=HNd.out;omega)
              have HNo:=Lib.hid hno
              clear hno HK2 HKc
              by_cases hkn:k=(nx:Int)
              · have hge:(nn:Int)<=nx:=by omega
                have hge2:decide ((nn:Int)<=(nx:Int))=true:=decide_eq_true hge
                subst hkn
                clear hbad
                go_wp2_with fail
                have HSz:=Lib.hid HS.out.same
                revert HSz
                generalize (wr.setCell ⟨gb,0,none⟩ (.slice (some ⟨g1,0,none⟩) nn nn)).setCell ⟨gb,1,none⟩ (.slice (some ⟨g2,0,none⟩) nn nn)=wz
                intro HSz
                obtain ⟨bz0,bz1⟩:=(HSz.out.box).c2
                exact bodyPost_ret (v:=.tuple #[.agg #[.slice (some ⟨g1,0,none⟩) nn nn,.slice (some ⟨g2,0,none⟩) nn nn],.bool false]) (by simp [results,Tryz.results97,go_sem,bz0,bz1]) rfl ⟨g1,g2,S,H,false,rfl,HSz.out.bel,HSz.out.siz,HSz.out.hei,fun h=>(by cases h),fun _=>HNo.out⟩
              · have hne:(k != (nx:Int))=true:=by simpa using hkn
                clear hbad hkn
                go_wp2_with fail
                have HSz:=Lib.hid HS.out.same
                revert HSz
                generalize (wr.setCell ⟨gb,0,none⟩ (.slice (some ⟨g1,0,none⟩) nn nn)).setCell ⟨gb,1,none⟩ (.slice (some ⟨g2,0,none⟩) nn nn)=wz
                intro HSz
                obtain ⟨bz0,bz1⟩:=(HSz.out.box).c2
                exact bodyPost_ret (v:=.tuple #[.agg #[.slice (some ⟨g1,0,none⟩) nn nn,.slice (some ⟨g2,0,none⟩) nn nn],.bool false]) (by simp [results,Tryz.results97,go_sem,bz0,bz1]) rfl ⟨g1,g2,S,H,false,rfl,HSz.out.bel,HSz.out.siz,HSz.out.hei,fun h=>(by cases h),fun _=>HNo.out⟩
            · obtain ⟨rfl,hlt2⟩:k=(nx:Int)/\nx < nn:=by omega
              clear hbad
              have hk2:=HK2.out
              rw [if_neg (by omega)] at hk2
              have hab:=tab_at HTb.out (k:=nx) (by have:=HL.out;have:=HNd.out;simp;omega) (by have:=HL.out;simp;omega)
              have hag:=HT.out.2 nx (by have:=HNd.out;omega) hlt2
              have e1:nx - (n+1)=nx - (nn - d):=by have:=HNd.out;omega
              have e2:(NK.map (·.1)).length - d=nn - d:=by have:=HL.out;simp;omega
              rw [e2] at hab
              rw [e1,← hag.1,← hag.2] at hk2
              rw [← hag.1,← hag.2] at hab
              have hlen:(NK.map (·.1)).length=nn:=by have:=HL.out;simp;omega
              rw [hlen] at hab
              have hs1:wr.cell? ⟨g1,nx,none⟩=some (.int .i64 (S nx)):=(HS.out.siz.cell nx).trans (rngs_get _ _ _ hlt2)
              have hs2:wr.cell? ⟨g2,nx,none⟩=some (.int .i64 (H nx)):=(HS.out.hei.cell nx).trans (rngs_get _ _ _ hlt2)
              have hlt3:(nx:Int) < nn:=by omega
              have HHk:=Lib.hid hk2
              have hw1:IntKind.i64.wrap ((nx:Int)+(S nx:Nat))=(nx:Int)+(S nx:Nat):=IntWalk.i64_in _ (by omega)
              clear hk2 e1 e2 hag HK2 HKc hlen
              generalize S nx=sx at *
              generalize H nx=hx at *
              go_wp2_with fail
              go_region
              go_wp2_with fail
              go_roundw
              case rel=>exact ⟨i+1,nx+sx,max hi hx,by omega,by omega,by omega,by omega,by go_num,by go_num,by go_num,HS.out.below (by first | exact (Below.refl _ _).drew | exact below_drewN (Below.refl _ _) _),HHk.out⟩
              case measure=>simp [intOf];omega
          · obtain rfl:i=ks.length:=by omega
            have hfin:=HK.out
            rw [List.drop_length] at hfin
            simp only [kidsT] at hfin
            have hnew:=HStep.out
            rw [← hfin] at hnew
            have hag:=Agrees.next (n:=n) (T:=T) (len:=nn) (S:=S) (H:=H) (by have:=HT.out.2;have e:=HNd.out;rw [show nn - d=n+1 by omega] at this;exact this) (nx - n) (hi+1)
            have HNew:=Lib.hid hnew
            have HAg:=Lib.hid hag
            have hs1:wr.cell? ⟨g1,n,none⟩=some (.int .i64 (S n)):=(HS.out.siz.cell n).trans (rngs_get _ _ _ (by omega))
            have hs2:wr.cell? ⟨g2,n,none⟩=some (.int .i64 (H n)):=(HS.out.hei.cell n).trans (rngs_get _ _ _ (by omega))
            have hf1:=HS.out.siz.frozen n
            have hf2:=HS.out.hei.frozen n
            obtain ⟨bc0,bc1⟩:=(HS.out.box).c2
            have hne:=HS.out.ne
            have hne2:¬ g2=g1:=fun e=>hne e.symm
            have hnb1:=HS.out.nb.1
            have hnb2:=HS.out.nb.2
            have HP1:=Lib.hid (((HS.out.put1 n (nx - n)).put2 n (hi+1)).below (Below.refl _ _).drew)
            have HP2:=Lib.hid (((HS.out.put2 n (hi+1)).put1 n (nx - n)).below (Below.refl _ _).drew)
            have hw1:IntKind.i64.wrap ((nx:Int) - (n:Int))=((nx - n:Nat):Int):=by rw [IntWalk.i64_in _ (by omega)];omega
            have hw2:IntKind.i64.wrap ((hi:Int)+1)=((hi+1:Nat):Int):=by rw [IntWalk.i64_in _ (by omega)];omega
            have hw3:((nx:Int) - (n:Int))=((nx - n:Nat):Int):=by omega
            clear hfin hnew hag
            go_wp2_with fail
            go_region
            all_goals
              go_wp2_with fail
              go_roundw
              case rel=>
                refine ⟨_,d+1,_,_,_,by have:=HNd.out;omega,?_,rfl,(by first | exact HP1.out | exact HP2.out),HNew.out,?_⟩
                · have:=HZ.out;omega
                · have e:nn - (d+1)=n:=by have:=HNd.out;omega
                  rw [e];exact HAg.out
              case measure=>simp [intOf]
      · obtain rfl:d=nn:=by omega
        obtain rfl:z=-1:=by omega
        obtain ⟨bc0,bc1⟩:=(HS.out.box).c2
        obtain ⟨bf0,bf1⟩:=(HS.out.box).f2
        have HTf:Hid (tabs (NK.map (·.1)) d=some T/\Agrees 0 T d S H):=⟨HT.out.1,by have:=HT.out.2;rw [Nat.sub_self] at this;exact this⟩
        clear hz
        go_wp2_with fail
        have HSz:=Lib.hid HS.out.same
        revert HSz
        generalize (wr.setCell ⟨gb,0,none⟩ (.slice (some ⟨g1,0,none⟩) d d)).setCell ⟨gb,1,none⟩ (.slice (some ⟨g2,0,none⟩) d d)=wz
        intro HSz
        obtain ⟨bz0,bz1⟩:=(HSz.out.box).c2
        exact bodyPost_ret (v:=.tuple #[.agg #[.slice (some ⟨g1,0,none⟩) d d,.slice (some ⟨g2,0,none⟩) d d],.bool true]) (by simp [results,Tryz.results97,go_sem,bz0,bz1]) rfl ⟨g1,g2,S,H,true,rfl,HSz.out.bel,HSz.out.siz,HSz.out.hei,fun _=>⟨T,HTf.out⟩,fun h=>(by cases h)⟩
end Go.Proofs.YtgjhepblpdnkcaaGreatDoor
