/- Walks and plain laws: Lib Later Fr Mp E3 Es Ed Ee Ef. -/
import Derived.WalkKit
import Derived.Lib.Hide
import Derived.ProofKit
import Derived.Laws.AppendOwnNone
import Derived.Laws.CopyOwn
import Derived.Deep.AppendLies
import Derived.Deep.Quiet
import Derived.Deep.QuietTactic
import Derived.BigQuiet
import Derived.StillTail
import Derived.Below
import Derived.MapKept
import Derived.WideKeyRuns
import Derived.ChangeMaps4
import Derived.ChangeKeysEq
import Derived.Test.YtgjhepblpdnkcaaGreatDoorM01
import Derived.Maps.Own
import Derived.Laws.IdiomRangeMap
import Derived.Maps.RangeRun
namespace Go.Proofs.YtgjhepblpdnkcaaGreatDoor
open Go.RowKit

theorem ret_int {k:IntKind} {a b:Int} (h:a=b):Ending.returned (.int k a)=.returned (.int k b):=by rw [h]
theorem ret_bool {a b:Bool} (h:a=b):Ending.returned (.bool a)=.returned (.bool b):=by rw [h]
theorem lt_block {w:World} {g:Nat} {o:Obj} (h:w.heap[g]?=some o):g < w.heap.size:=(Array.getElem?_eq_some_iff.1 h).1

theorem add_add (a:Addr) (i j:Nat):(a.add i).add j=a.add (i+j):=by
 unfold Addr.add
 by_cases hi:i=0 <;> by_cases hj:j=0 <;> simp [hi,hj,Nat.add_assoc]

/-- A block known whole, not frozen. -/
def hrow (w:World) (g:Nat) (cs:Array Value) (t:TypeId):Prop:=w.heap[g]?=some (.cells cs t (0,0))
theorem hrow.h {w:World} {g:Nat} {cs:Array Value} {t:TypeId} (h:hrow w g cs t):w.heap[g]?=some (.cells cs t (0,0)):=h
theorem hrow.lt {w:World} {g:Nat} {cs:Array Value} {t:TypeId} (h:hrow w g cs t):g < w.heap.size:=lt_block h
theorem hrow.later {w w':World} {g:Nat} {cs:Array Value} {t:TypeId} (h:hrow w g cs t) {B:Nat} (hb:Below B w w') (hg:g < B):hrow w' g cs t:=(hb.block _ hg).trans h
theorem hrow.below {w w':World} {g:Nat} {cs:Array Value} {t:TypeId} (h:hrow w g cs t) (hb:Below w.heap.size w w'):hrow w' g cs t:=h.later hb h.lt
theorem hrow.cell {w:World} {g:Nat} {cs:Array Value} {t:TypeId} (h:hrow w g cs t) (o:Nat):w.cell? ⟨g,o,none⟩=cs[o]?:=by
 unfold hrow at h;unfold World.cell?;simp [h]
theorem hrow.frozen {w:World} {g:Nat} {cs:Array Value} {t:TypeId} (h:hrow w g cs t) (o:Nat):w.frozen? ⟨g,o,none⟩=false:=by
 unfold hrow at h;unfold World.frozen?;simp [h]
theorem hrow.new (w:World) (cs:Array Value) (t:TypeId):hrow (w.alloc (.cells cs t)) w.heap.size cs t:=heap_alloc_new _ _

theorem hrow.c2 {w:World} {g:Nat} {a0 a1:Value} {t:TypeId} (h:hrow w g #[a0,a1] t):w.cell? ⟨g,0,none⟩=some a0/\w.cell? ⟨g,1,none⟩=some a1:=⟨h.cell 0,h.cell 1⟩
theorem hrow.f2 {w:World} {g:Nat} {cs:Array Value} {t:TypeId} (h:hrow w g cs t):w.frozen? ⟨g,0,none⟩=false/\w.frozen? ⟨g,1,none⟩=false:=⟨h.frozen 0,h.frozen 1⟩
theorem hrow.c3 {w:World} {g:Nat} {a0 a1 a2:Value} {t:TypeId} (h:hrow w g #[a0,a1,a2] t):w.cell? ⟨g,0,none⟩=some a0/\w.cell? ⟨g,1,none⟩=some a1/\w.cell? ⟨g,2,none⟩=some a2:=⟨h.cell 0,h.cell 1,h.cell 2⟩
theorem hrow.f3 {w:World} {g:Nat} {cs:Array Value} {t:TypeId} (h:hrow w g cs t):w.frozen? ⟨g,0,none⟩=false/\w.frozen? ⟨g,1,none⟩=false/\w.frozen? ⟨g,2,none⟩=false:=⟨h.frozen 0,h.frozen 1,h.frozen 2⟩
theorem hrow.c4 {w:World} {g:Nat} {a0 a1 a2 a3:Value} {t:TypeId} (h:hrow w g #[a0,a1,a2,a3] t):w.cell? ⟨g,0,none⟩=some a0/\w.cell? ⟨g,1,none⟩=some a1/\w.cell? ⟨g,2,none⟩=some a2/\w.cell? ⟨g,3,none⟩=some a3:=⟨h.cell 0,h.cell 1,h.cell 2,h.cell 3⟩
theorem hrow.f4 {w:World} {g:Nat} {cs:Array Value} {t:TypeId} (h:hrow w g cs t):w.frozen? ⟨g,0,none⟩=false/\w.frozen? ⟨g,1,none⟩=false/\w.frozen? ⟨g,2,none⟩=false/\w.frozen? ⟨g,3,none⟩=false:=⟨h.frozen 0,h.frozen 1,h.frozen 2,h.frozen 3⟩
theorem hrow.c5 {w:World} {g:Nat} {a0 a1 a2 a3 a4:Value} {t:TypeId} (h:hrow w g #[a0,a1,a2,a3,a4] t):w.cell? ⟨g,0,none⟩=some a0/\w.cell? ⟨g,1,none⟩=some a1/\w.cell? ⟨g,2,none⟩=some a2/\w.cell? ⟨g,3,none⟩=some a3/\w.cell? ⟨g,4,none⟩=some a4:=⟨h.cell 0,h.cell 1,h.cell 2,h.cell 3,h.cell 4⟩
theorem hrow.f5 {w:World} {g:Nat} {cs:Array Value} {t:TypeId} (h:hrow w g cs t):w.frozen? ⟨g,0,none⟩=false/\w.frozen? ⟨g,1,none⟩=false/\w.frozen? ⟨g,2,none⟩=false/\w.frozen? ⟨g,3,none⟩=false/\w.frozen? ⟨g,4,none⟩=false:=⟨h.frozen 0,h.frozen 1,h.frozen 2,h.frozen 3,h.frozen 4⟩
theorem hrow.c7 {w:World} {g:Nat} {a0 a1 a2 a3 a4 a5 a6:Value} {t:TypeId} (h:hrow w g #[a0,a1,a2,a3,a4,a5,a6] t):w.cell? ⟨g,0,none⟩=some a0/\w.cell? ⟨g,1,none⟩=some a1/\w.cell? ⟨g,2,none⟩=some a2/\w.cell? ⟨g,3,none⟩=some a3/\w.cell? ⟨g,4,none⟩=some a4/\w.cell? ⟨g,5,none⟩=some a5/\w.cell? ⟨g,6,none⟩=some a6:=⟨h.cell 0,h.cell 1,h.cell 2,h.cell 3,h.cell 4,h.cell 5,h.cell 6⟩
theorem hrow.f7 {w:World} {g:Nat} {cs:Array Value} {t:TypeId} (h:hrow w g cs t):w.frozen? ⟨g,0,none⟩=false/\w.frozen? ⟨g,1,none⟩=false/\w.frozen? ⟨g,2,none⟩=false/\w.frozen? ⟨g,3,none⟩=false/\w.frozen? ⟨g,4,none⟩=false/\w.frozen? ⟨g,5,none⟩=false/\w.frozen? ⟨g,6,none⟩=false:=⟨h.frozen 0,h.frozen 1,h.frozen 2,h.frozen 3,h.frozen 4,h.frozen 5,h.frozen 6⟩
theorem hrow.c8 {w:World} {g:Nat} {a0 a1 a2 a3 a4 a5 a6 a7:Value} {t:TypeId} (h:hrow w g #[a0,a1,a2,a3,a4,a5,a6,a7] t):w.cell? ⟨g,0,none⟩=some a0/\w.cell? ⟨g,1,none⟩=some a1/\w.cell? ⟨g,2,none⟩=some a2/\w.cell? ⟨g,3,none⟩=some a3/\w.cell? ⟨g,4,none⟩=some a4/\w.cell? ⟨g,5,none⟩=some a5/\w.cell? ⟨g,6,none⟩=some a6/\w.cell? ⟨g,7,none⟩=some a7:=⟨h.cell 0,h.cell 1,h.cell 2,h.cell 3,h.cell 4,h.cell 5,h.cell 6,h.cell 7⟩
theorem hrow.c9 {w:World} {g:Nat} {a0 a1 a2 a3 a4 a5 a6 a7 a8:Value} {t:TypeId} (h:hrow w g #[a0,a1,a2,a3,a4,a5,a6,a7,a8] t):w.cell? ⟨g,0,none⟩=some a0/\w.cell? ⟨g,1,none⟩=some a1/\w.cell? ⟨g,2,none⟩=some a2/\w.cell? ⟨g,3,none⟩=some a3/\w.cell? ⟨g,4,none⟩=some a4/\w.cell? ⟨g,5,none⟩=some a5/\w.cell? ⟨g,6,none⟩=some a6/\w.cell? ⟨g,7,none⟩=some a7/\w.cell? ⟨g,8,none⟩=some a8:=⟨h.cell 0,h.cell 1,h.cell 2,h.cell 3,h.cell 4,h.cell 5,h.cell 6,h.cell 7,h.cell 8⟩
theorem hrow.f9 {w:World} {g:Nat} {cs:Array Value} {t:TypeId} (h:hrow w g cs t):w.frozen? ⟨g,0,none⟩=false/\w.frozen? ⟨g,1,none⟩=false/\w.frozen? ⟨g,2,none⟩=false/\w.frozen? ⟨g,3,none⟩=false/\w.frozen? ⟨g,4,none⟩=false/\w.frozen? ⟨g,5,none⟩=false/\w.frozen? ⟨g,6,none⟩=false/\w.frozen? ⟨g,7,none⟩=false/\w.frozen? ⟨g,8,none⟩=false:=⟨h.frozen 0,h.frozen 1,h.frozen 2,h.frozen 3,h.frozen 4,h.frozen 5,h.frozen 6,h.frozen 7,h.frozen 8⟩

/-- The slice of n elements of so many cells at ao, of capacity cap, reads xs. -/
structure Sv (w:World) (ao:Option Addr) (n cap size:Nat) (xs:List Value):Prop where
 len:xs.length=n * size
 le:n<=cap
 cm:cap<=maxLen
 nn:ao=none->cap=0
 cell:∀ j,j < xs.length->∃ a,ao=some a/\w.cell? (a.add j)=xs[j]?

section
variable {w w':World} {ao:Option Addr} {n cap size:Nat} {xs:List Value}
theorem Sv.below (h:Sv w ao n cap size xs) (hb:Below w.heap.size w w'):Sv w' ao n cap size xs:=
 ⟨h.len,h.le,h.cm,h.nn,fun j hj=>let ⟨a,ha,hc⟩:=h.cell j hj
  ⟨a,ha,(hb.cell (World.block_lt_of_cell? w _ (hc.trans (List.getElem?_eq_getElem hj)))).trans hc⟩⟩
theorem Sv.nil (w:World) (size:Nat):Sv w none 0 0 size []:=⟨by simp,Nat.le_refl _,by simp [maxLen],fun _=>rfl,fun j hj=>absurd hj (by simp)⟩
theorem Sv.bound (h:Sv w ao n cap size xs):n<=cap/\cap<=9223372036854775807:=⟨h.le,by have:=h.cm;unfold maxLen at this;omega⟩
theorem Sv.take (h:Sv w ao n cap size xs) (k:Nat) (hk:k<=n):Sv w ao k cap size (xs.take (k * size)):=by
 have hl:=h.len
 have hks:k * size<=n * size:=Nat.mul_le_mul_right _ hk
 refine ⟨by rw [List.length_take];omega,Nat.le_trans hk h.le,h.cm,h.nn,fun j hj=>?_⟩
 rw [List.length_take] at hj
 obtain ⟨a,ha,hc⟩:=h.cell j (by omega)
 exact ⟨a,ha,by rw [hc,List.getElem?_take,if_pos (by omega)]⟩
/-- An owned row is read as a slice. -/
theorem Sv.of_owns {base e:Nat} {v:Value} (h:w.ownsRow base e size v n xs):∃ ao cap,v=.slice ao n cap/\Sv w ao n cap size xs:=by
 have hl:=h.1
 rcases h.2 with ⟨rfl,h0⟩ | ⟨g,cap,cur,rfl,_,hg,hnc,hcm,hcs,htake⟩
 ·subst h0
  have:xs=[]:=List.eq_nil_of_length_eq_zero (by simpa using hl)
  subst this
  exact ⟨none,0,rfl,Sv.nil w _⟩
 ·refine ⟨_,cap,rfl,hl,hnc,hcm,fun h=>by simp at h,fun j hj=>⟨_,rfl,?_⟩⟩
  rw [List.getElem?_eq_getElem hj]
  exact h.cells (g:=g) rfl j _ (List.getElem?_eq_getElem hj)
/-- A block that has just been laid is read as a slice. -/
theorem Sv.lit (w:World) (e:TypeId) (cs:Array Value) (n size:Nat) (hm:n<=maxLen) (hs:cs.size=n * size):Sv (w.alloc (.cells cs e)) (some ⟨w.heap.size,0,none⟩) n n size cs.toList:=by
 obtain ⟨ao,cap,hv,h⟩:=Sv.of_owns (World.ownsRow_lit (base:=w.heap.size) (e:=e) (size:=size) w cs n (Nat.le_refl _) hm hs)
 simp only [Value.slice.injEq] at hv
 obtain ⟨rfl,_,rfl⟩:=hv
 exact h
end

theorem Sv.of_hrow {w:World} {g:Nat} {cs:Array Value} {t:TypeId} (h:hrow w g cs t) (n size:Nat) (hm:n<=maxLen) (hs:cs.size=n * size):Sv w (some ⟨g,0,none⟩) n n size cs.toList:=by
 refine ⟨by simpa using hs,Nat.le_refl _,hm,(fun h=>nomatch h),fun j hj=>⟨_,rfl,?_⟩⟩
 have e:(⟨g,0,none⟩:Addr).add j=⟨g,j,none⟩:=by unfold Addr.add;split <;> simp_all
 rw [e,h.cell];simp

/-- 'append' to a row of the call's own, from whatever slice: nil, or cells that lie there. -/
theorem wpList_append_row {P:Program} (w:World) {ops:Array Oper} {rest:List Oper} {o:Oper} {a:Act} {Q:Exit->Act->World->Prop} (hgd:o.guard=none) (s x:Operand) (t:TypeId)
  (ho:o.op=.call { callee:=.builtin .append,args:=#[s,x],argTypes:=#[t,t] })
  (base:Nat) (e:TypeId) (i:TypeInfo) (z:Value) (size bytes:Nat) (ht:P.underlying t=some (.slice e)) (hi:P.info? e=some i) (hz:i.zero=some z)
  (hsize:i.size=size) (hby:i.bytes=bytes) (hzs:z.cells.size=size) (hsz:0 < size)
  (v:Value) (n:Nat) (xs:List Value) (hs:a.eval s=v) (hown:w.ownsRow base e size v n xs)
  (ao:Option Addr) (m c:Nat) (news:List Value) (hx:a.eval x=.slice ao m c) (hsv:Sv w ao m c size news) (h1:∀ u ∈ news,u.oneCell'=true)
  (h63:n+m<=maxLen) (hbytes:(n+m) * bytes<=140737488355328) (hbase:base<=w.heap.size)
  (h:∀ v' w',w'.ownsRow base e size v' (n+m) (xs ++ news)->w.grownBy w' v.ownBlock->wpList P ops Q rest (a.put o.dst v') w'):wpList P ops Q (o :: rest) a w:=by
 cases ao with
 | some ad=>
  refine wpList_append_own w hgd s x t ho base e i z size bytes ht hi hz hsize hby hzs hsz v n xs hs hown ad m c news hx hsv.len (fun j u hj=>?_) h1 h63 hbytes hbase (fun v' w' h2 h3 _=>h v' w' h2 h3)
  obtain ⟨ad',h,hc⟩:=hsv.cell j (List.getElem?_eq_some_iff.1 hj).1
  obtain rfl:=Option.some.inj h
  exact hc.trans hj
 | none=>
  have hc:=hsv.nn rfl
  have hm:m=0:=by have:=hsv.le;omega
  subst hm hc
  have hn:news=[]:=List.eq_nil_of_length_eq_zero (by simpa using hsv.len)
  subst hn
  refine wpList_append_own_none hgd s x t ho base e i size ht hi v n xs hs hown hx ?_
  exact h v w (by simpa using hown) (World.grownBy.refl _ _)

theorem run_loadVar_part {P:Program} (w:World) (p:Addr) (ty:TypeId) (cs:Array Value) (d:TypeDesc) (hc:∀ j v,cs.toList[j]?=some v->w.cell? (p.add j)=some v)
  (hu:P.underlying ty=some d) (hd:(match d with | .struct _ | .array _ _=>true | _=>false)=true) (hi:(P.info? ty).map (·.size)=some cs.size):
  (loadVar ty p).run P w=.ok (.agg cs) w:=by
 have hl:(loadCells p cs.toList.length).run P w=.ok cs.toList.toArray w:=run_loadCells_list (P:=P) w p cs.toList hc
 cases hq:P.info? ty with
 | none=>simp [hq] at hi
 | some i=>
  have hs:i.size=cs.size:=by simpa [hq] using hi
  have hagg:(isAgg ty).run P w=.ok true w:=by
   unfold isAgg
   rw [Sem.run_bind,run_underlying hu w]
   cases d <;> simp_all
  simp only [Array.length_toList,Array.toArray_toList] at hl
  simp [loadVar,Sem.run_bind,hagg,sizeOf,typeInfo,hq,hs,hl]

/-- A load of several cells that lie somewhere in a block. -/
theorem wpList_load_part {P:Program} {ops:Array Oper} {rest:List Oper} {o:Oper} {a:Act} {w:World} {Q:Exit->Act->World->Prop} (hgd:o.guard=none) (ty:TypeId) (x:Operand) (ho:o.op=.load ty x)
  (p:Addr) (hx:a.eval x=.pointer (some p)) (cs:Array Value) (d:TypeDesc) (hc:∀ j v,cs.toList[j]?=some v->w.cell? (p.add j)=some v)
  (hu:P.underlying ty=some d) (hd:(match d with | .struct _ | .array _ _=>true | _=>false)=true) (hi:(P.info? ty).map (·.size)=some cs.size)
  (h:wpList P ops Q rest (a.put o.dst (.agg cs)) w):wpList P ops Q (o :: rest) a w:=
 wpList_plain hgd fun K hK=>by
  unfold Oper.wp execOp
  simp only [ho,hx,Instr.loadAt,Instr.sureAddr,Sem.run_bind,Sem.run_pure,Result.andThen_ok,run_loadVar_part w p ty cs d hc hu hd hi]
  exact hK _ _ h

/-- v is a slice of n elements, the cells xs, in a row of the call's own (from w0's end on); all that was in w0 is as it was. -/
def Own (w0 w:World) (e:TypeId) (size:Nat) (v:Value) (n:Nat) (xs:List Value):Prop:=
 w.ownsRow w0.heap.size e size v n xs/\Below w0.heap.size w0 w

section
variable {w0 w w':World} {e:TypeId} {size n:Nat} {v:Value} {xs:List Value}
theorem Own.nil (w:World) (e:TypeId) (size:Nat):Own w w e size (.slice none 0 0) 0 []:=⟨World.ownsRow_nil _ _ _ _,Below.refl _ _⟩
theorem Own.sv (h:Own w0 w e size v n xs):∃ ao cap,v=.slice ao n cap/\Sv w ao n cap size xs:=Sv.of_owns h.1
theorem Own.below (h:Own w0 w e size v n xs) (hb:Below w.heap.size w w'):Own w0 w' e size v n xs:=by
 refine ⟨h.1.kept (row:=none) ⟨hb.os,hb.tape,hb.output,hb.size,fun k hk _=>hb.block k hk⟩ ?_,h.2.trans (hb.mono h.2.size)⟩
 cases v.ownBlock <;> simp
theorem Own.lit (w:World) (e:TypeId) (cs:Array Value) (n size:Nat) (hm:n<=maxLen) (hs:cs.size=n * size):Own w (w.alloc (.cells cs e)) e size (.slice (some ⟨w.heap.size,0,none⟩) n n) n cs.toList:=
 ⟨World.ownsRow_lit (base:=w.heap.size) (e:=e) (size:=size) w cs n (Nat.le_refl _) hm hs,(Below.refl _ _).alloc (Nat.le_refl _) _⟩
/-- A row that was made since w1 is the call's own since w0, w1 having grown out of w0. -/
theorem Own.since {w1:World} (h:Own w1 w e size v n xs) (hb:Below w0.heap.size w0 w1):Own w0 w e size v n xs:=by
 refine ⟨⟨h.1.1,?_⟩,hb.trans (h.2.mono hb.size)⟩
 rcases h.1.2 with h2 | ⟨g,cap,cur,hv,hg,r⟩
 ·exact .inl h2
 ·exact .inr ⟨g,cap,cur,hv,by have:=hb.size;omega,r⟩
end

/-- Type t is a slice of e, e of so many cells and bytes, with a zero. -/
structure Elem (P:Program) (t e:TypeId) (size bytes:Nat) (z:Value):Prop where
 u:P.underlying t=some (.slice e)
 i:(P.info? e).map (fun i=>(i.zero,i.size,i.bytes))=some (some z,size,bytes)
 zs:z.cells.size=size
 pos:0 < size

/-- append(s, l...), s the call's own. -/
theorem wpList_apps {P:Program} (w0 wr:World) {ops:Array Oper} {rest:List Oper} {o:Oper} {a:Act} {Q:Exit->Act->World->Prop} (hgd:o.guard=none) (s x:Operand) (t e:TypeId) {size bytes:Nat} {z:Value}
  (ho:o.op=.call { callee:=.builtin .append,args:=#[s,x],argTypes:=#[t,t] }) (he:Elem P t e size bytes z)
  (v:Value) (n:Nat) (xs:List Value) (hs:a.eval s=v) (hO:Own w0 wr e size v n xs) (ao:Option Addr) (m cap:Nat) (ys:List Value) (hx:a.eval x=.slice ao m cap) (hsl:Sv wr ao m cap size ys) (h1:∀ u ∈ ys,u.oneCell'=true)
  (hlen:(n+m) * bytes<=140737488355328) (hl2:n+m<=maxLen)
  (h:∀ v' w',Own w0 w' e size v' (n+m) (xs ++ ys)->wpList P ops Q rest (a.put o.dst v') w'):wpList P ops Q (o :: rest) a wr:=by
 obtain ⟨ht,hi,hzs,hpos⟩:=he
 obtain ⟨i,hi,hz0,hz1,hz2⟩:=info_parts hi
 refine wpList_append_row _ hgd s x t ho w0.heap.size e i z size bytes ht hi hz0 hz1 hz2 hzs hpos v n _ hs hO.1 ao m cap ys hx hsl h1 hl2 hlen hO.2.size ?_
 intro v' w1 hown hg
 exact h v' w1 ⟨hown,hO.2.grown hg hO.2.size (fun kk hkk=>(hO.1.lt kk hkk).1)⟩

/-- append(s, y), s the call's own; y has just been laid into a block of its own. -/
theorem wpList_app1 {P:Program} (w0 wr:World) {ops:Array Oper} {rest:List Oper} {o:Oper} {a:Act} {Q:Exit->Act->World->Prop} (hgd:o.guard=none) (s x:Operand) (t e:TypeId) {size bytes:Nat} {z:Value}
  (ho:o.op=.call { callee:=.builtin .append,args:=#[s,x],argTypes:=#[t,t] }) (he:Elem P t e size bytes z)
  (v:Value) (n:Nat) (xs:List Value) (hs:a.eval s=v) (hO:Own w0 wr e size v n xs) (ys:Array Value) (hy:ys.size=1 * size) (hx:a.eval x=.slice (some ⟨wr.heap.size,0,none⟩) 1 1) (h1:∀ u ∈ ys.toList,u.oneCell'=true)
  (hlen:(n+1) * bytes<=140737488355328) (hl2:n+1<=maxLen)
  (h:∀ v' w',Own w0 w' e size v' (n+1) (xs ++ ys.toList)->wpList P ops Q rest (a.put o.dst v') w'):wpList P ops Q (o :: rest) a (wr.alloc (.cells ys e)):=
 wpList_apps w0 (wr.alloc (.cells ys e)) hgd s x t e ho he v n xs hs (hO.below ((Below.refl _ _).alloc (Nat.le_refl _) _)) (some ⟨wr.heap.size,0,none⟩) 1 1 ys.toList hx (Sv.lit wr e ys 1 size (by unfold maxLen;omega) hy) h1 hlen hl2 h

end Go.Proofs.YtgjhepblpdnkcaaGreatDoor
namespace Go
open Go.RowKit

/-- A world in which all that was in w is as it was. -/
structure Later (w:World) where
 val:World
 ok:Below w.heap.size w val

instance (w:World):Inhabited (Later w):=⟨⟨w,Below.refl _ _⟩⟩

section
variable {P:Program} {ops:Array Oper} {md:Region.Mode} {C:World->Prop}

def wpAnyLQ (P:Program) (md:Region.Mode) (ops:Array Oper) (C:World->Prop) (n:Nat) (L:Array Bool->Act->Prop):Nat->Array Bool->Act->Prop
 | 0,listed,a=>L listed a
 | f+1,listed,a=>
  Region.ready md ops listed ≠ []/\∀ i ∈ Region.ready md ops listed,i < n/\qOp P ops C i (wpAnyLQ P md ops C n L f (listed.setIfInBounds i true)) a

theorem wpAny_of_headQ {n g:Nat} {L:Array Bool->Act->Prop} {Q':Exit->Act->World->Prop} (hL:∀ listed a w,C w->L listed a->wpAny P md ops Q' g listed a w):
  ∀ (f:Nat) (listed:Array Bool) (a:Act) (w:World),C w->wpAnyLQ P md ops C n L f listed a->wpAny P md ops Q' (f+g) listed a w
 | 0,listed,a,w,hw,h=>by rw [Nat.zero_add];exact hL _ _ _ hw h
 | f+1,listed,a,w,hw,h=>by
  rw [show f+1+g=(f+g)+1 by omega]
  exact ⟨fun h0=>absurd h0 h.1,fun i hi=>wpOp_of_qOp hw (fun a' w' hw' h'=>wpAny_of_headQ hL f _ a' w' hw' h') (h.2 i hi).2⟩

theorem wpAnyLQ_first {n i:Nat} {oi:Oper} {v:Value} {L:Array Bool->Act->Prop} (hi:ops[i]?=some oi) (hsel:∀ (j:Nat) (o:Oper) cs b,ops[j]?=some o->o.op ≠ .select cs b)
  (hs:Region.sinkB md ops n=true) (hc:Region.chainB md ops n=true) (hn:n < ops.size) (hin:i < n)
  (hdone:∀ listed a,L listed a->∀ j ∈ Region.ready md ops listed,n<=j):
  ∀ (f:Nat) (listed:Array Bool) (a:Act),HeadInv md ops n listed->
   (∀ j oj,ops[j]?=some oj->j ≠ i->listed.getD j true=false->(∀ e ∈ oj.after,Region.binds md e=true->e.on ≠ i)->oi.apart ops oj=true)->
   i ∈ Region.ready md ops listed->YieldsIn P ops C oi v a->
   wpAnyLQ P md ops C n L f (listed.setIfInBounds i true) (a.put oi.dst v)->wpAnyLQ P md ops C n L (f+1) listed a:=by
 intro f
 induction f with
 | zero=>
  intro listed a inv _ hr hy H
  have hun:=(mem_ready.1 hr).1
  refine ⟨fun h=>(by rw [h] at hr;cases hr),fun j hj=>?_⟩
  have hjn:j < n:=by
   rcases Nat.lt_or_ge j n with h | h
   ·exact h
   ·exact absurd hj (tail_waits hs hc hn inv _ i rfl hin hun j h)
  refine ⟨hjn,?_⟩
  by_cases hji:j=i
  ·subst hji;exact hy.qOp hi H
  ·have:=hdone _ _ H j (ready_mono hj hji)
   omega
 | succ f ih=>
  intro listed a inv hfree hr hy H
  have hun:=(mem_ready.1 hr).1
  refine ⟨fun h=>(by rw [h] at hr;cases hr),fun j hj=>?_⟩
  have hjn:j < n:=by
   rcases Nat.lt_or_ge j n with h | h
   ·exact h
   ·exact absurd hj (tail_waits hs hc hn inv _ i rfl hin hun j h)
  refine ⟨hjn,?_⟩
  by_cases hji:j=i
  ·subst hji;exact hy.qOp hi H
  ·have h1:=(H.2 j (ready_mono hj hji)).2
   obtain ⟨hjun,oj,hoj,hall⟩:=mem_ready.1 hj
   have hnot:∀ e ∈ oj.after,Region.binds md e=true->e.on ≠ i:=fun e he hb heq=>by
    have h1:=hall e he hb
    rw [heq,getD_both hun] at h1
    cases h1
   have h2:=qOp_put hoj (hfree j oj hoj hji hjun hnot) (fun cs b=>hsel i oi cs b hi) (fun cs b=>hsel j oj cs b hoj) hy h1
   have hfree':∀ k ok,ops[k]?=some ok->k ≠ i->(listed.setIfInBounds j true).getD k true=false->
     (∀ e ∈ ok.after,Region.binds md e=true->e.on ≠ i)->oi.apart ops ok=true:=fun k ok hk hki hun hno=>by
    refine hfree k ok hk hki ?_ hno
    by_cases hjk:j=k
    ·subst hjk;exact hjun
    ·rw [getD_set_ne true hjk] at hun;exact hun
   refine qOp_mono (fun a' h3=>ih (listed.setIfInBounds j true) a' (inv.set hj hjn) hfree' (ready_mono hr (Ne.symm hji)) h3.1 ?_) h2
   rw [Array.setIfInBounds_comm _ _ hji]
   exact h3.2

theorem wpAnyLQ_lex {n g:Nat} {Lq:Act->Prop} (hsel:Region.noSelect ops=true) (hs:Region.sinkB md ops n=true) (hc:Region.chainB md ops n=true) (hn:n < ops.size):
  ∀ (l:List Oper) (k:Nat) (listed:Array Bool) (a:Act),(∀ j,j < l.length->l[j]?=ops[k+j]?)->k+l.length=n->HeadInv md ops n listed->
  Region.lexHead md ops g l.length k listed=true->wpQuiet P ops C Lq l a->
  wpAnyLQ P md ops C n (fun listed' a'=>Region.seqB md ops g n listed'=true/\Lq a') l.length listed a
 | [],k,listed,a,_,hk,_,hB,h=>by
  have:k=n:=by simpa using hk
  subst this
  exact ⟨by simpa [Region.lexHead] using hB,h⟩
 | o :: l,k,listed,a,hl,hk,inv,hB,h=>by
  have h0:ops[k]?=some o:=by simpa using (hl 0 (by simp)).symm
  simp only [List.length_cons,Region.lexHead,Bool.and_eq_true] at hB
  obtain ⟨⟨hr,hf⟩,hB'⟩:=hB
  have hkn:k < n:=by simp only [List.length_cons] at hk;omega
  have hr':k ∈ Region.ready md ops listed:=by simpa using hr
  have hst:qOp P ops C k (wpQuiet P ops C Lq l) a:=by unfold qOp;simp only [h0];exact h
  obtain ⟨v,hy,hK⟩:=yieldsIn_of_qOp h0 hst
  exact wpAnyLQ_first h0 (Region.noSelect_spec hsel) hs hc hn hkn (fun listed' a' hL=>seqB_ready hL.1) l.length listed a inv (Region.free_spec h0 hf) hr' hy
   (wpAnyLQ_lex hsel hs hc hn l (k+1) _ _ (fun j hj=>by have:=hl (j+1) (by simp;omega);simpa [Nat.add_assoc,Nat.add_comm 1 j] using this) (by simp only [List.length_cons] at hk;omega) (inv.set hr' hkn) hB' hK)

/-- ONE WALK, in every later world; then the tail from number n on, in whatever later world. -/
theorem wp_region_tail {id:Nat} {Q:Exit->Act->World->Prop} {a:Act} {w:World} {l:List Oper} (n:Nat) (hm:P.follows .mixedOrders=true) (hB:Region.lexTailB .any l.toArray n=true) (hC:C w.drew)
  (h:wpQuiet P l.toArray C (fun a'=>∀ w',C w'->wpList P l.toArray Q (l.drop n) a' w') (l.take n) a):(Code.region id l.toArray true).wp P Q a w:=by
 simp only [Region.lexTailB,Bool.and_eq_true,decide_eq_true_eq] at hB
 obtain ⟨⟨⟨⟨hsel,hn⟩,hs⟩,hc⟩,hlex⟩:=hB
 have hn':n < l.length:=by simpa using hn
 have htl:(l.take n).length=n:=by simp;omega
 have hdl:(l.drop n).length=l.toArray.size - n:=by simp
 have inv0:HeadInv .any l.toArray n (Array.replicate l.toArray.size false):=
  ⟨by simp,fun j oj _ hl=>(by rw [getD_replicate_false] at hl;cases hl),fun t _ ht=>getD_in (by simpa using ht) (getD_replicate_false _ _)⟩
 have H:=wpAnyLQ_lex (md:=.any) (C:=C) (g:=l.toArray.size - n) hsel hs hc hn (l.take n) 0 _ a (fun j hj=>by
  have hj':j < n:=by rw [htl] at hj;exact hj
  simp [hj']) (by simpa using htl) inv0 (by rw [htl];exact hlex) h
 refine wp_region_any hm ?_
 have:=wpAny_of_headQ (Q':=Q) (C:=C) (g:=l.toArray.size - n) (fun listed a' w' hw' hL=>by
  have:=wpAny_of_seq (md:=.any) (Q':=Q) (l.drop n) n listed a' w' (fun j=>by simp [List.getElem?_drop]) (by rw [hdl];exact hL.1) (hL.2 w' hw')
  rwa [hdl] at this) _ _ _ w.drew hC H
 rw [htl,show n+(l.toArray.size - n)=l.toArray.size by omega] at this
 exact this

/-- The two at the class of later worlds. -/
theorem wp_region_later {id:Nat} {Q:Exit->Act->World->Prop} {a:Act} {w:World} {l:List Oper} (hm:P.follows .mixedOrders=true) (hB:Region.lexB .any l.toArray=true)
  (h:wpQuiet P l.toArray (fun w'=>∃ x:Later w,w'=x.val) (fun a'=>∀ w',(∃ x:Later w,w'=x.val)->Q .normal a' w') l a):(Code.region id l.toArray true).wp P Q a w:=
 wp_region_quiet (C:=fun w'=>∃ x:Later w,w'=x.val) hm hB ⟨⟨w.drew,(Below.refl _ _).drew⟩,rfl⟩ (by simpa using h)

theorem wp_region_later_tail {id:Nat} {Q:Exit->Act->World->Prop} {a:Act} {w:World} {l:List Oper} (n:Nat) (hm:P.follows .mixedOrders=true) (hB:Region.lexTailB .any l.toArray n=true)
  (h:wpQuiet P l.toArray (fun w'=>∃ x:Later w,w'=x.val) (fun a'=>∀ w',(∃ x:Later w,w'=x.val)->wpList P l.toArray Q (l.drop n) a' w') (l.take n) a):(Code.region id l.toArray true).wp P Q a w:=
 wp_region_tail n hm hB ⟨⟨w.drew,(Below.refl _ _).drew⟩,rfl⟩ h

/-- A callee that makes memory at most, met in a later world. -/
theorem Calls.later {f:FuncId} {args:Array Value} {w:World} {x:Later w} {v:Value}
  (h:Calls P f args x.val fun e w'=>e=.returned v/\Below x.val.heap.size x.val w'):Calls P f args x.val fun e w''=>e=.returned v/\∃ y:Later w,w''=y.val:=
 h.mono fun _ _ ⟨he,hb⟩=>⟨he,⟨_,x.ok.trans (hb.mono x.ok.size)⟩,rfl⟩
theorem Calls.later_same {f:FuncId} {args:Array Value} {w:World} {x:Later w} {v:Value}
  (h:Calls P f args x.val fun e w'=>e=.returned v/\x.val=w'):Calls P f args x.val fun e w''=>e=.returned v/\∃ y:Later w,w''=y.val:=
 h.mono fun _ _ ⟨he,hb⟩=>⟨he,x,hb.symm⟩
end
end Go
namespace Go.Proofs.YtgjhepblpdnkcaaGreatDoor
open Go.RowKit

/-- All but the blocks F is as it was. -/
structure Fr (F:Nat->Prop) (w w':World):Prop where
 os:w'.os=w.os
 tape:w'.tape=w.tape
 output:w'.output=w.output
 size:w.heap.size<=w'.heap.size
 block:∀ k,k < w.heap.size->¬ F k->w'.heap[k]?=w.heap[k]?

theorem Fr.refl (F:Nat->Prop) (w:World):Fr F w w:=⟨rfl,rfl,rfl,Nat.le_refl _,fun _ _ _=>rfl⟩
theorem Fr.trans {F G:Nat->Prop} {a b c:World} (h:Fr F a b) (k:Fr G b c) (hG:∀ i,i < a.heap.size->G i->F i):Fr F a c:=
 ⟨k.os.trans h.os,k.tape.trans h.tape,k.output.trans h.output,Nat.le_trans h.size k.size,fun i hi hF=>(k.block i (Nat.lt_of_lt_of_le hi h.size) (fun hg=>hF (hG i hi hg))).trans (h.block i hi hF)⟩
theorem Fr.of_below {F:Nat->Prop} {w w':World} (h:Below w.heap.size w w'):Fr F w w':=⟨h.os,h.tape,h.output,h.size,fun k hk _=>h.block k hk⟩
theorem Fr.below {F:Nat->Prop} {w w':World} {B:Nat} (h:Fr F w w') (hB:B<=w.heap.size) (hF:∀ k,k < B->¬ F k):Below B w w':=
 ⟨h.os,h.tape,h.output,h.size,fun k hk=>h.block k (by omega) (hF k hk)⟩
theorem Fr.setCell (w:World) (a:Addr) (v:Value):Fr (fun k=>k=a.block) w (w.setCell a v):=
 ⟨rfl,rfl,rfl,by simp,fun k _ hk=>heap_setCell_other w a k v hk⟩
theorem Fr.setRow (w:World) (g:Nat) (cs:Array Value):Fr (fun k=>k=g) w (w.setRow g cs):=
 ⟨rfl,rfl,rfl,by simp [World.setRow],fun k _ hk=>setRow_other w g k cs hk⟩
theorem Fr.grown {w w':World} {row:Option Nat} (h:w.grownBy w' row):Fr (fun k=>row=some k) w w':=
 ⟨h.os,h.tape,h.output,h.size,fun k hk hF=>h.block k hk (fun e=>hF e.symm)⟩
theorem Fr.grownBy {F:Nat->Prop} {w w':World} (h:Fr F w w') {row:Option Nat} (hF:∀ k,F k->row=some k):w.grownBy w' row:=
 ⟨h.os,h.tape,h.output,h.size,fun k hk hne=>h.block k hk (fun hf=>hne (hF k hf).symm)⟩

/-- An owned row is as it was where its block is. -/
theorem owns_fr {F:Nat->Prop} {w w':World} {base:Nat} {e:TypeId} {size:Nat} {v:Value} {n:Nat} {xs:List Value} (h:w.ownsRow base e size v n xs) (hf:Fr F w w') (hne:∀ k,v.ownBlock=some k->¬ F k):w'.ownsRow base e size v n xs:=by
 obtain ⟨h1,h2⟩:=h
 refine ⟨h1,?_⟩
 rcases h2 with h2 | ⟨g,cap,cur,hv,hg,hh,r⟩
 ·exact Or.inl h2
 ·subst hv
  exact Or.inr ⟨g,cap,cur,rfl,hg,(hf.block g (lt_block hh) (hne g rfl)).trans hh,r⟩

theorem Fr.weak {F G:Nat->Prop} {w w':World} (h:Fr F w w') (hg:∀ k,F k->G k):Fr G w w':=⟨h.os,h.tape,h.output,h.size,fun k hk hG=>h.block k hk (fun hF=>hG (hg k hF))⟩
theorem hrow.fr {F:Nat->Prop} {w w':World} {g:Nat} {cs:Array Value} {t:TypeId} (h:hrow w g cs t) (hf:Fr F w w') (hn:¬ F g):hrow w' g cs t:=(hf.block g h.lt hn).trans h
theorem Sv.fr {F:Nat->Prop} {w w':World} {ao:Option Addr} {n cap size:Nat} {xs:List Value} (h:Sv w ao n cap size xs) (hf:Fr F w w') (hn:∀ a,ao=some a->0 < n->¬ F a.block):Sv w' ao n cap size xs:=by
 refine ⟨h.len,h.le,h.cm,h.nn,fun j hj=>?_⟩
 obtain ⟨a,ha,hc⟩:=h.cell j hj
 have hlt:=World.block_lt_of_cell? w _ (hc.trans (List.getElem?_eq_getElem hj))
 have hb:(a.add j).block=a.block:=by unfold Addr.add;split <;> rfl
 have h0:0 < n:=by
  have hl:=h.len
  rcases Nat.eq_zero_or_pos n with h0 | h0
  ·subst h0;rw [Nat.zero_mul] at hl;omega
  ·exact h0
 exact ⟨a,ha,(World.cell?_of_block (hf.block _ hlt (by rw [hb];exact hn a ha h0))).trans hc⟩
end Go.Proofs.YtgjhepblpdnkcaaGreatDoor
namespace Go.Proofs.YtgjhepblpdnkcaaGreatDoor
open Go.RowKit Go.ChangeMaps

theorem getM {P:Program} {w:World} {r:Nat} {es:Array MapEntry} {clock:Nat} (hb:w.heap[r]?=some (.map es clock)):(getObj r).run P w=.ok (.map es clock) w:=by
 simp [getObj,Sem.run,hb]
theorem setM {P:Program} {w:World} {r:Nat} {es:Array MapEntry} {clock:Nat} (o:Obj) (hb:w.heap[r]?=some (.map es clock)):(setObj r o).run P w=.ok () (setBlock w r o):=by
 simp [setObj,Sem.run,hb,setBlock]
/-- The first entry of a key. -/
noncomputable def findV (k:Value):List MapEntry->Nat->Option (Nat×Value)
 | [],_=>none
 | e :: es,i=>@ite _ (e.key=k) (Classical.propDecidable _) (some (i,e.val)) (findV k es (i+1))
theorem findV_yes {k:Value}:∀ (es:List MapEntry) (i j:Nat) {e:MapEntry},es[j]?=some e->e.key=k->(∀ m,m < j->∀ x,es[m]?=some x->x.key ≠ k)->findV k es i=some (i+j,e.val)
 | [],_,_,_,h,_,_=>by cases h
 | x :: es,i,0,e,h,hk,_=>by
  simp only [List.getElem?_cons_zero,Option.some.injEq] at h
  subst h
  simp [findV,hk]
 | x :: es,i,j+1,e,h,hk,hn=>by
  have h0:=hn 0 (by omega) x rfl
  simp only [findV,if_neg h0]
  rw [findV_yes es (i+1) j (by simpa using h) hk (fun m hm y hy=>hn (m+1) (by omega) y (by simpa using hy))]
  congr 2;omega
theorem findV_no {k:Value}:∀ (es:List MapEntry) (i:Nat),(∀ x ∈ es,x.key ≠ k)->findV k es i=none
 | [],_,_=>rfl
 | x :: es,i,h=>by
  simp only [findV,if_neg (h x (by simp))]
  exact findV_no es (i+1) fun y hy=>h y (by simp [hy])

/-- A type of keys, those keys that are used, and what asking for one does. -/
structure KeyT (P:Program) (kt:TypeId) (K:Value->Prop):Prop where
 check:∀ (e:Bool) (w:World) (k:Value),K k->(Instr.checkKey e 10000 kt k).run P w=.ok () w
 find:∀ (w:World) (k:Value) (es:List MapEntry),K k->(∀ x ∈ es,K x.key)->(Instr.findKey kt k es).run P w=.ok (findV k es 0) w
 stay:∀ (w:World) (k:Value),K k->(Instr.keyThatStays k k).run P w=.ok k w

section
variable {P:Program} {kt:TypeId} {K:Value->Prop} {t e:TypeId} {w:World} {g clock:Nat} {es:Array MapEntry} {k v:Value}
theorem run_map_new (hK:KeyT P kt K) (ht:P.underlying t=some (.map kt e)) (hb:w.heap[g]?=some (.map es clock)) (hes:∀ x ∈ es.toList,K x.key) (hk:K k) (hn:∀ x ∈ es.toList,x.key ≠ k):
  (Instr.mapUpdate t (.map (some g)) k v).run P w=.ok () (setBlock w g (.map (es.push ⟨k,v,clock⟩) (clock+1))):=by
 unfold Instr.mapUpdate
 simp only [Sem.run_bind,run_underlying ht,Result.andThen_ok,getM hb,hK.check _ _ _ hk,hK.find _ _ _ hk hes,findV_no _ _ hn]
 exact setM _ hb
theorem run_map_old (hK:KeyT P kt K) (ht:P.underlying t=some (.map kt e)) (hb:w.heap[g]?=some (.map es clock)) (hes:∀ x ∈ es.toList,K x.key) (hk:K k) {i:Nat} {x:MapEntry} (hi:es[i]?=some x) (hx:x.key=k)
  (hn:∀ m,m < i->∀ y,es[m]?=some y->y.key ≠ k):
  (Instr.mapUpdate t (.map (some g)) k v).run P w=.ok () (setBlock w g (.map (es.modify i fun e=>{ e with key:=k,val:=v }) clock)):=by
 unfold Instr.mapUpdate
 simp only [Sem.run_bind,run_underlying ht,Result.andThen_ok,getM hb,hK.check _ _ _ hk,hK.find _ _ _ hk hes]
 rw [findV_yes es.toList 0 i (e:=x) (by simpa using hi) hx (fun m hm y hy=>hn m hm y (by simpa using hy))]
 simp only [Nat.zero_add,hi,Option.map_some,Option.getD_some,hx,Sem.run_bind,hK.stay _ _ hk,Result.andThen_ok]
 exact setM _ hb
theorem run_look_no (hK:KeyT P kt K) (ht:P.underlying t=some (.map kt e)) (hb:w.heap[g]?=some (.map es clock)) (hes:∀ x ∈ es.toList,K x.key) (hk:K k) (hn:∀ x ∈ es.toList,x.key ≠ k) {z:Value} (hz:(zeroValue e).run P w=.ok z w) (c:Bool):
  (Instr.lookup t (.map (some g)) k c).run P w=.ok (if c then .tuple #[z,.bool false] else z) w:=by
 unfold Instr.lookup
 simp only [Sem.run_bind,run_underlying ht,Result.andThen_ok,getM hb,Sem.run_pure,hK.check _ _ _ hk,hK.find _ _ _ hk hes,findV_no _ _ hn,hz]
theorem run_look_yes (hK:KeyT P kt K) (ht:P.underlying t=some (.map kt e)) (hb:w.heap[g]?=some (.map es clock)) (hes:∀ x ∈ es.toList,K x.key) (hk:K k) {i:Nat} {x:MapEntry} (hi:es[i]?=some x) (hx:x.key=k)
  (hn:∀ m,m < i->∀ y,es[m]?=some y->y.key ≠ k) (c:Bool):
  (Instr.lookup t (.map (some g)) k c).run P w=.ok (if c then .tuple #[x.val,.bool true] else x.val) w:=by
 unfold Instr.lookup
 simp only [Sem.run_bind,run_underlying ht,Result.andThen_ok,getM hb,Sem.run_pure,hK.check _ _ _ hk,hK.find _ _ _ hk hes]
 rw [findV_yes es.toList 0 i (e:=x) (by simpa using hi) hx (fun m hm y hy=>hn m hm y (by simpa using hy))]
 simp
end

/-- Keys that are ints. -/
theorem findNow_int {q:IntKind}:∀ (es:List MapEntry) (a:Int) (i:Nat),(∀ x ∈ es,∃ b,x.key=.int q b)->Instr.findNow (.int q) (.int q a) es i=some (findV (.int q a) es i)
 | [],_,_,_=>rfl
 | x :: es,a,i,h=>by
  obtain ⟨b,hb⟩:=h x (by simp)
  by_cases hab:a=b
  ·subst hab
   unfold findV
   rw [if_pos hb]
   simp [Instr.findNow,hb,Instr.sameNow]
  ·have h1:(a == b)=false:=by simpa using hab
   have h2:¬ (x.key=Value.int q a):=by rw [hb];intro e;cases e;exact hab rfl
   unfold findV
   rw [if_neg h2]
   simp only [Instr.findNow,hb,Instr.sameNow,if_true,h1]
   exact findNow_int es a (i+1) fun y hy=>h y (by simp [hy])
theorem keyInt {P:Program} {kt:TypeId} {q:IntKind} (hu:P.underlying kt=some (.int q)):KeyT P kt (fun v=>∃ a,v=.int q a):=by
 refine ⟨fun e w k hk=>?_,fun w k es hk hes=>?_,fun w k hk=>?_⟩
 ·obtain ⟨a,rfl⟩:=hk
  rw [show (10000:Nat)=9999+1 from rfl]
  unfold Instr.checkKey
  simp only [Sem.run_bind,run_underlying hu,Result.andThen_ok]
  rfl
 ·obtain ⟨a,rfl⟩:=hk
  exact MapKept.run_findKey hu (findNow_int es a 0 hes)
 ·obtain ⟨a,rfl⟩:=hk
  unfold Instr.keyThatStays
  have:Instr.sameBits 10000 (.int q a) (.int q a)=true:=by
   rw [show (10000:Nat)=9999+1 from rfl]
   simp [Instr.sameBits]
  rw [if_pos this]
  rfl

/-! Keys that are pairs of ints. -/
section
variable {P:Program} {kt e:TypeId} {q:IntKind}
end
end Go.Proofs.YtgjhepblpdnkcaaGreatDoor
namespace Go.Proofs.YtgjhepblpdnkcaaGreatDoor
open Go.RowKit Go.ChangeMaps
set_option maxRecDepth 100000
set_option maxHeartbeats 2000000

theorem setBlock_new (w:World) (o o':Obj):setBlock (w.alloc o) w.heap.size o'=w.alloc o':=by
 unfold setBlock
 show ({ w with heap:=(w.heap.push o).setIfInBounds w.heap.size o' }:World)={ w with heap:=w.heap.push o' }
 congr 1
 apply Array.ext
 ·simp
 ·intro i h1 h2
  rw [Array.getElem_setIfInBounds (by simpa using h1)]
  by_cases h:w.heap.size=i
  ·subst h;simp
  ·rw [if_neg h,Array.getElem_push,Array.getElem_push]
   have:i < w.heap.size:=by simp at h2;omega
   rw [dif_pos this,dif_pos this]

/-- The letters, as the map has them. -/
def shE:Array MapEntry:=#[⟨.int .u8 10,.int .u8 110,0⟩,⟨.int .u8 13,.int .u8 114,1⟩,⟨.int .u8 9,.int .u8 116,2⟩]
theorem byte_und:Tryz.prog.underlying 5=some (.int .u8):=by kernel_rfl
theorem short_und:Tryz.prog.underlying 306=some (.map 5 5):=by kernel_rfl
theorem mapUp (w:World) (es:Array MapEntry) (clock:Nat) (n:Int) (v:Value) (h1:∀ x ∈ es.toList,∃ a,x.key=.int .u8 a) (h2:∀ x ∈ es.toList,x.key ≠ .int .u8 n):
  (Instr.mapUpdate 306 (.map (some w.heap.size)) (.int .u8 n) v).run Tryz.prog (w.alloc (.map es clock))=.ok () (w.alloc (.map (es.push ⟨.int .u8 n,v,clock⟩) (clock+1))):=by
 rw [run_map_new (keyInt byte_und) short_und (heap_alloc_new _ _) h1 ⟨n,rfl⟩ h2,setBlock_new]
theorem short_any (w:World):Calls Tryz.prog 221 #[] w fun e w'=>e=.returned (.map (some w.heap.size))/\w'=w.alloc (.map shE 3):=by
 have hmm:=@run_makeMap Tryz.prog
 have hmu:=mapUp
 go_enter Tryz.func221,Tryz.ntmps221
 go_wp2_with fail
 go_ret
 exact ⟨rfl,rfl⟩
end Go.Proofs.YtgjhepblpdnkcaaGreatDoor
namespace Go.Proofs.YtgjhepblpdnkcaaGreatDoor
open Go.RowKit
set_option maxRecDepth 100000
set_option maxHeartbeats 4000000

/-- What is read at a place of a text. -/
def rdA (p:Int) (l:List UInt8) (a:Int):Option (UInt8×Nat):=if 0<=a/\a < l.length then rd p (l.drop a.toNat) else none
/-- .. as it is handed back. -/
def rdV (a:Int):Option (UInt8×Nat)->Value
 | some (b,n)=>.tuple #[.int .u8 b.toNat,.int .i64 (a+n),.bool true]
 | none=>.tuple #[.int .u8 0,.int .i64 0,.bool false]
theorem drop_at {s:ByteArray} {k:Nat} (hk:k < s.size):s.data.toList.drop k=s[k] :: s.data.toList.drop (k+1):=by
 rw [List.drop_eq_getElem_cons (by simpa using hk)];rfl
theorem rdA_in {p:Int} {s:ByteArray} {k:Nat} (hk:k < s.size):rdA p s.data.toList (k:Int)=rd p (s[k] :: s.data.toList.drop (k+1)):=by
 unfold rdA
 have h2:s.data.toList.length=s.size:=by simp
 rw [if_pos ⟨by omega,by omega⟩,Int.toNat_natCast,drop_at hk]
theorem rdA_out {p:Int} {s:ByteArray} {a:Int} (h:a < 0∨(s.size:Int)<=a):rdA p s.data.toList a=none:=by
 unfold rdA
 have h2:s.data.toList.length=s.size:=by simp
 rw [if_neg (by omega)]
theorem rdA_no {p:Int} (hp:isPl p=false) (l:List UInt8) (a:Int):rdA p l a=none:=by
 unfold rdA
 split
 ·unfold rd
  split
  ·rfl
  ·rw [hp];rfl
 ·rfl
theorem rd_bare {p:Int} (hp:isPl p=true) {c:UInt8} (hs:spec p c=false) (t:List UInt8):rd p (c :: t)=some (c,1):=by unfold rd;simp [hp,hs]
theorem rd_spec {p:Int} (hp:isPl p=true) {c:UInt8} (hs:spec p c=true) (hc:c ≠ 92) (t:List UInt8):rd p (c :: t)=none:=by unfold rd;simp [hp,hs,hc]
theorem rd_back {p:Int} (hp:isPl p=true) (t:List UInt8):rd p (92 :: t)=esc t:=by
 have:spec p 92=true:=by unfold spec;simp
 unfold rd;simp [hp,this]
theorem hexv_lt {c x:UInt8} (h:hexv c=some x):x < 16:=by
 have:=u8_all (P:=fun c=>(hexv c).all (fun x=>decide (x < 16))=true) (by decide +kernel) c
 rw [h] at this;simpa using this
theorem hex_sum {x y:UInt8} (hx:x < 16) (hy:y < 16):(16 * (x.toNat:Int)+y.toNat)=((16 * x+y:UInt8).toNat:Int):=by
 have h1:=UInt8.lt_iff_toNat_lt.1 hx
 have h2:=UInt8.lt_iff_toNat_lt.1 hy
 simp [UInt8.toNat_add,UInt8.toNat_mul] at *
 omega
theorem belowN {B:Nat} {a w:World} (h:Below B a w) (n:Nat):Below B a (w.drewN n):=⟨h.os,h.tape,h.output,h.size,h.block⟩
theorem ba_len (s:ByteArray):s.data.toList.length=s.size:=by simp
end Go.Proofs.YtgjhepblpdnkcaaGreatDoor
namespace Go.Proofs.YtgjhepblpdnkcaaGreatDoor
open Go.RowKit
set_option maxRecDepth 100000
set_option maxHeartbeats 4000000

theorem byte_no (s:ByteArray) (a f:Int) (w:World) (hs:s.size<=1000000) (hf0:0<=f) (hf:f<=3) (h:a < 0∨(s.size:Int) - f<=a):Calls Tryz.prog 219 #[.agg #[.string s,.int .i64 a],.int .i64 f] w fun e w'=>e=.returned (.tuple #[.int .u8 0,.bool false])/\Below w.heap.size w w':=by
 by_cases ha:a < 0
 ·clear h
  go_enter Tryz.func219,Tryz.ntmps219
  go_wp2_with fail
  go_ret2
  exact ⟨rfl,(Below.refl _ _).alloc (Nat.le_refl _) _⟩
 ·have h2:(s.size:Int) - f<=a:=by omega
  clear h
  go_enter Tryz.func219,Tryz.ntmps219
  go_wp2_with fail
  go_ret2
  exact ⟨rfl,(Below.refl _ _).alloc (Nat.le_refl _) _⟩
theorem byte_yes' (s:ByteArray) (k f:Nat) (w:World) (hs:s.size<=1000000) (hf:f<=3) (hk:k+f < s.size):Calls Tryz.prog 219 #[.agg #[.string s,.int .i64 k],.int .i64 f] w fun e w'=>e=.returned (.tuple #[.int .u8 s[k+f].toNat,.bool true])/\Below w.heap.size w w':=by
 have h1:(k:Int) < (s.size:Int) - f:=by omega
 have h0:(0:Int)<=k:=by omega
 have h3:(k:Int)+f < s.size:=by omega
 go_enter Tryz.func219,Tryz.ntmps219
 go_wp2_with fail
 go_ret2
 exact ⟨rfl,(Below.refl _ _).alloc (Nat.le_refl _) _⟩
theorem byte_yes (s:ByteArray) (k f:Nat) (g:Int) (w:World) (hs:s.size<=1000000) (hf:f<=3) (hk:k+f < s.size) (hg:g=f):Calls Tryz.prog 219 #[.agg #[.string s,.int .i64 k],.int .i64 g] w fun e w'=>e=.returned (.tuple #[.int .u8 s[k+f].toNat,.bool true])/\Below w.heap.size w w':=by
 subst hg;exact byte_yes' s k f w hs hf hk
end Go.Proofs.YtgjhepblpdnkcaaGreatDoor
namespace Go.Proofs.YtgjhepblpdnkcaaGreatDoor
open Go.RowKit
set_option maxRecDepth 100000
set_option maxHeartbeats 4000000

/-- What a reader tells: the byte and how long it is. -/
def rdT:Option (UInt8×Nat)->Value
 | some (b,n)=>.tuple #[.int .u8 b.toNat,.int .i64 n]
 | none=>.tuple #[.int .u8 0,.int .i64 0]
def bareA (p:Int) (l:List UInt8) (a:Int):Option (UInt8×Nat):=if 0<=a/\a < l.length then (match l.drop a.toNat with | c :: _=>if isPl p && !spec p c then some (c,1) else none | []=>none) else none
theorem bareA_out {p:Int} {s:ByteArray} {a:Int} (h:a < 0∨(s.size:Int)<=a):bareA p s.data.toList a=none:=by
 unfold bareA
 rw [if_neg (by rw [ba_len];omega)]
theorem bareA_in {p:Int} {s:ByteArray} {k:Nat} (hk:k < s.size):bareA p s.data.toList k=if isPl p && !spec p s[k] then some (s[k],1) else none:=by
 unfold bareA
 rw [if_pos ⟨by omega,by rw [ba_len];omega⟩,Int.toNat_natCast,drop_at hk]
theorem rbare_any (s:ByteArray) (a p:Int) (w:World) (hs:s.size<=1000000):Calls Tryz.prog 212 #[.agg #[.string s,.int .i64 a,.int .i64 p]] w fun e w'=>e=.returned (rdT (bareA p s.data.toList a))/\Below w.heap.size w w':=by
 have HA:=Lib.hid (show Below w.heap.size w (w.alloc (.cells #[.string s,.int .i64 a,.int .i64 p] 295)) from (Below.refl _ _).alloc (Nat.le_refl _) _)
 have HZ:=Lib.hid (show w.heap.size<=(w.alloc (.cells #[.string s,.int .i64 a,.int .i64 p] 295)).heap.size by simp)
 have HR:=Lib.hid (hrow.new w #[.string s,.int .i64 a,.int .i64 p] 295)
 by_cases h:a < 0∨(s.size:Int)<=a
 ·rw [bareA_out h]
  have HB:=Lib.hid (byte_no s a 0 (w.alloc (.cells #[.string s,.int .i64 a,.int .i64 p] 295)) hs (by omega) (by omega) (by omega))
  clear h
  go_enter Tryz.func212,Tryz.ntmps212
  go_wp2_with fail
  refine HB.out.mono ?_
  rintro e x ⟨rfl,hb⟩
  have H1:=Lib.hid (HA.out.trans (hb.mono HZ.out));clear hb
  go_wp2_with fail
  go_ret2
  exact ⟨rfl,H1.out⟩
 ·obtain ⟨k,rfl⟩:∃ k:Nat,a=k:=⟨a.toNat,by omega⟩
  have hk:k < s.size:=by omega
  rw [bareA_in hk]
  have HB:=Lib.hid (byte_yes s k 0 0 (w.alloc (.cells #[.string s,.int .i64 k,.int .i64 p] 295)) hs (by omega) hk rfl)
  have e0:s[k+0]'hk=s[k]'hk:=rfl
  rw [e0] at HB
  generalize s[k]'hk=c at HB ⊢
  clear h e0 hk
  have HC:=Lib.hid (fun x=>bare_any p c x)
  generalize (isPl p && !spec p c)=q at HC ⊢
  go_enter Tryz.func212,Tryz.ntmps212
  go_wp2_with fail
  refine HB.out.mono ?_
  rintro e x ⟨rfl,hb⟩
  have H1:=Lib.hid (HA.out.trans (hb.mono HZ.out))
  have c1:=(HR.out.below hb).c3
  clear hb
  go_wp2_with fail
  refine (HC.out _).mono ?_
  rintro e x2 ⟨rfl,rfl⟩
  cases q with
  | true=>
   go_wp2_with fail
   go_ret2
   exact ⟨rfl,H1.out⟩
  | false=>
   go_wp2_with fail
   go_ret2
   exact ⟨rfl,H1.out⟩
end Go.Proofs.YtgjhepblpdnkcaaGreatDoor
namespace Go.Proofs.YtgjhepblpdnkcaaGreatDoor
open Go.RowKit Go.ChangeMaps
set_option maxRecDepth 100000
set_option maxHeartbeats 4000000

def lett (d:UInt8):Option (UInt8×Nat):=if d == 110 then some (10,2) else if d == 114 then some (13,2) else if d == 116 then some (9,2) else if d == 92 || d == 34 || d == 93 || d == 45 then some (d,2) else none
def lettA (l:List UInt8) (a:Int):Option (UInt8×Nat):=if 0<=a/\a < l.length then (match l.drop a.toNat with | c :: d :: _=>if c == 92 then lett d else none | _=>none) else none
theorem lettA_out {s:ByteArray} {a:Int} (h:a < 0∨(s.size:Int)<=a):lettA s.data.toList a=none:=by
 unfold lettA
 rw [if_neg (by rw [ba_len];omega)]
theorem lettA_last {s:ByteArray} {k:Nat} (hk:k+1=s.size):lettA s.data.toList k=none:=by
 unfold lettA
 rw [if_pos ⟨by omega,by rw [ba_len];omega⟩,Int.toNat_natCast,drop_at (by omega),List.drop_eq_nil_of_le (by rw [ba_len];omega)]
theorem lettA_in {s:ByteArray} {k:Nat} (hk:k+1 < s.size):lettA s.data.toList k=if s[k] == 92 then lett s[k+1] else none:=by
 unfold lettA
 rw [if_pos ⟨by omega,by rw [ba_len];omega⟩,Int.toNat_natCast,drop_at (by omega),drop_at hk]
/-- A world that is another but for what was drawn. -/
def Sim (v w:World):Prop:=v.heap=w.heap/\v.os=w.os/\v.tape=w.tape/\v.output=w.output
theorem Sim.below {v w:World} (h:Sim v w) {B:Nat} {a:World} (hb:Below B a w):Below B a v:=⟨h.2.1.trans hb.os,h.2.2.1.trans hb.tape,h.2.2.2.trans hb.output,by rw [h.1];exact hb.size,fun k hk=>by rw [h.1];exact hb.block k hk⟩
/-- The next entry of a map that is gone through. -/
theorem next_it {P:Program} (v:World) (bm since:Nat) (seen:Array Nat) (es:Array MapEntry) (hb:v.heap[bm]?=some (.map es since)) (hold:∀ x ∈ es.toList,x.born < since):
  ((leftOf es seen).size=0/\∀ ty,(Instr.next (.pointer (some ⟨v.heap.size,0,none⟩)) false ty).run P (v.alloc (.mapIter (some bm) since seen since))=.ok (.tuple #[.bool false]) (v.alloc (.mapIter (some bm) since seen since)))∨
  ∃ e ∈ (leftOf es seen).toList,∃ v':World,Sim v' v/\(∀ ty,(Instr.next (.pointer (some ⟨v.heap.size,0,none⟩)) false ty).run P (v.alloc (.mapIter (some bm) since seen since))=.ok (.tuple #[.bool true,e.key,e.val]) (v'.alloc (.mapIter (some bm) since (seen.push e.born) since))):=by
 have hlt:=lt_block hb
 have h1:(v.alloc (.mapIter (some bm) since seen since)).heap[v.heap.size]?=some (.mapIter (some bm) since seen since):=heap_alloc_new _ _
 have h2:(v.alloc (.mapIter (some bm) since seen since)).heap[bm]?=some (.map es since):=by rw [heap_alloc_old v _ hlt];exact hb
 by_cases h0:(leftOf es seen).size=0
 ·refine .inl ⟨h0,fun ty=>?_⟩
  rcases run_next_at (P:=P) (v.alloc (.mapIter (some bm) since seen since)) ty v.heap.size bm since since seen es since h1 h2 hold (Nat.le_refl _) with ⟨_,h⟩ | ⟨e,he,_⟩
  ·exact h
  ·have:(leftOf es seen).toList=[]:=List.eq_nil_of_length_eq_zero (by simpa using h0)
   rw [this] at he;cases he
 ·have hty:∀ ty ty',(Instr.next (.pointer (some ⟨v.heap.size,0,none⟩)) false ty).run P (v.alloc (.mapIter (some bm) since seen since))=(Instr.next (.pointer (some ⟨v.heap.size,0,none⟩)) false ty').run P (v.alloc (.mapIter (some bm) since seen since)):=by
   intro ty ty'
   simp only [Instr.next,getObj,Sem.run_bind,Sem.run,h1,h2,Result.andThen]
  rcases run_next_at (P:=P) (v.alloc (.mapIter (some bm) since seen since)) 0 v.heap.size bm since since seen es since h1 h2 hold (Nat.le_refl _) with ⟨h,_⟩ | ⟨e,he,w1,hw,hrun⟩
  ·exact absurd h h0
  ·rcases hw with rfl | rfl
   ·exact .inr ⟨e,he,v,⟨rfl,rfl,rfl,rfl⟩,fun ty=>by rw [hty ty 0,hrun,setBlock_new]⟩
   ·refine .inr ⟨e,he,v.drew,⟨rfl,rfl,rfl,rfl⟩,fun ty=>?_⟩
    rw [hty ty 0,hrun]
    exact congrArg _ (setBlock_new v.drew _ _)
end Go.Proofs.YtgjhepblpdnkcaaGreatDoor
