/- Walks and plain laws: Yf FKa YI1 FAu. -/
import Derived.Test.YtgjhepblpdnkcaaGreatDoorC03
import Derived.OwnWalk
import Derived.Deep.RegionHeld3
import Derived.Deep.DeepCutAuto
namespace Go.Proofs.YtgjhepblpdnkcaaGreatDoor
open Go.RowKit

/-- What is of neither of two types stays. -/
def KpT (e eL:Nat) (w w':World):Prop:=∀ (b:Nat) (cs:Array Value) (t:TypeId) (fr:Nat×Nat),t ≠ e->t ≠ eL->w.heap[b]?=some (.cells cs t fr)->w'.heap[b]?=some (.cells cs t fr)
theorem KpT.refl (e eL:Nat) (w:World):KpT e eL w w:=fun _ _ _ _ _ _ h=>h
theorem KpT.trans {e eL:Nat} {a b c:World} (h:KpT e eL a b) (k:KpT e eL b c):KpT e eL a c:=fun q cs t fr h1 h2 hc=>k q cs t fr h1 h2 (h q cs t fr h1 h2 hc)
theorem KpT.below {e eL:Nat} {w w':World} (hb:Below w.heap.size w w'):KpT e eL w w':=fun b _ _ _ _ _ hc=>(hb.block b (Array.getElem?_eq_some_iff.1 hc).1).trans hc
theorem KpT.of_owns {e eL:Nat} {w w':World} {B e' s n g:Nat} {v:Value} {xs:List Value} (ho:w.ownsRow B e' s v n xs) (hv:v.ownBlock=some g) (hf:Fr (fun k=>k=g) w w') (he:e'=e∨e'=eL):KpT e eL w w':=fun b cs t fr h1 h2 hc=>by
 refine (hf.block b (Array.getElem?_eq_some_iff.1 hc).1 (fun hb=>?_)).trans hc
 subst hb
 rcases ho.2 with ⟨rfl,_⟩ | ⟨g1,c1,cur1,rfl,_,h3,_⟩
 ·cases hv
 ·simp only [Value.ownBlock,Option.some.injEq] at hv
  subst hv
  rw [h3] at hc
  cases hc
  rcases he with he | he
  ·exact h1 he
  ·exact h2 he
section
variable {α:Type} (f:α->List Value) (e eL s:Nat)
/-- The row of the lists, and the lists. -/
structure Fl (w0 w:World) (B:Nat) (K:Nat) (lg lc:Nat) (R:Nat->Value) (n:Nat->Nat) (Y:Nat->List α) (m:Nat) (G:Nat->Value) (Z:Nat->List α):Prop where
 two:Two f B e s w K R Y m G Z
 ls:w.ownsRow B eL 1 (.slice (some ⟨lg,0,none⟩) K lc) K ((List.range K).map R)
 len:∀ k,k < K->(Y k).length=n k
 fr:Fr (fun b=>∃ i,i < K/\(R i).ownBlock=some b) w0 w
 gb:∀ i g,i < m->(G i).ownBlock=some g->g < w0.heap.size->(R i).ownBlock=some g
/-- The row of the lists that have grown, beside the lists. -/
structure Fg (w0 w:World) (B K lg lc gg:Nat) (R:Nat->Value) (n:Nat->Nat) (Y:Nat->List α) (m:Nat) (G:Nat->Value) (Z:Nat->List α) (q:Nat) (L:List Value):Prop where
 fl:Fl f e eL s w0 w B K lg lc R n Y m G Z
 gs:w.ownsRow B eL 1 (.slice (some ⟨gg,0,none⟩) K K) K L
 tab:∀ i,i < q->L[i]?=some (G i)
 ne:gg ≠ lg
 mle:m<=K
 gn:w0.heap.size<=gg
variable {f e eL s} {w0 w w':World} {B K lg lc gg m q:Nat} {R G:Nat->Value} {n:Nat->Nat} {Y Z:Nat->List α} {L:List Value}
theorem Fl.below (h:Fl f e eL s w0 w B K lg lc R n Y m G Z) (hm:m<=K) (hb:Below w.heap.size w w'):Fl f e eL s w0 w' B K lg lc R n Y m G Z:=
 ⟨h.two.below hm hb,owns_fr h.ls (Fr.of_below (F:=fun _=>False) hb) (fun _ _ h=>h),h.len,h.fr.trans (Fr.of_below (F:=fun _=>False) hb) (fun _ _ h=>h.elim),h.gb⟩
theorem Fl.size (h:Fl f e eL s w0 w B K lg lc R n Y m G Z):B<=w.heap.size:=by
 have:=h.ls.lt lg rfl;omega
theorem Fl.congr {G':Nat->Value} (h:Fl f e eL s w0 w B K lg lc R n Y 0 G' Z) {Y':Nat->List α} (hy:∀ k,k < K->Y k=Y' k) (G:Nat->Value) (Z':Nat->List α):Fl f e eL s w0 w B K lg lc R n Y' 0 G Z':=
 ⟨Two.start (fun i hi=>by rw [← hy i hi];exact h.two.own1 i hi) (fun i j g hi hj h1 h2=>h.two.ap i j g hi hj (.inl h1) (.inl h2)) G Z',h.ls,fun k hk=>by rw [← hy k hk];exact h.len k hk,h.fr,fun i g hi=>absurd hi (by omega)⟩
/-- The k-th list, where it stands. -/
theorem Fl.row (h:Fl f e eL s w0 w B K lg lc R n Y m G Z) {k:Nat} (hk:k < K):
  ∃ ao cap,R k=.slice ao (n k) cap/\w.cell? ⟨lg,k,none⟩=some (.slice ao (n k) cap)/\n k<=cap/\cap<=9223372036854775807:=by
 obtain ⟨ao,cap,hv,hs⟩:=Sv.of_owns (h.two.own1 k hk)
 have hb:=hs.bound
 rw [h.len k hk] at hv hb
 refine ⟨ao,cap,hv,?_,hb⟩
 rw [h.ls.cellAt k (by omega)]
 simp [hk,hv]
/-- An element of the k-th list, where it stands. -/
theorem Fl.elem (hfl:∀ x,(f x).length=s) (h:Fl f e eL s w0 w B K lg lc R n Y m G Z) {k i:Nat} (hk:k < K) (hi:i < n k):
  ∃ g cap x,R k=.slice (some ⟨g,0,none⟩) (n k) cap/\(Y k)[i]?=some x/\(∀ j,j < s->w.cell? ⟨g,i * s+j,none⟩=(f x)[j]?/\w.frozen? ⟨g,i * s+j,none⟩=false)/\B<=g/\g < w.heap.size:=by
 have ho:=h.two.own1 k hk
 have hlk:=h.len k hk
 rw [hlk] at ho
 obtain ⟨g,cap,hv,hb,hg⟩:=World.ownsRow.form ho (by omega)
 refine ⟨g,cap,(Y k)[i]'(by omega),hv,List.getElem?_eq_getElem _,fun j hj=>?_,hb,hg⟩
 rw [hv] at ho
 refine ⟨?_,ho.frozenAt _⟩
 rw [ho.cellAt (i * s+j) (by have:=Nat.mul_le_mul_right s (show i+1<=n k by omega);rw [Nat.succ_mul] at this;omega),fl_get hfl (Y k) i j (by omega) hj]
theorem Fl.put (hne:eL ≠ e) (h:Fl f e eL s w0 w B K lg lc R n Y 0 G Z) {k i:Nat} (hk:k < K) {g cap:Nat} (hR:R k=.slice (some ⟨g,0,none⟩) (n k) cap) (x:α) (hgr:Fr (fun b=>b=g) w w') (h5:w'.ownsRow B e s (R k) (Y k).length (((Y k).set i x).flatMap f)):
  Fl f e eL s w0 w' B K lg lc R n (upd Y k ((Y k).set i x)) 0 G Z:=by
 have ho:=h.two.own1 k hk
 refine ⟨h.two.put hk (by rw [hR];rfl) hgr h5,owns_fr h.ls hgr ?_,fun j hj=>?_,h.fr.trans hgr (fun q _ hq=>⟨k,hk,by rw [hR,hq];rfl⟩),fun i g hi=>absurd hi (by omega)⟩
 ·rintro b hb rfl
  exact hne (owns_type ho h.ls (by rw [hR];rfl) hb).symm
 ·by_cases e:j=k
  ·subst e;rw [upd_same,List.length_set];exact h.len _ hj
  ·rw [upd_other _ _ e];exact h.len j hj
theorem Fg.size (h:Fg f e eL s w0 w B K lg lc gg R n Y m G Z q L):B<=w.heap.size:=h.fl.size
theorem Fg.below (h:Fg f e eL s w0 w B K lg lc gg R n Y m G Z q L) (hb:Below w.heap.size w w'):Fg f e eL s w0 w' B K lg lc gg R n Y m G Z q L:=
 ⟨h.fl.below h.mle hb,owns_fr h.gs (Fr.of_below (F:=fun _=>False) hb) (fun _ _ h=>h),h.tab,h.ne,h.mle,h.gn⟩
theorem Fg.next (h:Fg f e eL s w0 w B K lg lc gg R n Y m G Z m L) (hm:m < K):Fg f e eL s w0 w B K lg lc gg R n Y (m+1) (upd G m (R m)) (upd Z m (Y m)) m L:=
 ⟨⟨h.fl.two.next hm,h.fl.ls,h.fl.len,h.fl.fr,fun i g hi hg hlt=>by
  by_cases e:i=m
  ·subst e;rw [upd_same] at hg;exact hg
  ·rw [upd_other _ _ e] at hg;exact h.fl.gb i g (by omega) hg hlt⟩,h.gs,fun i hi=>by rw [upd_other _ _ (by omega)];exact h.tab i hi,h.ne,hm,h.gn⟩
theorem Fg.app (hs:0 < s) (hfl:∀ x,(f x).length=s) (hne:eL ≠ e) (h:Fg f e eL s w0 w B K lg lc gg R n Y (m+1) G Z m L) {ys:List α} {v':Value} (hA:AppTo w B e s (G m) (Z m).length ((Z m).flatMap f) ys.length (ys.flatMap f) v' w'):
  Fg f e eL s w0 w' B K lg lc gg R n Y (m+1) (upd G m v') (upd Z m (Z m ++ ys)) m L/\KpT e eL w w':=by
 have hm:m < K:=h.mle
 have hB:=h.size
 have h2:=h.fl.two.app hs hfl hm hB hA
 have ho:=h.fl.two.own2 m (by omega)
 have keep:∀ {b:Nat} {c:Nat} {xs:List Value},w.ownsRow B eL 1 (.slice (some ⟨b,0,none⟩) K c) K xs->w'.ownsRow B eL 1 (.slice (some ⟨b,0,none⟩) K c) K xs:=by
  intro b c xs hb
  rcases hA with ⟨g,cap,e1,e2,hf,_,_⟩ | hw
  ·refine owns_fr hb hf ?_
   rintro b' hb' rfl
   exact hne (owns_type ho hb (by rw [e1];rfl) hb').symm
  ·exact owns_fr hb (Fr.of_below (F:=fun _=>False) hw.2) (fun _ _ h=>h)
 have hfr:Fr (fun b=>∃ i,i < K/\(R i).ownBlock=some b) w0 w':=by
  rcases hA with ⟨g,cap,e1,e2,hf,_,_⟩ | hw
  ·exact h.fl.fr.trans hf (fun q hq hqg=>⟨m,hm,by rw [hqg] at hq ⊢;exact h.fl.gb m g (by omega) (by rw [e1];rfl) hq⟩)
  ·exact h.fl.fr.trans (Fr.of_below (F:=fun _=>False) hw.2) (fun _ _ h=>h.elim)
 have hgb:∀ i g,i < m+1->(upd G m v' i).ownBlock=some g->g < w0.heap.size->(R i).ownBlock=some g:=by
  intro i g hi hg hlt
  by_cases e:i=m
  ·subst e
   rw [upd_same] at hg
   rcases hA with ⟨g',cap,e1,e2,hf,_,_⟩ | hw
   ·rw [e2] at hg;exact h.fl.gb i g (by omega) (by rw [e1];exact hg) hlt
   ·have:=(hw.1.lt g hg).1;have:=h.fl.fr.size;omega
  ·rw [upd_other _ _ e] at hg;exact h.fl.gb i g hi hg hlt
 refine ⟨⟨⟨h2,keep h.fl.ls,h.fl.len,hfr,hgb⟩,keep h.gs,fun i hi=>by rw [upd_other _ _ (by omega)];exact h.tab i hi,h.ne,h.mle,h.gn⟩,?_⟩
 rcases hA with ⟨g,cap,e1,e2,hf,_,_⟩ | hw
 ·exact KpT.of_owns ho (by rw [e1];rfl) hf (.inl rfl)
 ·exact KpT.below hw.2
theorem Fg.set (hne:eL ≠ e) (h:Fg f e eL s w0 w B K lg lc gg R n Y (m+1) G Z m L):Fg f e eL s w0 (w.setCell ⟨gg,m,none⟩ (G m)) B K lg lc gg R n Y (m+1) G Z (m+1) (L.set m (G m))/\KpT e eL w (w.setCell ⟨gg,m,none⟩ (G m)):=by
 have hm:m < K:=h.mle
 have hst:=h.gs.stored m (G m)
 have hf:=Fr.setCell w ⟨gg,m,none⟩ (G m)
 have hL:L.length=K:=by have:=h.gs.1;omega
 refine ⟨⟨⟨h.fl.two.far h.gs rfl hne h.mle hf,owns_fr h.fl.ls hf ?_,h.fl.len,h.fl.fr.trans hf (fun q hq hqg=>by have h3:q=gg:=hqg;have:=h.gn;omega),h.fl.gb⟩,hst.1,fun i hi=>?_,h.ne,h.mle,h.gn⟩,KpT.of_owns h.gs rfl hf (.inr rfl)⟩
 ·rintro b hb hb'
  have h1:lg=b:=by simpa [Value.ownBlock] using hb
  have h2:b=gg:=hb'
  exact h.ne (by omega)
 ·rw [List.getElem?_set]
  by_cases e:m=i
  ·subst e;rw [if_pos rfl,if_pos (by omega)]
  ·rw [if_neg e];exact h.tab i (by omega)
/-- The k-th list that has grown, where it stands. -/
theorem Fg.grow (h:Fg f e eL s w0 w B K lg lc gg R n Y m G Z m L) {k:Nat} (hk:k < m):
  ∃ ao cap,G k=.slice ao (Z k).length cap/\w.cell? ⟨gg,k,none⟩=some (.slice ao (Z k).length cap)/\(Z k).length<=cap/\cap<=9223372036854775807:=by
 obtain ⟨ao,cap,hv,hs⟩:=Sv.of_owns (h.fl.two.own2 k hk)
 have hb:=hs.bound
 have hm:=h.mle
 refine ⟨ao,cap,hv,?_,hb⟩
 rw [h.gs.cellAt k (by omega),h.tab k hk,hv]
theorem Fg.val (h:Fg f e eL s w0 w B K lg lc gg R n Y m G Z q L) {k:Nat} (hk:k < m):∃ ao cap,G k=.slice ao (Z k).length cap/\(Z k).length<=cap/\cap<=9223372036854775807:=by
 obtain ⟨ao,cap,hv,hs⟩:=Sv.of_owns (h.fl.two.own2 k hk)
 exact ⟨ao,cap,hv,hs.bound⟩
theorem Fg.growElem (hfl:∀ x,(f x).length=s) (h:Fg f e eL s w0 w B K lg lc gg R n Y m G Z q L) {k i:Nat} (hk:k < m) (hi:i < (Z k).length) {x:α} (hx:(Z k)[i]?=some x):
  ∃ g cap,G k=.slice (some ⟨g,0,none⟩) (Z k).length cap/\(∀ j,j < s->w.cell? ⟨g,i * s+j,none⟩=(f x)[j]?)/\g < w.heap.size:=by
 have ho:=h.fl.two.own2 k hk
 obtain ⟨g,cap,hv,hb,hg⟩:=World.ownsRow.form ho (by omega)
 refine ⟨g,cap,hv,fun j hj=>?_,hg⟩
 rw [hv] at ho
 rw [ho.cellAt (i * s+j) (by have:=Nat.mul_le_mul_right s (show i+1<=(Z k).length by omega);rw [Nat.succ_mul] at this;omega),fl_get hfl (Z k) i j hi hj,(List.getElem?_eq_some_iff.1 hx).2]
theorem Fl.elemX (hfl:∀ x,(f x).length=s) {k i:Nat} (h:Fl f e eL s w0 w B K lg lc R n Y m G Z) (hk:k < K) (hi:i < n k) {x:α} (hx:(Y k)[i]?=some x):
  ∃ g cap,R k=.slice (some ⟨g,0,none⟩) (n k) cap/\(∀ j,j < s->w.cell? ⟨g,i * s+j,none⟩=(f x)[j]?)/\g < w.heap.size:=by
 obtain ⟨g,cap,y,h1,h2,h3,_,h5⟩:=h.elem hfl hk hi
 rw [hx] at h2;cases h2
 exact ⟨g,cap,h1,fun j hj=>(h3 j hj).1,h5⟩
theorem Fg.none (h:Fg f e eL s w0 w B K lg lc gg R n Y m G Z q L):Fg f e eL s w0 w B K lg lc gg R n Y 0 G Z 0 L:=
 ⟨⟨h.fl.two.none,h.fl.ls,h.fl.len,h.fl.fr,fun i g hi=>absurd hi (by omega)⟩,h.gs,fun i hi=>absurd hi (by omega),h.ne,Nat.zero_le _,h.gn⟩
end
/-- The block of a number. -/
def findBlock (n:Nat):Code->Option Code
 | .seq a b=>match findBlock n a with
  | some c=>some c
  | none=>findBlock n b
 | .block k c=>if k=n then some (.block k c) else findBlock n c
 | .scope c=>findBlock n c
 | .loop c=>findBlock n c
 | .cond _ a b=>match findBlock n a with
  | some c=>some c
  | none=>findBlock n b
 | _=>none
/-- So many marked things. -/
def MR {α:Type} (Mk:World->Int->Int->α->Prop) (w:World) (k n:Nat) (l:List α):Prop:=l.length=n/\∀ j,j < n->∃ x,l[j]?=some x/\Mk w k j x
theorem MR.mono {α:Type} {Mk:World->Int->Int->α->Prop} {w w':World} {k n:Nat} {l:List α} (h:MR Mk w k n l) (hk:∀ i x,Mk w k i x->Mk w' k i x):MR Mk w' k n l:=
 ⟨h.1,fun j hj=>by obtain ⟨x,h1,h2⟩:=h.2 j hj;exact ⟨x,h1,hk _ _ h2⟩⟩
theorem MR.snoc {α:Type} {Mk:World->Int->Int->α->Prop} {w:World} {k n:Nat} {l:List α} (h:MR Mk w k n l) {x:α} (hx:Mk w k n x):MR Mk w k (n+1) (l ++ [x]):=
 ⟨by rw [List.length_append,h.1];rfl,fun j hj=>by
  by_cases e:j < n
  ·obtain ⟨y,h1,h2⟩:=h.2 j e
   exact ⟨y,by rw [List.getElem?_append_left (by rw [h.1];exact e)];exact h1,h2⟩
  ·obtain rfl:j=n:=by omega
   exact ⟨x,by rw [List.getElem?_append_right (by rw [h.1];exact Nat.le_refl _),h.1,Nat.sub_self];rfl,hx⟩⟩
end Go.Proofs.YtgjhepblpdnkcaaGreatDoor
namespace Go.Proofs.YtgjhepblpdnkcaaGreatDoor
open Go.RowKit
set_option maxRecDepth 100000
set_option maxHeartbeats 2000000

/-- The marks are those of μ. -/
def MiC (μ:Int->Int->Int):Prop:=∀ (w:World) (k i:Int),0<=k->k<=100000->0<=i->i<=10000->
  Calls Tryz.prog 100 #[.int .i64 k,.int .i64 i] w fun r w'=>r=.returned (.int .i64 (μ k i))/\w=w'
theorem mark_all:MiC mkI:=fun w k i h0 h1 h2 h3=>mark_any w k i h0 h1 h2 h3
theorem inc_one (l:List Int):∀ u ∈ inc l,u.oneCell'=true:=by intro u hu;simp only [inc,List.mem_map] at hu;obtain ⟨_,_,rfl⟩:=hu;rfl
def imarks (β:Int->Int->Int) (k:Nat):List Int:=(List.range k).map fun i:Nat=>β 1 (i:Int)
theorem imarks_succ (β:Int->Int->Int) (k:Nat):imarks β (k+1)=imarks β k ++ [β 1 (k:Int)]:=by simp [imarks,List.range_succ]
theorem infoIn:(Tryz.prog.info? 3).map (fun i=>(i.zero,i.size,i.bytes))=some (some (.int .i64 0),1,8):=by kernel_rfl
theorem inc_append (a b:List Int):inc (a ++ b)=inc a ++ inc b:=by simp [inc]

theorem lentIn_any (β:Int->Int->Int) (HMb:Hid (MiC β)) (w:World) (ao:Option Addr) (n cap:Nat) (W:List Int) (hs:Sv w ao n cap 1 (inc W)) (hbig:n<=100000):
  Calls Tryz.prog 63 #[.slice ao n cap] w fun r w'=>r=.returned (.slice (some ⟨w.heap.size,0,none⟩) n (n+12))/\hrow w' w.heap.size (inc (W ++ imarks β 12)).toArray 3/\Below w.heap.size w w':=by
 obtain ⟨h1,h2⟩:=hs.bound
 have hwl:=hs.int_len
 have HSl:=Lib.hid hs;have HWl:=Lib.hid hwl;clear hs hwl
 obtain ⟨i0,hi,hz0,hz1,hz2⟩:=info_parts infoIn
 have Hi:=Lib.hid hi;have Hz0:=Lib.hid hz0;have Hz1:=Lib.hid hz1;have Hz2:=Lib.hid hz2
 clear hi hz0 hz1 hz2
 have e12:((n:Int)+12)=((n+12:Nat):Int):=by omega
 have HE:=Lib.hid e12;clear e12
 have HBy:=Lib.hid (show i0.bytes * (n+12)<=281474976710656 by rw [Hz2.out];omega)
 have HOc:=Lib.hid (inc_one W)
 go_enter Tryz.func63,Tryz.ntmps63
 go_wp2_with (first
  | (at_make;refine wpList_make_own _ rfl _ _ 26 rfl w.heap.size 3 i0 _ 1 Tryz.underlying26 Hi.out Hz0.out Hz1.out _ _ _ (n+12) rfl rfl HE.out HBy.out (by unfold maxLen;omega) (Nat.le_refl _) ?_;intro w1 hown1 hg1;have HO1:=Lib.hid hown1;have HB1:=Lib.hid (((Below.refl w.heap.size w).grown hg1 (Nat.le_refl _) (by simp)));clear hown1 hg1)
  | (at_builtin;refine wpList_append_fits_any _ rfl (.tmp 9) (.tmp 10) 26 rfl w.heap.size 3 i0 1 Tryz.underlying26 Hi.out Hz1.out w.heap.size 0 (n+12) [] rfl HO1.out ao n cap (inc W) rfl (by have:=HWl.out;simp [inc_len];omega) ?_ ?_ HOc.out (by omega) ?_))
 ·intro hn
  have h:=HSl.out.nn hn
  omega
 ·intro ad had j u hj
  obtain ⟨ad',h1,h2⟩:=(HSl.out.below HB1.out).cell j (List.getElem?_eq_some_iff.1 hj).1
  rw [had] at h1;cases h1
  exact h2.trans hj
 intro w2 hown2 hg2
 have HO2:=Lib.hid hown2
 have HB2:=Lib.hid (HB1.out.grown hg2 HB1.out.size (by intro k hk;cases hk;exact Nat.le_refl _))
 clear hown2 hg2 HO1 HB1
 go_wp2_with fail
 go_loopw [3,4] (fun v i wr=>∃ k:Nat,k<=12/\i=.int .i64 k/\v=.slice (some ⟨w.heap.size,0,none⟩) (n+k) (n+12)/\
   Hid (wr.ownsRow w.heap.size 3 1 (.slice (some ⟨w.heap.size,0,none⟩) (n+k) (n+12)) (n+k) (inc (W ++ imarks β k))/\Below w.heap.size w wr)) (fun _ i _=>12 - (intOf i).toNat)
 case atStart=>exact ⟨0,by omega,rfl,rfl,by simpa [imarks] using HO2.out,HB2.out⟩
 case round=>
  obtain ⟨k,hk,rfl,rfl,hI⟩:=hrel
  have HO:=Lib.hid hI.out.1
  have HB:=Lib.hid hI.out.2
  clear hI
  by_cases hlt:k < 12
  ·go_wp2_with (first
    | (go_at_call 100;refine (HMb.out _ _ _ (by decide) (by decide) (by omega) (by omega)).mono ?_;rintro e w' ⟨rfl,rfl⟩)
    | (at_builtin;refine wpList_append_fits _ rfl (.tmp 16) (.tmp 19) 26 rfl w.heap.size 3 i0 1 Tryz.underlying26 Hi.out Hz1.out w.heap.size (n+k) (n+12) _ rfl (HO.out.alloc _) ⟨wr.heap.size,0,none⟩ 1 1 [_] rfl rfl (one_new _ _ _) (by simp [Value.oneCell']) (by omega) ?_;intro w3 hown3 hg3;have HO3:=Lib.hid hown3;have HB3:=Lib.hid ((HB.out.alloc HB.out.size _).grown hg3 (by have:=HB.out.size;simp;omega) (by intro k hk;cases hk;exact Nat.le_refl _));clear hown3 hg3))
   go_roundw
   case rel=>
    refine ⟨k+1,by omega,by go_num,rfl,?_,HB3.out⟩
    have:=HO3.out
    rw [imarks_succ]
    simpa [Nat.add_assoc,inc] using this
   case measure=>simp [intOf];omega
  ·have hke:k=12:=by omega
   subst hke
   go_wp2_with fail
   go_ret
   refine ⟨rfl,?_,HB.out⟩
   rcases HO.out.2 with ⟨h,_⟩ | ⟨g,c,cur,h,_,hh,h3,h4,h5,h6⟩
   ·cases h
   ·cases h
    have hcur:cur=(inc (W ++ imarks β 12)).toArray:=by
     apply Array.toList_inj.1
     rw [← h6,List.take_of_length_le (by simp [h5])]
    rw [← hcur];exact hh
end Go.Proofs.YtgjhepblpdnkcaaGreatDoor
namespace Go.Proofs.YtgjhepblpdnkcaaGreatDoor
open Go.RowKit
set_option maxRecDepth 100000
set_option maxHeartbeats 2000000

theorem keptIn_any (β:Int->Int->Int) (HMb:Hid (MiC β)) (w:World) (g:Nat) (ao:Option Addr) (n cap:Nat) (W:List Int) (hr:hrow w g (inc (W ++ imarks β 12)).toArray 3) (hs:Sv w ao n cap 1 (inc W)) (hbig:n<=5000):
  Calls Tryz.prog 70 #[.slice (some ⟨g,0,none⟩) n (n+12),.slice ao n cap] w fun r w'=>r=.returned (.bool true)/\Below w.heap.size w w':=by
 obtain ⟨h1,h2⟩:=hs.bound
 have hwl:=hs.int_len
 have hcell:∀ w',Below w.heap.size w w'->∀ j,j < n+12->w'.cell? ⟨g,j,none⟩=some (.int .i64 (if j < n then bt W j else β 1 ((j - n:Nat):Int))):=fun w' hb j hj=>by
  rw [(hr.below hb).cell,inc_append,List.getElem?_toArray]
  by_cases hjn:j < n
  ·rw [if_pos hjn,List.getElem?_append_left (by rw [inc_len];omega)]
   simp [inc,bt,List.getD_eq_getElem?_getD,show j < W.length by omega]
  ·rw [if_neg hjn,List.getElem?_append_right (by rw [inc_len];omega),inc_len,hwl]
   simp [inc,imarks,show j - n < 12 by omega]
 have HC:=Lib.hid hcell;have HS:=Lib.hid (fun w' (hb:Below w.heap.size w w')=>hs.below hb);have HWl:=Lib.hid hwl
 clear hcell hr hs hwl
 go_enter Tryz.func70,Tryz.ntmps70
 go_wp2_with fail
 go_loopw [6] (fun i wr=>∃ k:Nat,k<=n+12/\i=.int .i64 k/\Hid (Below w.heap.size w wr)) (fun i _=>n+12 - (intOf i).toNat)
 case atStart=>exact ⟨0,by omega,rfl,Below.refl _ _⟩
 case round=>
  obtain ⟨k,hk,rfl,HB⟩:=hrel
  by_cases hlt:k < n+12
  ·have hlt':(k:Int) < (n:Int)+12:=by omega
   have hc:=HC.out wr HB.out k hlt
   by_cases hkn:k < n
   ·rw [if_pos hkn] at hc
    have hkn':(k:Int) < n:=by omega
    have t1:decide (k < n)=true:=decide_eq_true hkn
    have t2:decide (n<=k)=false:=decide_eq_false (by omega)
    obtain ⟨aw,rfl,hq⟩:=(HS.out wr HB.out).intc k (by have:=HWl.out;omega)
    generalize bt W k=c at *
    have later:∀ (p:Addr) (v:Value),wr.cell? p=some v->∀ y:Later wr,y.val.cell? p=some v:=fun p v h y=>(y.ok.cell (World.block_lt_of_cell? wr _ h)).trans h
    have hc:=later _ _ hc;have hq:=later _ _ hq
    clear later
    go_wp2_with fail
    refine wp_region_later (by kernel_rfl) (by kernel_rfl) ?_
    repeat (go_big_quiet_step (fail))
    refine wpQuiet_nil ?_
    intro w5 hw5
    obtain ⟨y,rfl⟩:=hw5
    have HB5:=Lib.hid (HB.out.trans (y.ok.mono HB.out.size))
    clear hc hq
    generalize y.val=w5 at *
    go_wp2_with fail
    go_roundw
    case rel=>exact ⟨k+1,by omega,by go_num,HB5⟩
    case measure=>simp [intOf];omega
   ·rw [if_neg hkn] at hc
    have hkn':(n:Int)<=k:=by omega
    have t1:decide (k < n)=false:=decide_eq_false hkn
    have t2:decide (n<=k)=true:=decide_eq_true (by omega)
    rw [show ((k - n:Nat):Int)=(k:Int) - n by omega] at hc
    have HM:=Lib.hid (fun y:Later wr=>HMb.out y.val 1 ((k:Int) - n) (by decide) (by decide) (by omega) (by omega))
    generalize β 1 ((k:Int) - n)=c at *
    have later:∀ (p:Addr) (v:Value),wr.cell? p=some v->∀ y:Later wr,y.val.cell? p=some v:=fun p v h y=>(y.ok.cell (World.block_lt_of_cell? wr _ h)).trans h
    have hc:=later _ _ hc
    clear later
    go_wp2_with fail
    refine wp_region_later (by kernel_rfl) (by kernel_rfl) ?_
    repeat (go_big_quiet_step ((go_at_call 100;exact Calls.later_same (HM.out _))))
    refine wpQuiet_nil ?_
    intro w5 hw5
    obtain ⟨y,rfl⟩:=hw5
    have HB5:=Lib.hid (HB.out.trans (y.ok.mono HB.out.size))
    clear hc HM
    generalize y.val=w5 at *
    go_wp2_with fail
    go_roundw
    case rel=>exact ⟨k+1,by omega,by go_num,HB5⟩
    case measure=>simp [intOf];omega
  ·have hge:(n:Int)+12<=k:=by omega
   go_wp2_with fail
   go_ret
   exact ⟨rfl,HB.out⟩
end Go.Proofs.YtgjhepblpdnkcaaGreatDoor
namespace Go.Proofs.YtgjhepblpdnkcaaGreatDoor
open Go.RowKit
set_option maxRecDepth 100000
set_option maxHeartbeats 4000000

def icf (x:Int):List Value:=[.int .i64 x]
theorem icf_len (x:Int):(icf x).length=1:=rfl
theorem icf_inc (l:List Int):l.flatMap icf=inc l:=by unfold inc;induction l with | nil=>rfl | cons a l ih=>simp [icf,ih]
theorem icf_one (t:List Int):∀ u ∈ t.flatMap icf,u.oneCell'=true:=by rw [icf_inc];exact inc_one t
/-- The marks are those of μ. -/
def MiB (μ:Int->Int->Int):Prop:=∀ (w:World) (k i:Int),0<=k->k<=100000->0<=i->i<=10000->
  Calls Tryz.prog 100 #[.int .i64 k,.int .i64 i] w fun r w'=>r=.returned (.int .i64 (μ k i))/\Below w.heap.size w w'
theorem mark_below:MiB mkI:=fun w k i h0 h1 h2 h3=>(mark_any w k i h0 h1 h2 h3).mono (by rintro e w' ⟨rfl,rfl⟩;exact ⟨rfl,Below.refl _ _⟩)
theorem elemI:Elem Tryz.prog 26 3 1 8 (Value.int .i64 0):=⟨by kernel_rfl,by kernel_rfl,by decide,by decide⟩
theorem infoLI:(Tryz.prog.info? 26).map (fun i=>(i.zero,i.size,i.bytes))=some (some (.slice none 0 0),1,24):=by kernel_rfl
theorem zerosI:(madeCells (Value.int .i64 0).cells (64 * 1)).toList=(List.replicate 64 (0:Int)).flatMap icf:=by kernel_rfl
def mrowI (μ:Int->Int->Int) (k n:Nat):List Int:=(List.range n).map fun j:Nat=>(μ k (j:Int))
theorem mrowI_len (μ:Int->Int->Int) (k n:Nat):(mrowI μ k n).length=n:=by simp [mrowI]
theorem mrowI_get (μ:Int->Int->Int) (k n j:Nat) (h:j < n):(mrowI μ k n)[j]?=some (μ k j):=by simp [mrowI,h]
theorem mrowI_of {μ:Int->Int->Int} {l:List Int} {k n:Nat} (hl:l.length=n) (h:∀ j,j < n->l[j]?=some (μ k j)):l=mrowI μ k n:=by
 apply List.ext_getElem?
 intro j
 by_cases hj:j < n
 ·rw [h j hj,mrowI_get μ k n j hj]
 ·rw [List.getElem?_eq_none (by omega),List.getElem?_eq_none (by rw [mrowI_len];omega)]
theorem mrowI_snoc (μ:Int->Int->Int) (k n i:Nat):mrowI μ k (n+i) ++ [(μ k ((n:Int)+i))]=mrowI μ k (n+(i+1)):=by
 unfold mrowI
 rw [show n+(i+1)=(n+i)+1 by omega,List.range_succ,List.map_append]
 simp
theorem setI (Y:List Int) (i:Nat) (x:Int) (hi:i < Y.length):((Y.flatMap icf).set (i) (.int .i64 x))=(Y.set i x).flatMap icf:=by
 induction Y generalizing i with
 | nil=>simp at hi
 | cons y Y ih=>
  cases i with
  | zero=>simp [icf]
  | succ i=>
   have:=ih i (by simpa using hi)
   simp only [List.set_cons_succ,List.flatMap_cons]
   rw [← this]
   rw [List.set_append_right _ _ (by simp [icf_len]),icf_len,Nat.add_sub_cancel]
theorem Fl.putI {w0 w:World} {B K lg lc:Nat} {R G:Nat->Value} {n:Nat->Nat} {Y Z:Nat->List Int} (h:Fl icf 3 26 1 w0 w B K lg lc R n Y 0 G Z) {k i:Nat} (hk:k < K) (hi:i < n k) {g cap:Nat} (hR:R k=.slice (some ⟨g,0,none⟩) (n k) cap) (x:Int):
  Fl icf 3 26 1 w0 (w.setCell ⟨g,i,none⟩ (.int .i64 x)) B K lg lc R n (upd Y k ((Y k).set i x)) 0 G Z:=by
 have ho:=h.two.own1 k hk
 have hlk:=h.len k hk
 have hgr:Fr (fun b=>b=g) w (w.setCell ⟨g,i,none⟩ (.int .i64 x)):=Fr.setCell w ⟨g,i,none⟩ _
 have hst:=ho
 rw [hR,hlk] at hst
 have h5:=(hst.stored (i) (.int .i64 x)).1
 rw [setI (Y k) i x (by omega),← hR,← hlk] at h5
 exact h.put (by decide) hk hR x hgr h5
theorem Own.putI {w0 w:World} {g n cap:Nat} {M:List Int} (h:Own w0 w 3 1 (.slice (some ⟨g,0,none⟩) n cap) n (M.flatMap icf)) (hM:M.length=n) {i:Nat} (hi:i < n) (x:Int):
  Own w0 (w.setCell ⟨g,i,none⟩ (.int .i64 x)) 3 1 (.slice (some ⟨g,0,none⟩) n cap) n ((M.set i x).flatMap icf):=by
 have hg:=h.1.lt g rfl
 have h5:=(h.1.stored (i) (.int .i64 x)).1
 rw [setI M i x (by omega)] at h5
 exact ⟨h5,(h.2.setCell hg.1 _)⟩
noncomputable def blkI (n:Nat):Code:=((Tryz.f105.body.bind (findBlock n)).getD .skip)
end Go.Proofs.YtgjhepblpdnkcaaGreatDoor
namespace Go.Proofs.YtgjhepblpdnkcaaGreatDoor
open Go.RowKit
set_option maxRecDepth 100000

theorem info144:(Tryz.prog.info? 207).map (fun i=>(i.zero,i.size,i.bytes))=some (some (.slice none 0 0),1,24):=by kernel_rfl
theorem flat50_none (w:World):Calls Tryz.prog 103 #[.slice none 0 0] w fun r w'=>r=.returned (.bool true)/\Below w.heap.size w w':=by
 obtain ⟨i0,hi,hz0,hz1,hz2⟩:=info_parts info144
 have Hi:=Lib.hid hi;have Hz0:=Lib.hid hz0;have Hz1:=Lib.hid hz1;have HBy:Hid (i0.bytes * 0<=281474976710656):=by unfold Hid;omega
 clear hi hz0 hz1 hz2
 go_enter Tryz.func103,Tryz.ntmps103
 go_wp2_with fail
 go_loopw [3] (fun i wr=>i=.int .i64 0/\Hid (Below w.heap.size w wr)) (fun _ _=>0)
 case atStart=>exact ⟨rfl,Below.refl _ _⟩
 case round=>
  obtain ⟨rfl,H0⟩:=hrel
  obtain ⟨wa,rfl⟩:∃ wa:World,wa=wr:=⟨_,rfl⟩
  go_wp2_with (first | (at_make;refine wpList_make_full _ rfl _ _ 121 rfl wa.heap.size 207 i0 _ 1 Tryz.underlying121 Hi.out Hz0.out Hz1.out _ _ _ _ 0 rfl rfl rfl rfl HBy.out (by decide) (Nat.le_refl _) ?_;intro w6 hown6 hg6;have HB6:=Lib.hid (H0.out.trans (((Below.refl wa.heap.size wa).grown hg6 (Nat.le_refl _) (by simp)).mono H0.out.size));clear hown6 hg6))
  go_loopw [6] (fun i wr=>i=.int .i64 0/\Hid (Below w.heap.size w wr)) (fun _ _=>0)
  case atStart=>exact ⟨rfl,HB6⟩
  case round=>
   obtain ⟨rfl,H1⟩:=hrel
   go_wp2_with fail
   go_loopw [9] (fun i wr=>i=.int .i64 0/\Hid (Below w.heap.size w wr)) (fun _ _=>0)
   case atStart=>exact ⟨rfl,H1⟩
   case round=>
    obtain ⟨rfl,H2⟩:=hrel
    go_wp2_with fail
    go_loopw [11] (fun i wr=>i=.int .i64 0/\Hid (Below w.heap.size w wr)) (fun _ _=>0)
    case atStart=>exact ⟨rfl,H2⟩
    case round=>
     obtain ⟨rfl,H3⟩:=hrel
     go_wp2_with fail
     go_loopw [14] (fun i wr=>i=.int .i64 0/\Hid (Below w.heap.size w wr)) (fun _ _=>0)
     case atStart=>exact ⟨rfl,H3⟩
     case round=>
      obtain ⟨rfl,H4⟩:=hrel
      go_wp2_with fail
      go_ret
      exact ⟨rfl,H4.out⟩

theorem info146:(Tryz.prog.info? 209).map (fun i=>(i.zero,i.size,i.bytes))=some (some (.slice none 0 0),1,24):=by kernel_rfl
theorem flat51_none (w:World):Calls Tryz.prog 104 #[.slice none 0 0] w fun r w'=>r=.returned (.bool true)/\Below w.heap.size w w':=by
 obtain ⟨i0,hi,hz0,hz1,hz2⟩:=info_parts info146
 have Hi:=Lib.hid hi;have Hz0:=Lib.hid hz0;have Hz1:=Lib.hid hz1;have HBy:Hid (i0.bytes * 0<=281474976710656):=by unfold Hid;omega
 clear hi hz0 hz1 hz2
 go_enter Tryz.func104,Tryz.ntmps104
 go_wp2_with fail
 go_loopw [3] (fun i wr=>i=.int .i64 0/\Hid (Below w.heap.size w wr)) (fun _ _=>0)
 case atStart=>exact ⟨rfl,Below.refl _ _⟩
 case round=>
  obtain ⟨rfl,H0⟩:=hrel
  obtain ⟨wa,rfl⟩:∃ wa:World,wa=wr:=⟨_,rfl⟩
  go_wp2_with (first | (at_make;refine wpList_make_full _ rfl _ _ 122 rfl wa.heap.size 209 i0 _ 1 Tryz.underlying122 Hi.out Hz0.out Hz1.out _ _ _ _ 0 rfl rfl rfl rfl HBy.out (by decide) (Nat.le_refl _) ?_;intro w6 hown6 hg6;have HB6:=Lib.hid (H0.out.trans (((Below.refl wa.heap.size wa).grown hg6 (Nat.le_refl _) (by simp)).mono H0.out.size));clear hown6 hg6))
  go_loopw [6] (fun i wr=>i=.int .i64 0/\Hid (Below w.heap.size w wr)) (fun _ _=>0)
  case atStart=>exact ⟨rfl,HB6⟩
  case round=>
   obtain ⟨rfl,H1⟩:=hrel
   go_wp2_with fail
   go_loopw [9] (fun i wr=>i=.int .i64 0/\Hid (Below w.heap.size w wr)) (fun _ _=>0)
   case atStart=>exact ⟨rfl,H1⟩
   case round=>
    obtain ⟨rfl,H2⟩:=hrel
    go_wp2_with fail
    go_loopw [11] (fun i wr=>i=.int .i64 0/\Hid (Below w.heap.size w wr)) (fun _ _=>0)
    case atStart=>exact ⟨rfl,H2⟩
    case round=>
     obtain ⟨rfl,H3⟩:=hrel
     go_wp2_with fail
     go_loopw [14] (fun i wr=>i=.int .i64 0/\Hid (Below w.heap.size w wr)) (fun _ _=>0)
     case atStart=>exact ⟨rfl,H3⟩
     case round=>
      obtain ⟨rfl,H4⟩:=hrel
      go_wp2_with fail
      go_ret
      exact ⟨rfl,H4.out⟩

theorem info147:(Tryz.prog.info? 210).map (fun i=>(i.zero,i.size,i.bytes))=some (some (.slice none 0 0),1,24):=by kernel_rfl
theorem flat53_none (w:World):Calls Tryz.prog 106 #[.slice none 0 0] w fun r w'=>r=.returned (.bool true)/\Below w.heap.size w w':=by
 obtain ⟨i0,hi,hz0,hz1,hz2⟩:=info_parts info147
 have Hi:=Lib.hid hi;have Hz0:=Lib.hid hz0;have Hz1:=Lib.hid hz1;have HBy:Hid (i0.bytes * 0<=281474976710656):=by unfold Hid;omega
 clear hi hz0 hz1 hz2
 go_enter Tryz.func106,Tryz.ntmps106
 go_wp2_with fail
 go_loopw [3] (fun i wr=>i=.int .i64 0/\Hid (Below w.heap.size w wr)) (fun _ _=>0)
 case atStart=>exact ⟨rfl,Below.refl _ _⟩
 case round=>
  obtain ⟨rfl,H0⟩:=hrel
  obtain ⟨wa,rfl⟩:∃ wa:World,wa=wr:=⟨_,rfl⟩
  go_wp2_with (first | (at_make;refine wpList_make_full _ rfl _ _ 123 rfl wa.heap.size 210 i0 _ 1 Tryz.underlying123 Hi.out Hz0.out Hz1.out _ _ _ _ 0 rfl rfl rfl rfl HBy.out (by decide) (Nat.le_refl _) ?_;intro w6 hown6 hg6;have HB6:=Lib.hid (H0.out.trans (((Below.refl wa.heap.size wa).grown hg6 (Nat.le_refl _) (by simp)).mono H0.out.size));clear hown6 hg6))
  go_loopw [6] (fun i wr=>i=.int .i64 0/\Hid (Below w.heap.size w wr)) (fun _ _=>0)
  case atStart=>exact ⟨rfl,HB6⟩
  case round=>
   obtain ⟨rfl,H1⟩:=hrel
   go_wp2_with fail
   go_loopw [9] (fun i wr=>i=.int .i64 0/\Hid (Below w.heap.size w wr)) (fun _ _=>0)
   case atStart=>exact ⟨rfl,H1⟩
   case round=>
    obtain ⟨rfl,H2⟩:=hrel
    go_wp2_with fail
    go_loopw [11] (fun i wr=>i=.int .i64 0/\Hid (Below w.heap.size w wr)) (fun _ _=>0)
    case atStart=>exact ⟨rfl,H2⟩
    case round=>
     obtain ⟨rfl,H3⟩:=hrel
     go_wp2_with fail
     go_loopw [14] (fun i wr=>i=.int .i64 0/\Hid (Below w.heap.size w wr)) (fun _ _=>0)
     case atStart=>exact ⟨rfl,H3⟩
     case round=>
      obtain ⟨rfl,H4⟩:=hrel
      go_wp2_with fail
      go_ret
      exact ⟨rfl,H4.out⟩

theorem info148:(Tryz.prog.info? 27).map (fun i=>(i.zero,i.size,i.bytes))=some (some (.slice none 0 0),1,24):=by kernel_rfl
theorem flat54_none (w:World):Calls Tryz.prog 107 #[.slice none 0 0] w fun r w'=>r=.returned (.bool true)/\Below w.heap.size w w':=by
 obtain ⟨i0,hi,hz0,hz1,hz2⟩:=info_parts info148
 have Hi:=Lib.hid hi;have Hz0:=Lib.hid hz0;have Hz1:=Lib.hid hz1;have HBy:Hid (i0.bytes * 0<=281474976710656):=by unfold Hid;omega
 clear hi hz0 hz1 hz2
 go_enter Tryz.func107,Tryz.ntmps107
 go_wp2_with fail
 go_loopw [3] (fun i wr=>i=.int .i64 0/\Hid (Below w.heap.size w wr)) (fun _ _=>0)
 case atStart=>exact ⟨rfl,Below.refl _ _⟩
 case round=>
  obtain ⟨rfl,H0⟩:=hrel
  obtain ⟨wa,rfl⟩:∃ wa:World,wa=wr:=⟨_,rfl⟩
  go_wp2_with (first | (at_make;refine wpList_make_full _ rfl _ _ 124 rfl wa.heap.size 27 i0 _ 1 Tryz.underlying124 Hi.out Hz0.out Hz1.out _ _ _ _ 0 rfl rfl rfl rfl HBy.out (by decide) (Nat.le_refl _) ?_;intro w6 hown6 hg6;have HB6:=Lib.hid (H0.out.trans (((Below.refl wa.heap.size wa).grown hg6 (Nat.le_refl _) (by simp)).mono H0.out.size));clear hown6 hg6))
  go_loopw [6] (fun i wr=>i=.int .i64 0/\Hid (Below w.heap.size w wr)) (fun _ _=>0)
  case atStart=>exact ⟨rfl,HB6⟩
  case round=>
   obtain ⟨rfl,H1⟩:=hrel
   go_wp2_with fail
   go_loopw [9] (fun i wr=>i=.int .i64 0/\Hid (Below w.heap.size w wr)) (fun _ _=>0)
   case atStart=>exact ⟨rfl,H1⟩
   case round=>
    obtain ⟨rfl,H2⟩:=hrel
    go_wp2_with fail
    go_loopw [11] (fun i wr=>i=.int .i64 0/\Hid (Below w.heap.size w wr)) (fun _ _=>0)
    case atStart=>exact ⟨rfl,H2⟩
    case round=>
     obtain ⟨rfl,H3⟩:=hrel
     go_wp2_with fail
     go_loopw [14] (fun i wr=>i=.int .i64 0/\Hid (Below w.heap.size w wr)) (fun _ _=>0)
     case atStart=>exact ⟨rfl,H3⟩
     case round=>
      obtain ⟨rfl,H4⟩:=hrel
      go_wp2_with fail
      go_ret
      exact ⟨rfl,H4.out⟩

theorem info23:(Tryz.prog.info? 102).map (fun i=>(i.zero,i.size,i.bytes))=some (some (.slice none 0 0),1,24):=by kernel_rfl
theorem flat55_none (w:World):Calls Tryz.prog 108 #[.slice none 0 0] w fun r w'=>r=.returned (.bool true)/\Below w.heap.size w w':=by
 obtain ⟨i0,hi,hz0,hz1,hz2⟩:=info_parts info23
 have Hi:=Lib.hid hi;have Hz0:=Lib.hid hz0;have Hz1:=Lib.hid hz1;have HBy:Hid (i0.bytes * 0<=281474976710656):=by unfold Hid;omega
 clear hi hz0 hz1 hz2
 go_enter Tryz.func108,Tryz.ntmps108
 go_wp2_with fail
 go_loopw [3] (fun i wr=>i=.int .i64 0/\Hid (Below w.heap.size w wr)) (fun _ _=>0)
 case atStart=>exact ⟨rfl,Below.refl _ _⟩
 case round=>
  obtain ⟨rfl,H0⟩:=hrel
  obtain ⟨wa,rfl⟩:∃ wa:World,wa=wr:=⟨_,rfl⟩
  go_wp2_with (first | (at_make;refine wpList_make_full _ rfl _ _ 125 rfl wa.heap.size 102 i0 _ 1 Tryz.underlying125 Hi.out Hz0.out Hz1.out _ _ _ _ 0 rfl rfl rfl rfl HBy.out (by decide) (Nat.le_refl _) ?_;intro w6 hown6 hg6;have HB6:=Lib.hid (H0.out.trans (((Below.refl wa.heap.size wa).grown hg6 (Nat.le_refl _) (by simp)).mono H0.out.size));clear hown6 hg6))
  go_loopw [6] (fun i wr=>i=.int .i64 0/\Hid (Below w.heap.size w wr)) (fun _ _=>0)
  case atStart=>exact ⟨rfl,HB6⟩
  case round=>
   obtain ⟨rfl,H1⟩:=hrel
   go_wp2_with fail
   go_loopw [9] (fun i wr=>i=.int .i64 0/\Hid (Below w.heap.size w wr)) (fun _ _=>0)
   case atStart=>exact ⟨rfl,H1⟩
   case round=>
    obtain ⟨rfl,H2⟩:=hrel
    go_wp2_with fail
    go_loopw [11] (fun i wr=>i=.int .i64 0/\Hid (Below w.heap.size w wr)) (fun _ _=>0)
    case atStart=>exact ⟨rfl,H2⟩
    case round=>
     obtain ⟨rfl,H3⟩:=hrel
     go_wp2_with fail
     go_loopw [14] (fun i wr=>i=.int .i64 0/\Hid (Below w.heap.size w wr)) (fun _ _=>0)
     case atStart=>exact ⟨rfl,H3⟩
     case round=>
      obtain ⟨rfl,H4⟩:=hrel
      go_wp2_with fail
      go_ret
      exact ⟨rfl,H4.out⟩

theorem info150:(Tryz.prog.info? 112).map (fun i=>(i.zero,i.size,i.bytes))=some (some (.slice none 0 0),1,24):=by kernel_rfl
theorem flat56_none (w:World):Calls Tryz.prog 109 #[.slice none 0 0] w fun r w'=>r=.returned (.bool true)/\Below w.heap.size w w':=by
 obtain ⟨i0,hi,hz0,hz1,hz2⟩:=info_parts info150
 have Hi:=Lib.hid hi;have Hz0:=Lib.hid hz0;have Hz1:=Lib.hid hz1;have HBy:Hid (i0.bytes * 0<=281474976710656):=by unfold Hid;omega
 clear hi hz0 hz1 hz2
 go_enter Tryz.func109,Tryz.ntmps109
 go_wp2_with fail
 go_loopw [3] (fun i wr=>i=.int .i64 0/\Hid (Below w.heap.size w wr)) (fun _ _=>0)
 case atStart=>exact ⟨rfl,Below.refl _ _⟩
 case round=>
  obtain ⟨rfl,H0⟩:=hrel
  obtain ⟨wa,rfl⟩:∃ wa:World,wa=wr:=⟨_,rfl⟩
  go_wp2_with (first | (at_make;refine wpList_make_full _ rfl _ _ 107 rfl wa.heap.size 112 i0 _ 1 Tryz.underlying107 Hi.out Hz0.out Hz1.out _ _ _ _ 0 rfl rfl rfl rfl HBy.out (by decide) (Nat.le_refl _) ?_;intro w6 hown6 hg6;have HB6:=Lib.hid (H0.out.trans (((Below.refl wa.heap.size wa).grown hg6 (Nat.le_refl _) (by simp)).mono H0.out.size));clear hown6 hg6))
  go_loopw [6] (fun i wr=>i=.int .i64 0/\Hid (Below w.heap.size w wr)) (fun _ _=>0)
  case atStart=>exact ⟨rfl,HB6⟩
  case round=>
   obtain ⟨rfl,H1⟩:=hrel
   go_wp2_with fail
   go_loopw [9] (fun i wr=>i=.int .i64 0/\Hid (Below w.heap.size w wr)) (fun _ _=>0)
   case atStart=>exact ⟨rfl,H1⟩
   case round=>
    obtain ⟨rfl,H2⟩:=hrel
    go_wp2_with fail
    go_loopw [11] (fun i wr=>i=.int .i64 0/\Hid (Below w.heap.size w wr)) (fun _ _=>0)
    case atStart=>exact ⟨rfl,H2⟩
    case round=>
     obtain ⟨rfl,H3⟩:=hrel
     go_wp2_with fail
     go_loopw [14] (fun i wr=>i=.int .i64 0/\Hid (Below w.heap.size w wr)) (fun _ _=>0)
     case atStart=>exact ⟨rfl,H3⟩
     case round=>
      obtain ⟨rfl,H4⟩:=hrel
      go_wp2_with fail
      go_ret
      exact ⟨rfl,H4.out⟩

theorem info36a:(Tryz.prog.info? 212).map (fun i=>(i.zero,i.size,i.bytes))=some (some (.slice none 0 0),1,24):=by kernel_rfl
theorem flat57_none (w:World):Calls Tryz.prog 110 #[.slice none 0 0] w fun r w'=>r=.returned (.bool true)/\Below w.heap.size w w':=by
 obtain ⟨i0,hi,hz0,hz1,hz2⟩:=info_parts info36a
 have Hi:=Lib.hid hi;have Hz0:=Lib.hid hz0;have Hz1:=Lib.hid hz1;have HBy:Hid (i0.bytes * 0<=281474976710656):=by unfold Hid;omega
 clear hi hz0 hz1 hz2
 go_enter Tryz.func110,Tryz.ntmps110
 go_wp2_with fail
 go_loopw [3] (fun i wr=>i=.int .i64 0/\Hid (Below w.heap.size w wr)) (fun _ _=>0)
 case atStart=>exact ⟨rfl,Below.refl _ _⟩
 case round=>
  obtain ⟨rfl,H0⟩:=hrel
  obtain ⟨wa,rfl⟩:∃ wa:World,wa=wr:=⟨_,rfl⟩
  go_wp2_with (first | (at_make;refine wpList_make_full _ rfl _ _ 126 rfl wa.heap.size 212 i0 _ 1 Tryz.underlying126 Hi.out Hz0.out Hz1.out _ _ _ _ 0 rfl rfl rfl rfl HBy.out (by decide) (Nat.le_refl _) ?_;intro w6 hown6 hg6;have HB6:=Lib.hid (H0.out.trans (((Below.refl wa.heap.size wa).grown hg6 (Nat.le_refl _) (by simp)).mono H0.out.size));clear hown6 hg6))
  go_loopw [6] (fun i wr=>i=.int .i64 0/\Hid (Below w.heap.size w wr)) (fun _ _=>0)
  case atStart=>exact ⟨rfl,HB6⟩
  case round=>
   obtain ⟨rfl,H1⟩:=hrel
   go_wp2_with fail
   go_loopw [9] (fun i wr=>i=.int .i64 0/\Hid (Below w.heap.size w wr)) (fun _ _=>0)
   case atStart=>exact ⟨rfl,H1⟩
   case round=>
    obtain ⟨rfl,H2⟩:=hrel
    go_wp2_with fail
    go_loopw [11] (fun i wr=>i=.int .i64 0/\Hid (Below w.heap.size w wr)) (fun _ _=>0)
    case atStart=>exact ⟨rfl,H2⟩
    case round=>
     obtain ⟨rfl,H3⟩:=hrel
     go_wp2_with fail
     go_loopw [14] (fun i wr=>i=.int .i64 0/\Hid (Below w.heap.size w wr)) (fun _ _=>0)
     case atStart=>exact ⟨rfl,H3⟩
     case round=>
      obtain ⟨rfl,H4⟩:=hrel
      go_wp2_with fail
      go_ret
      exact ⟨rfl,H4.out⟩

theorem info152:(Tryz.prog.info? 23).map (fun i=>(i.zero,i.size,i.bytes))=some (some (.slice none 0 0),1,24):=by kernel_rfl
theorem flat58_none (w:World):Calls Tryz.prog 111 #[.slice none 0 0] w fun r w'=>r=.returned (.bool true)/\Below w.heap.size w w':=by
 obtain ⟨i0,hi,hz0,hz1,hz2⟩:=info_parts info152
 have Hi:=Lib.hid hi;have Hz0:=Lib.hid hz0;have Hz1:=Lib.hid hz1;have HBy:Hid (i0.bytes * 0<=281474976710656):=by unfold Hid;omega
 clear hi hz0 hz1 hz2
 go_enter Tryz.func111,Tryz.ntmps111
 go_wp2_with fail
 go_loopw [3] (fun i wr=>i=.int .i64 0/\Hid (Below w.heap.size w wr)) (fun _ _=>0)
 case atStart=>exact ⟨rfl,Below.refl _ _⟩
 case round=>
  obtain ⟨rfl,H0⟩:=hrel
  obtain ⟨wa,rfl⟩:∃ wa:World,wa=wr:=⟨_,rfl⟩
  go_wp2_with (first | (at_make;refine wpList_make_full _ rfl _ _ 96 rfl wa.heap.size 23 i0 _ 1 Tryz.underlying96 Hi.out Hz0.out Hz1.out _ _ _ _ 0 rfl rfl rfl rfl HBy.out (by decide) (Nat.le_refl _) ?_;intro w6 hown6 hg6;have HB6:=Lib.hid (H0.out.trans (((Below.refl wa.heap.size wa).grown hg6 (Nat.le_refl _) (by simp)).mono H0.out.size));clear hown6 hg6))
  go_loopw [6] (fun i wr=>i=.int .i64 0/\Hid (Below w.heap.size w wr)) (fun _ _=>0)
  case atStart=>exact ⟨rfl,HB6⟩
  case round=>
   obtain ⟨rfl,H1⟩:=hrel
   go_wp2_with fail
   go_loopw [9] (fun i wr=>i=.int .i64 0/\Hid (Below w.heap.size w wr)) (fun _ _=>0)
   case atStart=>exact ⟨rfl,H1⟩
   case round=>
    obtain ⟨rfl,H2⟩:=hrel
    go_wp2_with fail
    go_loopw [11] (fun i wr=>i=.int .i64 0/\Hid (Below w.heap.size w wr)) (fun _ _=>0)
    case atStart=>exact ⟨rfl,H2⟩
    case round=>
     obtain ⟨rfl,H3⟩:=hrel
     go_wp2_with fail
     go_loopw [14] (fun i wr=>i=.int .i64 0/\Hid (Below w.heap.size w wr)) (fun _ _=>0)
     case atStart=>exact ⟨rfl,H3⟩
     case round=>
      obtain ⟨rfl,H4⟩:=hrel
      go_wp2_with fail
      go_ret
      exact ⟨rfl,H4.out⟩

theorem info158:(Tryz.prog.info? 22).map (fun i=>(i.zero,i.size,i.bytes))=some (some (.slice none 0 0),1,24):=by kernel_rfl
theorem flat59_none (w:World):Calls Tryz.prog 112 #[.slice none 0 0] w fun r w'=>r=.returned (.bool true)/\Below w.heap.size w w':=by
 obtain ⟨i0,hi,hz0,hz1,hz2⟩:=info_parts info158
 have Hi:=Lib.hid hi;have Hz0:=Lib.hid hz0;have Hz1:=Lib.hid hz1;have HBy:Hid (i0.bytes * 0<=281474976710656):=by unfold Hid;omega
 clear hi hz0 hz1 hz2
 go_enter Tryz.func112,Tryz.ntmps112
 go_wp2_with fail
 go_loopw [3] (fun i wr=>i=.int .i64 0/\Hid (Below w.heap.size w wr)) (fun _ _=>0)
 case atStart=>exact ⟨rfl,Below.refl _ _⟩
 case round=>
  obtain ⟨rfl,H0⟩:=hrel
  obtain ⟨wa,rfl⟩:∃ wa:World,wa=wr:=⟨_,rfl⟩
  go_wp2_with (first | (at_make;refine wpList_make_full _ rfl _ _ 127 rfl wa.heap.size 22 i0 _ 1 Tryz.underlying127 Hi.out Hz0.out Hz1.out _ _ _ _ 0 rfl rfl rfl rfl HBy.out (by decide) (Nat.le_refl _) ?_;intro w6 hown6 hg6;have HB6:=Lib.hid (H0.out.trans (((Below.refl wa.heap.size wa).grown hg6 (Nat.le_refl _) (by simp)).mono H0.out.size));clear hown6 hg6))
  go_loopw [6] (fun i wr=>i=.int .i64 0/\Hid (Below w.heap.size w wr)) (fun _ _=>0)
  case atStart=>exact ⟨rfl,HB6⟩
  case round=>
   obtain ⟨rfl,H1⟩:=hrel
   go_wp2_with fail
   go_loopw [9] (fun i wr=>i=.int .i64 0/\Hid (Below w.heap.size w wr)) (fun _ _=>0)
   case atStart=>exact ⟨rfl,H1⟩
   case round=>
    obtain ⟨rfl,H2⟩:=hrel
    go_wp2_with fail
    go_loopw [11] (fun i wr=>i=.int .i64 0/\Hid (Below w.heap.size w wr)) (fun _ _=>0)
    case atStart=>exact ⟨rfl,H2⟩
    case round=>
     obtain ⟨rfl,H3⟩:=hrel
     go_wp2_with fail
     go_loopw [14] (fun i wr=>i=.int .i64 0/\Hid (Below w.heap.size w wr)) (fun _ _=>0)
     case atStart=>exact ⟨rfl,H3⟩
     case round=>
      obtain ⟨rfl,H4⟩:=hrel
      go_wp2_with fail
      go_ret
      exact ⟨rfl,H4.out⟩

theorem info162:(Tryz.prog.info? 218).map (fun i=>(i.zero,i.size,i.bytes))=some (some (.slice none 0 0),1,24):=by kernel_rfl
theorem flat60_none (w:World):Calls Tryz.prog 113 #[.slice none 0 0] w fun r w'=>r=.returned (.bool true)/\Below w.heap.size w w':=by
 obtain ⟨i0,hi,hz0,hz1,hz2⟩:=info_parts info162
 have Hi:=Lib.hid hi;have Hz0:=Lib.hid hz0;have Hz1:=Lib.hid hz1;have HBy:Hid (i0.bytes * 0<=281474976710656):=by unfold Hid;omega
 clear hi hz0 hz1 hz2
 go_enter Tryz.func113,Tryz.ntmps113
 go_wp2_with fail
 go_loopw [3] (fun i wr=>i=.int .i64 0/\Hid (Below w.heap.size w wr)) (fun _ _=>0)
 case atStart=>exact ⟨rfl,Below.refl _ _⟩
 case round=>
  obtain ⟨rfl,H0⟩:=hrel
  obtain ⟨wa,rfl⟩:∃ wa:World,wa=wr:=⟨_,rfl⟩
  go_wp2_with (first | (at_make;refine wpList_make_full _ rfl _ _ 128 rfl wa.heap.size 218 i0 _ 1 Tryz.underlying128 Hi.out Hz0.out Hz1.out _ _ _ _ 0 rfl rfl rfl rfl HBy.out (by decide) (Nat.le_refl _) ?_;intro w6 hown6 hg6;have HB6:=Lib.hid (H0.out.trans (((Below.refl wa.heap.size wa).grown hg6 (Nat.le_refl _) (by simp)).mono H0.out.size));clear hown6 hg6))
  go_loopw [6] (fun i wr=>i=.int .i64 0/\Hid (Below w.heap.size w wr)) (fun _ _=>0)
  case atStart=>exact ⟨rfl,HB6⟩
  case round=>
   obtain ⟨rfl,H1⟩:=hrel
   go_wp2_with fail
   go_loopw [9] (fun i wr=>i=.int .i64 0/\Hid (Below w.heap.size w wr)) (fun _ _=>0)
   case atStart=>exact ⟨rfl,H1⟩
   case round=>
    obtain ⟨rfl,H2⟩:=hrel
    go_wp2_with fail
    go_loopw [11] (fun i wr=>i=.int .i64 0/\Hid (Below w.heap.size w wr)) (fun _ _=>0)
    case atStart=>exact ⟨rfl,H2⟩
    case round=>
     obtain ⟨rfl,H3⟩:=hrel
     go_wp2_with fail
     go_loopw [14] (fun i wr=>i=.int .i64 0/\Hid (Below w.heap.size w wr)) (fun _ _=>0)
     case atStart=>exact ⟨rfl,H3⟩
     case round=>
      obtain ⟨rfl,H4⟩:=hrel
      go_wp2_with fail
      go_ret
      exact ⟨rfl,H4.out⟩

theorem info164:(Tryz.prog.info? 67).map (fun i=>(i.zero,i.size,i.bytes))=some (some (.slice none 0 0),1,24):=by kernel_rfl
theorem flat61_none (w:World):Calls Tryz.prog 114 #[.slice none 0 0] w fun r w'=>r=.returned (.bool true)/\Below w.heap.size w w':=by
 obtain ⟨i0,hi,hz0,hz1,hz2⟩:=info_parts info164
 have Hi:=Lib.hid hi;have Hz0:=Lib.hid hz0;have Hz1:=Lib.hid hz1;have HBy:Hid (i0.bytes * 0<=281474976710656):=by unfold Hid;omega
 clear hi hz0 hz1 hz2
 go_enter Tryz.func114,Tryz.ntmps114
 go_wp2_with fail
 go_loopw [3] (fun i wr=>i=.int .i64 0/\Hid (Below w.heap.size w wr)) (fun _ _=>0)
 case atStart=>exact ⟨rfl,Below.refl _ _⟩
 case round=>
  obtain ⟨rfl,H0⟩:=hrel
  obtain ⟨wa,rfl⟩:∃ wa:World,wa=wr:=⟨_,rfl⟩
  go_wp2_with (first | (at_make;refine wpList_make_full _ rfl _ _ 68 rfl wa.heap.size 67 i0 _ 1 Tryz.underlying68 Hi.out Hz0.out Hz1.out _ _ _ _ 0 rfl rfl rfl rfl HBy.out (by decide) (Nat.le_refl _) ?_;intro w6 hown6 hg6;have HB6:=Lib.hid (H0.out.trans (((Below.refl wa.heap.size wa).grown hg6 (Nat.le_refl _) (by simp)).mono H0.out.size));clear hown6 hg6))
  go_loopw [6] (fun i wr=>i=.int .i64 0/\Hid (Below w.heap.size w wr)) (fun _ _=>0)
  case atStart=>exact ⟨rfl,HB6⟩
  case round=>
   obtain ⟨rfl,H1⟩:=hrel
   go_wp2_with fail
   go_loopw [9] (fun i wr=>i=.int .i64 0/\Hid (Below w.heap.size w wr)) (fun _ _=>0)
   case atStart=>exact ⟨rfl,H1⟩
   case round=>
    obtain ⟨rfl,H2⟩:=hrel
    go_wp2_with fail
    go_loopw [11] (fun i wr=>i=.int .i64 0/\Hid (Below w.heap.size w wr)) (fun _ _=>0)
    case atStart=>exact ⟨rfl,H2⟩
    case round=>
     obtain ⟨rfl,H3⟩:=hrel
     go_wp2_with fail
     go_loopw [14] (fun i wr=>i=.int .i64 0/\Hid (Below w.heap.size w wr)) (fun _ _=>0)
     case atStart=>exact ⟨rfl,H3⟩
     case round=>
      obtain ⟨rfl,H4⟩:=hrel
      go_wp2_with fail
      go_ret
      exact ⟨rfl,H4.out⟩

theorem info169:(Tryz.prog.info? 221).map (fun i=>(i.zero,i.size,i.bytes))=some (some (.slice none 0 0),1,24):=by kernel_rfl
theorem flat62_none (w:World):Calls Tryz.prog 115 #[.slice none 0 0] w fun r w'=>r=.returned (.bool true)/\Below w.heap.size w w':=by
 obtain ⟨i0,hi,hz0,hz1,hz2⟩:=info_parts info169
 have Hi:=Lib.hid hi;have Hz0:=Lib.hid hz0;have Hz1:=Lib.hid hz1;have HBy:Hid (i0.bytes * 0<=281474976710656):=by unfold Hid;omega
 clear hi hz0 hz1 hz2
 go_enter Tryz.func115,Tryz.ntmps115
 go_wp2_with fail
 go_loopw [3] (fun i wr=>i=.int .i64 0/\Hid (Below w.heap.size w wr)) (fun _ _=>0)
 case atStart=>exact ⟨rfl,Below.refl _ _⟩
 case round=>
  obtain ⟨rfl,H0⟩:=hrel
  obtain ⟨wa,rfl⟩:∃ wa:World,wa=wr:=⟨_,rfl⟩
  go_wp2_with (first | (at_make;refine wpList_make_full _ rfl _ _ 129 rfl wa.heap.size 221 i0 _ 1 Tryz.underlying129 Hi.out Hz0.out Hz1.out _ _ _ _ 0 rfl rfl rfl rfl HBy.out (by decide) (Nat.le_refl _) ?_;intro w6 hown6 hg6;have HB6:=Lib.hid (H0.out.trans (((Below.refl wa.heap.size wa).grown hg6 (Nat.le_refl _) (by simp)).mono H0.out.size));clear hown6 hg6))
  go_loopw [6] (fun i wr=>i=.int .i64 0/\Hid (Below w.heap.size w wr)) (fun _ _=>0)
  case atStart=>exact ⟨rfl,HB6⟩
  case round=>
   obtain ⟨rfl,H1⟩:=hrel
   go_wp2_with fail
   go_loopw [9] (fun i wr=>i=.int .i64 0/\Hid (Below w.heap.size w wr)) (fun _ _=>0)
   case atStart=>exact ⟨rfl,H1⟩
   case round=>
    obtain ⟨rfl,H2⟩:=hrel
    go_wp2_with fail
    go_loopw [11] (fun i wr=>i=.int .i64 0/\Hid (Below w.heap.size w wr)) (fun _ _=>0)
    case atStart=>exact ⟨rfl,H2⟩
    case round=>
     obtain ⟨rfl,H3⟩:=hrel
     go_wp2_with fail
     go_loopw [14] (fun i wr=>i=.int .i64 0/\Hid (Below w.heap.size w wr)) (fun _ _=>0)
     case atStart=>exact ⟨rfl,H3⟩
     case round=>
      obtain ⟨rfl,H4⟩:=hrel
      go_wp2_with fail
      go_ret
      exact ⟨rfl,H4.out⟩

theorem info174:(Tryz.prog.info? 226).map (fun i=>(i.zero,i.size,i.bytes))=some (some (.slice none 0 0),1,24):=by kernel_rfl
theorem flat63_none (w:World):Calls Tryz.prog 116 #[.slice none 0 0] w fun r w'=>r=.returned (.bool true)/\Below w.heap.size w w':=by
 obtain ⟨i0,hi,hz0,hz1,hz2⟩:=info_parts info174
 have Hi:=Lib.hid hi;have Hz0:=Lib.hid hz0;have Hz1:=Lib.hid hz1;have HBy:Hid (i0.bytes * 0<=281474976710656):=by unfold Hid;omega
 clear hi hz0 hz1 hz2
 go_enter Tryz.func116,Tryz.ntmps116
 go_wp2_with fail
 go_loopw [3] (fun i wr=>i=.int .i64 0/\Hid (Below w.heap.size w wr)) (fun _ _=>0)
 case atStart=>exact ⟨rfl,Below.refl _ _⟩
 case round=>
  obtain ⟨rfl,H0⟩:=hrel
  obtain ⟨wa,rfl⟩:∃ wa:World,wa=wr:=⟨_,rfl⟩
  go_wp2_with (first | (at_make;refine wpList_make_full _ rfl _ _ 130 rfl wa.heap.size 226 i0 _ 1 Tryz.underlying130 Hi.out Hz0.out Hz1.out _ _ _ _ 0 rfl rfl rfl rfl HBy.out (by decide) (Nat.le_refl _) ?_;intro w6 hown6 hg6;have HB6:=Lib.hid (H0.out.trans (((Below.refl wa.heap.size wa).grown hg6 (Nat.le_refl _) (by simp)).mono H0.out.size));clear hown6 hg6))
  go_loopw [6] (fun i wr=>i=.int .i64 0/\Hid (Below w.heap.size w wr)) (fun _ _=>0)
  case atStart=>exact ⟨rfl,HB6⟩
  case round=>
   obtain ⟨rfl,H1⟩:=hrel
   go_wp2_with fail
   go_loopw [9] (fun i wr=>i=.int .i64 0/\Hid (Below w.heap.size w wr)) (fun _ _=>0)
   case atStart=>exact ⟨rfl,H1⟩
   case round=>
    obtain ⟨rfl,H2⟩:=hrel
    go_wp2_with fail
    go_loopw [11] (fun i wr=>i=.int .i64 0/\Hid (Below w.heap.size w wr)) (fun _ _=>0)
    case atStart=>exact ⟨rfl,H2⟩
    case round=>
     obtain ⟨rfl,H3⟩:=hrel
     go_wp2_with fail
     go_loopw [14] (fun i wr=>i=.int .i64 0/\Hid (Below w.heap.size w wr)) (fun _ _=>0)
     case atStart=>exact ⟨rfl,H3⟩
     case round=>
      obtain ⟨rfl,H4⟩:=hrel
      go_wp2_with fail
      go_ret
      exact ⟨rfl,H4.out⟩

end Go.Proofs.YtgjhepblpdnkcaaGreatDoor
