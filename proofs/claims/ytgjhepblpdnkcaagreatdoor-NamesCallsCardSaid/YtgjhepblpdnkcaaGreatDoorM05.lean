/- Walks and plain laws: V6 V7 We V8. -/
import Derived.Test.YtgjhepblpdnkcaaGreatDoorM04
import Derived.Test.YtgjhepblpdnkcaaGreatDoorM03
import Derived.Test.YtgjhepblpdnkcaaGreatDoorM01
import Derived.Test.YtgjhepblpdnkcaaGreatDoorM02
namespace Go.Proofs.YtgjhepblpdnkcaaGreatDoor
open Go.RowKit
set_option maxRecDepth 100000
set_option maxHeartbeats 4000000

theorem arr_none {l:List UInt8} (h:Lib.hasPrefix l [60,45]=false):arrR l=none:=by
 unfold arrR
 match l,h with
 | [],_=>rfl
 | [_],_=>rfl
 | c :: d :: t,h=>
  simp [Lib.hasPrefix] at h ⊢
  intro h1 h2
  rw [h1,h2] at h
  simp [List.isPrefixOf] at h
theorem arr_some {l:List UInt8} (h:Lib.hasPrefix l [60,45]=true):arrR l=some ⟨5,2,[60,45],0,[]⟩:=by
 unfold arrR
 match l,h with
 | [],h=>simp [Lib.hasPrefix] at h
 | [_],h=>simp [Lib.hasPrefix] at h
 | c :: d :: t,h=>
  simp [Lib.hasPrefix] at h ⊢
  simpa [eq_comm] using h
theorem arrow_any (s:ByteArray) (k g:Nat) (w:World) (hr:Rdr w g s k) (hs:s.size<=1000000) (hk:k<=s.size):
  Calls Tryz.prog 152 #[.pointer (some ⟨g,0,none⟩)] w fun e w'=>e=.returned (rdO (arrR (s.data.toList.drop k)) k)/\Below w.heap.size w w':=by
 have HRD:=Lib.hid hr
 have HS:=Lib.hid hs
 have HK:=Lib.hid hk
 clear hr hs hk
 go_enter Tryz.func152,Tryz.ntmps152
 go_wp2_with fail
 have HB:=Lib.hid ((Below.refl w.heap.size w).alloc (Nat.le_refl _) (.cells #[.int .i64 0,.int .i64 0,.int .i64 0,.string ⟨#[]⟩,.int .i64 0,.int .u64 0,.int .u64 0,.int .u64 0,.int .u64 0] 82))
 have HR:=Lib.hid (show hrow (w.alloc (.cells #[.int .i64 0,.int .i64 0,.int .i64 0,.string ⟨#[]⟩,.int .i64 0,.int .u64 0,.int .u64 0,.int .u64 0,.int .u64 0] 82)) w.heap.size wd0 82 from hrow.new _ _ _)
 replace HRD:=Lib.hid (Rdr.below HRD.out HB.out)
 revert HB HR HRD
 generalize w.alloc (.cells #[.int .i64 0,.int .i64 0,.int .i64 0,.string ⟨#[]⟩,.int .i64 0,.int .u64 0,.int .u64 0,.int .u64 0,.int .u64 0] 82)=wb
 intro HB HR HRD
 have HRN:Hid (∀ n,hrow (wb.drewN n) w.heap.size wd0 82):=Lib.hid (fun _=>HR.out)
 obtain ⟨c0,c1⟩:=hrow.c2 HRD.out
 go_wp2_with fail
 refine (left_any s k g _ HRD.out HK.out).mono ?_
 rintro e x ⟨rfl,hb⟩
 replace HR:=Lib.hid (HR.out.below hb)
 replace HRD:=Lib.hid (HRD.out.below hb)
 replace HB:=Lib.hid (HB.out.trans (hb.mono HB.out.size))
 clear hb HRN c0 c1
 obtain ⟨c0,c1⟩:=hrow.c2 HRD.out
 go_wp2_with fail
 refine (Tryz.strings_HasPrefix _ _ x).mono ?_
 rintro e x2 ⟨rfl,rfl⟩
 rw [tx_list]
 cases hp:Lib.hasPrefix (s.data.toList.drop k) (ByteArray.mk #[60,45]).data.toList with
 | false=>
  have HE:=Lib.hid (arr_none hp)
  clear hp
  go_wp2_with (with_reducible refine store_word rfl (.tmp 2) (.tmp 10) rfl w.heap.size _ _ _ _ _ _ _ _ _ rfl rfl HR.out ?_)
  refine bodyPost_ret (results_word rfl _ _ w.heap.size _ _ rfl rfl HR.out ?_) rfl ?_
  next=>rfl
  next=>first | exact ⟨rfl,below_setRow HB.out (Nat.le_refl _) _⟩ | exact ⟨by rw [HE.out];rfl,below_setRow HB.out (Nat.le_refl _) _⟩
 | true=>
  have HE:=Lib.hid (arr_some hp)
  clear hp
  go_wp2_with fail
  refine (word_any 5 0 0 0 0 0 0 0 2 ⟨#[60,45]⟩ s k g _ HRD.out (by have:=HS.out;have:=HK.out;omega) (by omega) (by omega)).mono ?_
  rintro e wx ⟨rfl,hb⟩
  have HRX:=Lib.hid (HR.out.below hb)
  have HBX:=Lib.hid (HB.out.trans (hb.mono HB.out.size))
  clear hb
  go_wp2_with (with_reducible refine store_word rfl (.tmp 2) (.tmp 14) rfl w.heap.size _ _ _ _ _ _ _ _ _ rfl rfl HRX.out ?_)
  refine bodyPost_ret (results_word rfl _ _ w.heap.size _ _ rfl rfl HRX.out ?_) rfl ?_
  next=>rfl
  next=>first | exact ⟨rfl,below_setRow HBX.out (Nat.le_refl _) _⟩ | exact ⟨by rw [HE.out];rfl,below_setRow HBX.out (Nat.le_refl _) _⟩
theorem to_run {P:Program} (t:TypeId) (ht:P.underlying t=some .string) (l:List UInt8) (k:Nat) (a:Int) (ha:a=k) (h:k<=l.length) (wx:World):
  (Instr.slice t (.string (tx l)) none (some (.int .i64 a)) none).run P wx=.ok (.string (tx (l.take k))) wx:=by
 subst ha
 have:=run_slice_string_to_if (P:=P) wx t (tx l) .i64 k ht
 rw [this,if_pos (by rw [tx_size];omega)]
 rw [Int.toNat_natCast]
 congr 2
 apply ByteArray.ext
 rw [ByteArray.data_extract]
 unfold tx
 apply Array.toList_inj.1
 simp
def sgB:ByteArray:=⟨#[47,40,41,46,59,42,43,63,33,38]⟩
theorem sg_ix (c:UInt8):decide (Lib.indexByte sgB.data.toList c < 0)=!sgs.contains c:=u8_all (P:=fun c=>decide (Lib.indexByte sgB.data.toList c < 0)=!sgs.contains c) (by decide +kernel) c
theorem sign_any (s:ByteArray) (k g:Nat) (w:World) (hr:Rdr w g s k) (hs:s.size<=1000000) (hk:k < s.size):
  Calls Tryz.prog 153 #[.pointer (some ⟨g,0,none⟩)] w fun e w'=>e=.returned (rdO (sgnR (s.data.toList.drop k)) k)/\Below w.heap.size w w':=by
 have HRD:=Lib.hid hr
 have HS:=Lib.hid hs
 have hI:(k:Int) < s.size:=by omega
 have h0:(0:Int)<=k:=by omega
 have HK:=Lib.hid (Nat.le_of_lt hk)
 have HX:=Lib.hid (sg_ix s[k])
 have HD:=Lib.hid (drop_at hk)
 have HI:Hid (∀ x:World,Calls Tryz.prog 156 #[.string sgB,.int .u8 s[k].toNat] x fun e w'=>e=.returned (.int .i64 (Lib.indexByte sgB.data.toList s[k]))/\w'=x):=Lib.hid (fun x=>by
  have:=Tryz.strings_IndexByte sgB s[k].toNat x
  rwa [Int.toNat_natCast,show s[k].toNat.toUInt8=s[k] by simp] at this)
 clear hr hs
 go_enter Tryz.func153,Tryz.ntmps153
 go_wp2_with fail
 have HB:=Lib.hid ((Below.refl w.heap.size w).alloc (Nat.le_refl _) (.cells #[.int .i64 0,.int .i64 0,.int .i64 0,.string ⟨#[]⟩,.int .i64 0,.int .u64 0,.int .u64 0,.int .u64 0,.int .u64 0] 82))
 have HR:=Lib.hid (show hrow (w.alloc (.cells #[.int .i64 0,.int .i64 0,.int .i64 0,.string ⟨#[]⟩,.int .i64 0,.int .u64 0,.int .u64 0,.int .u64 0,.int .u64 0] 82)) w.heap.size wd0 82 from hrow.new _ _ _)
 replace HRD:=Lib.hid (Rdr.below HRD.out HB.out)
 revert HB HR HRD
 generalize w.alloc (.cells #[.int .i64 0,.int .i64 0,.int .i64 0,.string ⟨#[]⟩,.int .i64 0,.int .u64 0,.int .u64 0,.int .u64 0,.int .u64 0] 82)=wb
 intro HB HR HRD
 have HRN:Hid (∀ n,hrow (wb.drewN n) w.heap.size wd0 82):=Lib.hid (fun _=>HR.out)
 obtain ⟨c0,c1⟩:=hrow.c2 HRD.out
 go_quiet ((go_at_call 156;exact Calls.quiet_of_same (HI.out _)))
 by_cases hlt:Lib.indexByte sgB.data.toList s[k] < 0
 ·have HE:Hid (sgnR (s.data.toList.drop k)=none):=by
   have:=HX.out
   rw [decide_eq_true hlt] at this
   unfold Hid sgnR
   rw [HD.out]
   simp only [] at this ⊢
   rw [if_neg (by simpa using this)]
  clear HD HI HX c0 c1
  go_wp2_with (with_reducible refine store_word rfl (.tmp 2) (.tmp 17) rfl w.heap.size _ _ _ _ _ _ _ _ _ rfl rfl (HRN.out _) ?_)
  refine bodyPost_ret (results_word rfl _ _ w.heap.size _ _ rfl rfl (HRN.out _) ?_) rfl ?_
  next=>rfl
  next=>first | exact ⟨rfl,below_setRow (belowN HB.out _) (Nat.le_refl _) _⟩ | exact ⟨by rw [HE.out];rfl,below_setRow (belowN HB.out _) (Nat.le_refl _) _⟩
 ·have HE:Hid (sgnR (s.data.toList.drop k)=some ⟨5,1,[s[k]],0,[]⟩):=by
   have:=HX.out
   rw [decide_eq_false hlt] at this
   unfold Hid sgnR
   rw [HD.out]
   simp only [] at this ⊢
   rw [if_pos (by simpa using this)]
  have hsl:∀ wx,(Instr.slice 9 (.string (tx (s.data.toList.drop k))) none (some (.int .i64 1)) none).run Tryz.prog wx=.ok (.string (tx [s[k]])) wx:=fun wx=>by
   rw [HD.out]
   exact to_run 9 Tryz.underlying9 _ 1 1 rfl (by simp) wx
  clear HD HI HX c0 c1
  go_wp2_with fail
  refine (left_any s k g _ (HRD.out.below (belowN (Below.refl _ _) _)) HK.out).mono ?_
  rintro e x ⟨rfl,hb⟩
  replace HR:=Lib.hid ((HRN.out _).below hb)
  replace HRD:=Lib.hid (Rdr.below (HRD.out.below (belowN (Below.refl _ _) _)) hb)
  replace HB:=Lib.hid ((belowN HB.out _).trans (hb.mono HB.out.size))
  clear hb HRN
  go_wp2_with fail
  refine (word_any 5 0 0 0 0 0 0 0 1 (tx [s[k]]) s k g _ HRD.out (by have:=HS.out;have:=HK.out;omega) (by omega) (by omega)).mono ?_
  rintro e wx ⟨rfl,hb⟩
  have HRX:=Lib.hid (HR.out.below hb)
  have HBX:=Lib.hid (HB.out.trans (hb.mono HB.out.size))
  clear hb
  go_wp2_with (with_reducible refine store_word rfl (.tmp 2) (.tmp 26) rfl w.heap.size _ _ _ _ _ _ _ _ _ rfl rfl HRX.out ?_)
  refine bodyPost_ret (results_word rfl _ _ w.heap.size _ _ rfl rfl HRX.out ?_) rfl ?_
  next=>rfl
  next=>first | exact ⟨rfl,below_setRow HBX.out (Nat.le_refl _) _⟩ | exact ⟨by rw [HE.out];rfl,below_setRow HBX.out (Nat.le_refl _) _⟩
end Go.Proofs.YtgjhepblpdnkcaaGreatDoor
namespace Go.Proofs.YtgjhepblpdnkcaaGreatDoor
open Go.RowKit
set_option maxRecDepth 100000
set_option maxHeartbeats 4000000

theorem take_tw {p:UInt8->Bool}:∀ l:List UInt8,l.take (l.takeWhile p).length=l.takeWhile p
 | []=>rfl
 | c :: l=>by
  rw [List.takeWhile_cons]
  split
  ·rw [List.length_cons,List.take_succ_cons,take_tw l]
  ·rfl
theorem tw_len (p:UInt8->Bool) (l:List UInt8):(l.takeWhile p).length<=l.length:=by
 have:=List.takeWhile_prefix p (l:=l)
 exact this.length_le
theorem tw_all (p:UInt8->Bool) (l:List UInt8):∀ c ∈ l.takeWhile p,p c=true:=fun c hc=>by
 have:=List.all_takeWhile (p:=p) (l:=l)
 exact List.all_eq_true.1 this c hc
/-- What a name is, by what the program measures. -/
theorem nameW_is (l V:List UInt8) (n m:Nat) (hn:(l.takeWhile isLD).length=n) (hV:Lib.trimPrefix (l.drop n) [58]=V) (hm:(V.takeWhile isDg).length=m):
  (m=0->nameW l=⟨2,n,l.take n,-1,[]⟩)/\(0 < m->l.drop n=58 :: V/\nameW l=⟨2,n+1+m,l.take n,lvl (V.take m),[]⟩):=by
 have hd:l.dropWhile isLD=l.drop n:=by rw [← hn];exact drop_tw l
 have ht:l.take n=l.takeWhile isLD:=by rw [← hn];exact take_tw l
 have hdm:V.take m=V.takeWhile isDg:=by rw [← hm];exact take_tw V
 rw [ht,hdm]
 unfold nameW
 rw [hd,hn]
 have hh:∀ c u,l.drop n=c :: u->isLD c=false:=fun c u h=>drop_head (hd.trans h)
 generalize l.drop n=U at *
 match U,hV with
 | [],hV=>
  have:V=[]:=by rw [← hV];rfl
  subst this
  have:m=0:=by rw [← hm];rfl
  subst this
  exact ⟨fun _=>rfl,fun h=>absurd h (by omega)⟩
 | c :: u,hV=>
  by_cases hc:c=58
  ·subst hc
   have:V=u:=by rw [← hV];simp [Lib.trimPrefix,pre1]
   subst this
   match V,hm with
   | [],hm=>
    have:m=0:=by rw [← hm];rfl
    subst this
    exact ⟨fun _=>rfl,fun h=>absurd h (by omega)⟩
   | d :: t,hm=>
    rw [List.takeWhile_cons] at hm
    by_cases hg:isDg d=true
    ·rw [if_pos hg] at hm
     refine ⟨fun h=>by subst h;simp at hm,fun _=>⟨rfl,?_⟩⟩
     simp only [hg,beq_self_eq_true,Bool.and_self,if_true]
     rw [show ((d :: t).takeWhile isDg).length=m by rw [List.takeWhile_cons,if_pos hg];exact hm]
    ·rw [if_neg hg] at hm
     refine ⟨fun _=>?_,fun h=>by rw [← hm] at h;simp at h⟩
     simp [hg]
  ·have hVV:V=c :: u:=by rw [← hV];simp [Lib.trimPrefix,pre1,Ne.symm hc]
   subst hVV
   have hg:isDg c=false:=by have:=hh c u rfl;unfold isLD at this;simp at this;exact this.2
   have:m=0:=by rw [← hm,List.takeWhile_cons,hg];rfl
   subst this
   refine ⟨fun _=>?_,fun h=>absurd h (by omega)⟩
   cases u with
   | nil=>rfl
   | cons d t=>simp [hc]
theorem trim_len (l p:List UInt8):(Lib.trimPrefix l p).length<=l.length:=by
 unfold Lib.trimPrefix
 split
 ·rw [List.length_drop];omega
 ·exact Nat.le_refl _
def nmR (l:List UInt8):Option Wr:=if (l.takeWhile isLt).length=0 then none else some (nameW l)
theorem ba_loop (bs:ByteArray):∀ (n i:Nat) (r:List UInt8),bs.size - i=n->ByteArray.toList.loop bs i r=r.reverse ++ bs.data.toList.drop i
 | 0,i,r,h=>by
  unfold ByteArray.toList.loop
  rw [if_neg (by omega),List.drop_eq_nil_of_le (by rw [ba_len];omega),List.append_nil]
 | n+1,i,r,h=>by
  have hi:i < bs.size:=by omega
  unfold ByteArray.toList.loop
  rw [if_pos hi,ba_loop bs n (i+1) _ (by omega),drop_at hi,List.reverse_cons,List.append_assoc]
  congr 2
  show [bs.data[i]!] ++ _=bs[i] :: _
  rw [getElem!_pos bs.data i hi];rfl
theorem ba_toList (bs:ByteArray):bs.toList=bs.data.toList:=by
 unfold ByteArray.toList
 rw [ba_loop bs _ 0 [] rfl];rfl
theorem hrow.setCell {w:World} {g:Nat} {cs:Array Value} {t:TypeId} (h:hrow w g cs t) (o:Nat) (v:Value):hrow (w.setCell ⟨g,o,none⟩ v) g (cs.setIfInBounds o v) t:=heap_setCell_same _ _ _ _ _ _ h.h
/-- The load of a word. -/
theorem load_word {ops:Array Oper} {rest:List Oper} {o:Oper} {a:Act} {w:World} {Q:Exit->Act->World->Prop} (hgd:o.guard=none) (x:Operand) (ho:o.op=.load 82 x)
    (g:Nat) (hx:a.eval x=.pointer (some ⟨g,0,none⟩)) (kind at_ nx:Int) (t:ByteArray) (lv c0 c1 c2 c3:Int)
    (hg:hrow w g #[.int .i64 kind,.int .i64 at_,.int .i64 nx,.string t,.int .i64 lv,.int .u64 c0,.int .u64 c1,.int .u64 c2,.int .u64 c3] 82)
    (h:wpList Tryz.prog ops Q rest (a.put o.dst (.agg #[.int .i64 kind,.int .i64 at_,.int .i64 nx,.string t,.int .i64 lv,.int .u64 c0,.int .u64 c1,.int .u64 c2,.int .u64 c3])) w):wpList Tryz.prog ops Q (o :: rest) a w:=
  wpList_load_row hgd _ x ho g hx _ _ _ _ hg.h Tryz.underlying82 rfl (wd_sz rfl) h
theorem name_any (s:ByteArray) (k g:Nat) (w:World) (hr:Rdr w g s k) (hs:s.size<=1000000) (hk:k<=s.size):
  Calls Tryz.prog 149 #[.pointer (some ⟨g,0,none⟩)] w fun e w'=>e=.returned (rdO (nmR (s.data.toList.drop k)) k)/\Below w.heap.size w w':=by
 have HRD:=Lib.hid hr
 have HS:=Lib.hid hs
 have HK:=Lib.hid hk
 have HLF:=Lib.hid (fun (x:World) (h:Rdr x g s k)=>left_any s k g x h hk)
 have HLL:Hid ((s.data.toList.drop k).length+k=s.size):=by unfold Hid;rw [List.length_drop,ba_len];omega
 clear hr hs hk
 generalize s.data.toList.drop k=L at *
 have hLs:(tx L).size<=1000000:=by rw [tx_size];have:=HLL.out;have:=HS.out;omega
 have HLS:=Lib.hid hLs;clear hLs
 by_cases h0:(L.takeWhile isLt).length=0
 ·have HE:Hid (nmR L=none):=by unfold Hid nmR;rw [if_pos h0]
  have hz:((L.takeWhile isLt).length:Int)=0:=by omega
  clear h0
  go_enter Tryz.func149,Tryz.ntmps149
  go_wp2_with fail
  have HB:=Lib.hid ((Below.refl w.heap.size w).alloc (Nat.le_refl _) (.cells #[.int .i64 0,.int .i64 0,.int .i64 0,.string ⟨#[]⟩,.int .i64 0,.int .u64 0,.int .u64 0,.int .u64 0,.int .u64 0] 82))
  have HR:=Lib.hid (show hrow (w.alloc (.cells #[.int .i64 0,.int .i64 0,.int .i64 0,.string ⟨#[]⟩,.int .i64 0,.int .u64 0,.int .u64 0,.int .u64 0,.int .u64 0] 82)) w.heap.size wd0 82 from hrow.new _ _ _)
  replace HRD:=Lib.hid (Rdr.below HRD.out HB.out)
  revert HB HR HRD
  generalize w.alloc (.cells #[.int .i64 0,.int .i64 0,.int .i64 0,.string ⟨#[]⟩,.int .i64 0,.int .u64 0,.int .u64 0,.int .u64 0,.int .u64 0] 82)=wb
  intro HB HR HRD
  have HRN:Hid (∀ n,hrow (wb.drewN n) w.heap.size wd0 82):=Lib.hid (fun _=>HR.out)
  clear HRN
  go_wp2_with fail
  refine (HLF.out _ HRD.out).mono ?_
  rintro e x ⟨rfl,hb⟩
  replace HR:=Lib.hid (HR.out.below hb)
  replace HRD:=Lib.hid (Rdr.below HRD.out hb)
  replace HB:=Lib.hid (HB.out.trans (hb.mono HB.out.size))
  clear hb
  go_wp2_with fail
  refine (span_lt (tx L) _ HLS.out).mono ?_
  rintro e x ⟨rfl,hb⟩
  replace HR:=Lib.hid (HR.out.below hb)
  replace HRD:=Lib.hid (Rdr.below HRD.out hb)
  replace HB:=Lib.hid (HB.out.trans (hb.mono HB.out.size))
  clear hb
  rw [tx_list,hz]
  clear hz
  go_wp2_with (with_reducible refine store_word rfl (.tmp 2) (.tmp 16) rfl w.heap.size _ _ _ _ _ _ _ _ _ rfl rfl HR.out ?_)
  refine bodyPost_ret (results_word rfl _ _ w.heap.size _ _ rfl rfl HR.out ?_) rfl ?_
  next=>rfl
  next=>first | exact ⟨rfl,below_setRow HB.out (Nat.le_refl _) _⟩ | exact ⟨by rw [HE.out];rfl,below_setRow HB.out (Nat.le_refl _) _⟩
 ·have HE:Hid (nmR L=some (nameW L)):=by unfold Hid nmR;rw [if_neg h0]
  have hz:((L.takeWhile isLt).length:Int) ≠ 0:=by omega
  generalize hzz:(L.takeWhile isLt).length=z at *
  have HZ:=Lib.hid hzz;clear hzz
  clear h0
  have hnL:=tw_len isLD L
  generalize hn:(L.takeWhile isLD).length=n at *
  have HNN:=Lib.hid hn;clear hn
  have HN:=Lib.hid (fun V=>nameW_is L V n)
  have hsl1:∀ wx,(Instr.slice 9 (.string (tx L)) none (some (.int .i64 n)) none).run Tryz.prog wx=.ok (.string (tx (L.take n))) wx:=to_run 9 Tryz.underlying9 L n n rfl hnL
  have hsl2:∀ wx,(Instr.slice 9 (.string (tx L)) (some (.int .i64 n)) none none).run Tryz.prog wx=.ok (.string (tx (L.drop n))) wx:=from_run 9 Tryz.underlying9 (tx L) n n rfl (by rw [tx_size];exact hnL)
  go_enter Tryz.func149,Tryz.ntmps149
  go_wp2_with fail
  have HB:=Lib.hid ((Below.refl w.heap.size w).alloc (Nat.le_refl _) (.cells #[.int .i64 0,.int .i64 0,.int .i64 0,.string ⟨#[]⟩,.int .i64 0,.int .u64 0,.int .u64 0,.int .u64 0,.int .u64 0] 82))
  have HR:=Lib.hid (show hrow (w.alloc (.cells #[.int .i64 0,.int .i64 0,.int .i64 0,.string ⟨#[]⟩,.int .i64 0,.int .u64 0,.int .u64 0,.int .u64 0,.int .u64 0] 82)) w.heap.size wd0 82 from hrow.new _ _ _)
  replace HRD:=Lib.hid (Rdr.below HRD.out HB.out)
  revert HB HR HRD
  generalize w.alloc (.cells #[.int .i64 0,.int .i64 0,.int .i64 0,.string ⟨#[]⟩,.int .i64 0,.int .u64 0,.int .u64 0,.int .u64 0,.int .u64 0] 82)=wb
  intro HB HR HRD
  have HRN:Hid (∀ n,hrow (wb.drewN n) w.heap.size wd0 82):=Lib.hid (fun _=>HR.out)
  clear HRN
  go_wp2_with fail
  refine (HLF.out _ HRD.out).mono ?_
  rintro e x ⟨rfl,hb⟩
  replace HR:=Lib.hid (HR.out.below hb)
  replace HRD:=Lib.hid (Rdr.below HRD.out hb)
  replace HB:=Lib.hid (HB.out.trans (hb.mono HB.out.size))
  clear hb
  go_wp2_with fail
  refine (span_lt (tx L) _ HLS.out).mono ?_
  rintro e x ⟨rfl,hb⟩
  replace HR:=Lib.hid (HR.out.below hb)
  replace HRD:=Lib.hid (Rdr.below HRD.out hb)
  replace HB:=Lib.hid (HB.out.trans (hb.mono HB.out.size))
  clear hb
  rw [tx_list,HZ.out]
  go_wp2_with fail
  refine (span_ld (tx L) _ HLS.out).mono ?_
  rintro e x ⟨rfl,hb⟩
  replace HR:=Lib.hid (HR.out.below hb)
  replace HRD:=Lib.hid (Rdr.below HRD.out hb)
  replace HB:=Lib.hid (HB.out.trans (hb.mono HB.out.size))
  clear hb
  rw [tx_list,HNN.out]
  have HNL:=Lib.hid hnL;clear hz hnL
  go_wp2_with fail
  have hb:=(Below.refl x.heap.size x).alloc (Nat.le_refl _) (.cells #[.int .i64 2,.int .i64 0,.int .i64 0,.string (tx (L.take n)),.int .i64 (-1),.int .u64 0,.int .u64 0,.int .u64 0,.int .u64 0] 82)
  have HW:=Lib.hid (hrow.new x #[.int .i64 2,.int .i64 0,.int .i64 0,.string (tx (L.take n)),.int .i64 (-1),.int .u64 0,.int .u64 0,.int .u64 0,.int .u64 0] 82)
  have HG6:=Lib.hid (HR.out.lt)
  have HG7:=Lib.hid (HRD.out.lt)
  replace HR:=Lib.hid (HR.out.below hb)
  replace HRD:=Lib.hid (Rdr.below HRD.out hb)
  replace HB:=Lib.hid (HB.out.trans (hb.mono HB.out.size))
  clear hb
  revert HB HR HRD HW
  generalize x.alloc _=y
  revert HG6 HG7
  generalize x.heap.size=g6
  intro HG6 HG7 HW HR HRD HB
  have HT:Calls Tryz.prog 176 #[.string (tx (L.drop n)),.string ⟨#[58]⟩] y fun e w'=>e=.returned (.string (tx (Lib.trimPrefix (L.drop n) [58])))/\w'=y:=Tryz.strings_TrimPrefix (tx (L.drop n)) _ y
  generalize hV:Lib.trimPrefix (L.drop n) [58]=V at HT
  refine HT.mono ?_
  rintro e y2 ⟨rfl,rfl⟩
  clear HT
  have HN:=Lib.hid (fun m=>HN.out V m HNN.out hV)
  have hVl:V.length<=L.length:=by rw [← hV];exact Nat.le_trans (trim_len _ _) (by rw [List.length_drop];omega)
  clear hV
  have HVS:Hid ((tx V).size<=1000000):=by have:=HLS.out;rw [tx_size] at this;unfold Hid;rw [tx_size];omega
  go_wp2_with fail
  refine (span_dg (tx V) _ HVS.out).mono ?_
  rintro e x ⟨rfl,hb⟩
  replace HW:=Lib.hid (HW.out.below hb)
  replace HR:=Lib.hid (HR.out.below hb)
  replace HRD:=Lib.hid (Rdr.below HRD.out hb)
  replace HB:=Lib.hid (HB.out.trans (hb.mono HB.out.size))
  clear hb
  rw [tx_list]
  have hmV:=tw_len isDg V
  have HMA:=Lib.hid (tw_all isDg V)
  have HMT:=Lib.hid (take_tw (p:=isDg) V)
  have HM:=Lib.hid (HN.out _ rfl);clear HN
  generalize (V.takeWhile isDg).length=m at *
  have HMB:Hid (n<=1000000/\V.length<=1000000/\m<=1000000):=by have h1:=HLS.out;have h2:=HNL.out;rw [tx_size] at h1;unfold Hid;omega
  by_cases hm0:m=0
  ·subst hm0
   have HE2:Hid (nmR L=some ⟨2,n,L.take n,-1,[]⟩):=by rw [HE.out,HM.out.1 rfl];rfl
   have HE:=HE2
   clear HE2 HM
   go_wp2_with (with_reducible refine load_word rfl (.tmp 6) rfl _ rfl _ _ _ _ _ _ _ _ _ HW.out ?_)
   refine (word_any 2 0 0 (-1) 0 0 0 0 n (tx (L.take n)) s k g _ HRD.out (by have:=HS.out;have:=HK.out;omega) (by omega) (by have:=HMB.out;omega)).mono ?_
   rintro e wx ⟨rfl,hb⟩
   have HRX:=Lib.hid (HR.out.below hb)
   have HBX:=Lib.hid (HB.out.trans (hb.mono HB.out.size))
   clear hb HR HRD HB HW
   go_wp2_with (with_reducible refine store_word rfl (.tmp 2) (.tmp 51) rfl w.heap.size _ _ _ _ _ _ _ _ _ rfl rfl HRX.out ?_)
   refine bodyPost_ret (results_word rfl _ _ w.heap.size _ _ rfl rfl HRX.out ?_) rfl ?_
   next=>rfl
   next=>first | exact ⟨rfl,below_setRow HBX.out (Nat.le_refl _) _⟩ | exact ⟨by rw [HE.out];rfl,below_setRow HBX.out (Nat.le_refl _) _⟩
  ·obtain ⟨hU,hNW⟩:=HM.out.2 (by omega)
   have HE2:Hid (nmR L=some ⟨2,n+(1+m),L.take n,lvl (V.take m),[]⟩):=by rw [HE.out,hNW,Nat.add_assoc];rfl
   have hm1:(0:Int) < m:=by omega
   rw [hU] at hsl2
   have hnb:((tx V).toList == (tx (58 :: V)).toList)=false:=by
    rw [ba_toList,ba_toList,tx_list,tx_list]
    exact beq_eq_false_iff_ne.2 fun h=>by have:=congrArg List.length h;simp at this
   have hsl3:∀ wx,(Instr.slice 9 (.string (tx V)) none (some (.int .i64 m)) none).run Tryz.prog wx=.ok (.string (tx (V.take m))) wx:=to_run 9 Tryz.underlying9 V m m rfl hmV
   have HE:=HE2
   have HMM:Hid (n+1+m<=1000000):=by have h1:=HLS.out;have h2:=congrArg List.length hU;rw [tx_size] at h1;rw [List.length_drop,List.length_cons] at h2;unfold Hid;omega
   clear HE2 HM hU hNW hmV hVl
   go_wp2_with fail
   refine (level_any (V.take m) (by rw [HMT.out];exact HMA.out) (by rw [List.length_take];have:=HMB.out;omega) x).mono ?_
   rintro e x ⟨rfl,hb⟩
   replace HW:=Lib.hid (HW.out.below hb)
   replace HR:=Lib.hid (HR.out.below hb)
   replace HRD:=Lib.hid (Rdr.below HRD.out hb)
   replace HB:=Lib.hid (HB.out.trans (hb.mono HB.out.size))
   clear hb
   have hM1:(m:Int)<=1000000:=by have:=HMM.out;omega
   have hM2:(n:Int)+(1+m)<=1000000:=by have:=HMM.out;omega
   have hM3:(0:Int)<=n+(1+m):=by omega
   generalize hlv:lvl (V.take m)=lv at *
   clear hlv
   obtain ⟨_,_,_,_,w4,_⟩:=HW.out.c9
   obtain ⟨_,_,_,_,f4,_⟩:=HW.out.f9
   have HWS:=Lib.hid (show hrow (x.setCell ⟨g6,4,none⟩ (.int .i64 lv)) g6 #[.int .i64 2,.int .i64 0,.int .i64 0,.string (tx (L.take n)),.int .i64 lv,.int .u64 0,.int .u64 0,.int .u64 0,.int .u64 0] 82 from HW.out.setCell 4 _)
   replace HR:=Lib.hid (HR.out.fr (Fr.setCell x ⟨g6,4,none⟩ (.int .i64 lv)) (by have:=HG6.out;simp;omega))
   replace HRD:=Lib.hid (HRD.out.fr (Fr.setCell x ⟨g6,4,none⟩ (.int .i64 lv)) (by have:=HG7.out;simp;omega))
   replace HB:=Lib.hid (HB.out.setCell (B:=w.heap.size) (p:=⟨g6,4,none⟩) (by have:=HG6.out;show w.heap.size<=g6;omega) (.int .i64 lv))
   go_wp2_with (with_reducible refine load_word rfl (.tmp 6) rfl _ rfl _ _ _ _ _ _ _ _ _ HWS.out ?_)
   refine (word_any 2 0 0 lv 0 0 0 0 (n+(1+m)) (tx (L.take n)) s k g _ HRD.out (by have:=HS.out;have:=HK.out;omega) (by omega) (by omega)).mono ?_
   rintro e wx ⟨rfl,hb⟩
   have HRX:=Lib.hid (HR.out.below hb)
   have HBX:=Lib.hid (HB.out.trans (hb.mono HB.out.size))
   clear hb HR HRD HB HW HWS w4 f4
   go_wp2_with (with_reducible refine store_word rfl (.tmp 2) (.tmp 51) rfl w.heap.size _ _ _ _ _ _ _ _ _ rfl rfl HRX.out ?_)
   refine bodyPost_ret (results_word rfl _ _ w.heap.size _ _ rfl rfl HRX.out ?_) rfl ?_
   next=>rfl
   next=>first | exact ⟨rfl,below_setRow HBX.out (Nat.le_refl _) _⟩ | exact ⟨by rw [HE.out];rfl,below_setRow HBX.out (Nat.le_refl _) _⟩
end Go.Proofs.YtgjhepblpdnkcaaGreatDoor
namespace Go.Proofs.YtgjhepblpdnkcaaGreatDoor

theorem qd_fuel:∀ (f g:Nat) (l:List UInt8),l.length<=f->l.length<=g->qd f l=qd g l
 | f,g,[],_,_=>by cases f <;> cases g <;> rfl
 | 0,_,_ :: _,h,_=>by simp at h
 | _,0,_ :: _,_,h=>by simp at h
 | f+1,g+1,c :: t,hf,hg=>by
  unfold qd
  split
  ·rfl
  ·cases hr:rd 1 (c :: t) with
   | none=>rfl
   | some q=>
    obtain ⟨b,n⟩:=q
    have hl:=rd_len hr
    simp only []
    simp only [List.length_cons] at hf hg hl
    rw [qd_fuel f g ((c :: t).drop n) (by rw [List.length_drop,List.length_cons];omega) (by rw [List.length_drop,List.length_cons];omega)]
theorem cd_fuel:∀ (f g:Nat) (l:List UInt8),l.length<=f->l.length<=g->cd f l=cd g l
 | f,g,[],_,_=>by cases f <;> cases g <;> rfl
 | 0,_,_ :: _,h,_=>by simp at h
 | _,0,_ :: _,_,h=>by simp at h
 | f+1,g+1,c :: t,hf,hg=>by
  unfold cd
  split
  ·rfl
  ·cases hr:rd 2 (c :: t) with
   | none=>rfl
   | some q=>
    obtain ⟨b,n⟩:=q
    have hl:=rd_len hr
    simp only []
    simp only [List.length_cons] at hf hg hl
    cases hd:(c :: t).drop n with
    | nil=>rfl
    | cons d u=>
     have hdl:(d :: u).length=(c :: t).length - n:=by rw [← hd,List.length_drop]
     simp only [List.length_cons] at hdl
     simp only []
     split
     ·cases hr2:rd 2 u with
      | none=>rfl
      | some q2=>
       obtain ⟨b2,m⟩:=q2
       simp only []
       rw [cd_fuel f g (u.drop m) (by rw [List.length_drop];omega) (by rw [List.length_drop];omega)]
     ·rw [cd_fuel f g (d :: u) (by rw [List.length_cons];omega) (by rw [List.length_cons];omega)]
/-- A text behind its quote; a class behind its bracket. -/
def qdS (l:List UInt8):Option (List UInt8×Nat):=qd l.length l
def cdS (l:List UInt8):Option (List (UInt8×UInt8)×Nat):=cd l.length l
theorem qd_close (t:List UInt8):qdS (34 :: t)=some ([],1):=rfl
theorem qd_bad {c:UInt8} {t:List UInt8} (hc:c ≠ 34) (h:rd 1 (c :: t)=none):qdS (c :: t)=none:=by
 unfold qdS;rw [List.length_cons];unfold qd
 rw [if_neg (by simpa using hc),h]
theorem qd_step {c b:UInt8} {n:Nat} {t:List UInt8} (hc:c ≠ 34) (h:rd 1 (c :: t)=some (b,n)):qdS (c :: t)=(qdS ((c :: t).drop n)).map fun q=>(b :: q.1,n+q.2):=by
 have hl:=rd_len h
 unfold qdS;rw [List.length_cons];conv=>lhs;unfold qd
 rw [if_neg (by simpa using hc),h]
 simp only []
 rw [qd_fuel t.length _ ((c :: t).drop n) (by rw [List.length_drop,List.length_cons];omega) (Nat.le_refl _)]
theorem cd_nil:cdS []=none:=rfl
theorem cd_close (t:List UInt8):cdS (93 :: t)=some ([],1):=rfl
theorem cd_bad {c:UInt8} {t:List UInt8} (hc:c ≠ 93) (h:rd 2 (c :: t)=none):cdS (c :: t)=none:=by
 unfold cdS;rw [List.length_cons];unfold cd
 rw [if_neg (by simpa using hc),h]
theorem cd_end {c b:UInt8} {n:Nat} {t:List UInt8} (hc:c ≠ 93) (h:rd 2 (c :: t)=some (b,n)) (hd:(c :: t).drop n=[]):cdS (c :: t)=none:=by
 unfold cdS;rw [List.length_cons];unfold cd
 rw [if_neg (by simpa using hc),h]
 simp only []
 rw [hd]
theorem cd_one {c b d:UInt8} {n:Nat} {t u:List UInt8} (hc:c ≠ 93) (h:rd 2 (c :: t)=some (b,n)) (hd:(c :: t).drop n=d :: u) (h5:d ≠ 45):cdS (c :: t)=(cdS (d :: u)).map fun q=>((b,b) :: q.1,n+q.2):=by
 have hl:=rd_len h
 have hdl:(d :: u).length=(c :: t).length - n:=by rw [← hd,List.length_drop]
 unfold cdS;conv=>lhs;rw [List.length_cons];unfold cd
 rw [if_neg (by simpa using hc),h]
 simp only []
 rw [hd]
 simp only []
 rw [if_neg (by simpa using h5),cd_fuel t.length _ (d :: u) (by rw [hdl,List.length_cons];omega) (Nat.le_refl _)]
theorem cd_bad2 {c b:UInt8} {n:Nat} {t u:List UInt8} (hc:c ≠ 93) (h:rd 2 (c :: t)=some (b,n)) (hd:(c :: t).drop n=45 :: u) (h2:rd 2 u=none):cdS (c :: t)=none:=by
 unfold cdS;rw [List.length_cons];unfold cd
 rw [if_neg (by simpa using hc),h]
 simp only []
 rw [hd]
 simp only []
 rw [if_pos (by decide),h2]
theorem cd_two {c b b2:UInt8} {n m:Nat} {t u:List UInt8} (hc:c ≠ 93) (h:rd 2 (c :: t)=some (b,n)) (hd:(c :: t).drop n=45 :: u) (h2:rd 2 u=some (b2,m)):cdS (c :: t)=(cdS (u.drop m)).map fun q=>((b,b2) :: q.1,n+1+m+q.2):=by
 have hl:=rd_len h
 have hdl:(45 :: u).length=(c :: t).length - n:=by rw [← hd,List.length_drop]
 simp only [List.length_cons] at hdl
 unfold cdS;conv=>lhs;rw [List.length_cons];unfold cd
 rw [if_neg (by simpa using hc),h]
 simp only []
 rw [hd]
 simp only []
 rw [if_pos (by decide),h2]
 simp only []
 rw [cd_fuel t.length _ (u.drop m) (by rw [List.length_drop];omega) (Nat.le_refl _)]
/-- A text; a class. -/
def txR (l:List UInt8):Option Wr:=match l with | c :: t=>if c == 34 then (qdS t).map fun q=>⟨3,1+q.2,q.1,0,[]⟩ else none | []=>none
def stR (l:List UInt8):Option Wr:=match l with | c :: t=>if c == 91 then (cdS t).map fun q=>⟨4,1+q.2,[],0,q.1⟩ else none | []=>none
end Go.Proofs.YtgjhepblpdnkcaaGreatDoor
namespace Go.Proofs.YtgjhepblpdnkcaaGreatDoor
open Go.RowKit
set_option maxRecDepth 100000
set_option maxHeartbeats 1000000

theorem Lib.IsBuilderF.below {T e:TypeId} {B b:Nat} {bs:List Value} {w w':World} (h:Lib.IsBuilderF T e B b bs w) (hb:Below w.heap.size w w'):Lib.IsBuilderF T e B b bs w':=by
 have go:∀ p,Lib.BuilderAtF T e B b p bs w->Lib.BuilderAtF T e B b p bs w':=fun p hp=>by
  have hlt:=hp.lt
  obtain ⟨hB,v,hv,hown,hne⟩:=hp
  exact ⟨hB,v,(hb.block _ hlt).trans hv,hown.kept (row:=none) ⟨hb.os,hb.tape,hb.output,hb.size,fun k hk _=>hb.block k hk⟩ (by cases v.ownBlock <;> simp),hne⟩
 exact h.elim (fun x=>.inl (go _ x)) (fun x=>.inr (go _ x))
theorem rdA_at (p:Int) (s:ByteArray) (k:Nat) (hk:k < s.size):rdA p s.data.toList (k:Int)=rd p (s.data.toList.drop k):=by rw [rdA_in hk,← drop_at hk]
/-- What a text's loop has in hand: the place, and what is written. -/
def TxI (s:ByteArray) (k g:Nat) (w:World) (B:Nat) (a:Nat) (l:List UInt8) (wr:World):Prop:=
 Lib.IsBuilderF 254 5 B B (Lib.byteCells l) wr/\Below w.heap.size w wr/\(Rdr wr g s k/\g < B)/\hrow wr w.heap.size wd0 82/\w.heap.size < B/\l.length<=a/\
  txR (s.data.toList.drop k)=(qdS (s.data.toList.drop a)).map fun q=>(⟨3,a - k+q.2,l ++ q.1,0,[]⟩:Wr)
theorem TxI.below {s:ByteArray} {k g B n:Nat} {w wr x:World} {l:List UInt8} (h:TxI s k g w B n l wr) (hb:Below wr.heap.size wr x):TxI s k g w B n l x:=
 ⟨Lib.IsBuilderF.below h.1 hb,h.2.1.trans (hb.mono h.2.1.size),⟨Rdr.below h.2.2.1.1 hb,h.2.2.1.2⟩,h.2.2.2.1.below hb,h.2.2.2.2⟩
theorem TxI.step {s:ByteArray} {k g B n:Nat} {w x x2:World} {l:List UInt8} (h:TxI s k g w B n l x) (hk:k+1<=n) {c b:UInt8} {m:Nat} {t:List UInt8} (hd:s.data.toList.drop n=c :: t) (hc:c ≠ 34)
  (hr:rd 1 (c :: t)=some (b,m)) {p:Value} (hb1:Lib.BuilderAtF 254 5 B B p (Lib.byteCells l ++ [.int .u8 b.toNat]) x2) (hp:p=.pointer (some ⟨B,0,none⟩)) (hb2:Below B x x2):TxI s k g w B (n+m) (l ++ [b]) x2:=by
 subst hp
 obtain ⟨h1,h2,⟨h3,h3b⟩,h4,h5,h6,h7⟩:=h
 have hl:=rd_len hr
 have e1:Lib.byteCells l ++ [.int .u8 b.toNat]=Lib.byteCells (l ++ [b]):=by rw [Lib.byteCells_append];rfl
 rw [e1] at hb1
 refine ⟨.inr hb1,h2.trans (hb2.mono (Nat.le_of_lt h5)),⟨hrow.later h3 hb2 h3b,h3b⟩,hrow.later h4 hb2 h5,h5,by rw [List.length_append,List.length_singleton];omega,?_⟩
 rw [h7,hd,qd_step hc hr,← hd,List.drop_drop]
 cases qdS (s.data.toList.drop (n+m)) with
 | none=>rfl
 | some q=>
  simp only [Option.map_some,Option.some.injEq,Wr.mk.injEq,true_and,and_true]
  exact ⟨by omega,by rw [List.append_assoc];rfl⟩
theorem TxI.kept {s:ByteArray} {k g B n:Nat} {w wr x:World} {l:List UInt8} (h:TxI s k g w B n l wr) (hi:Lib.IsBuilderF 254 5 B B (Lib.byteCells l) x) (hb:Below B wr x):TxI s k g w B n l x:=
 ⟨hi,h.2.1.trans (hb.mono (Nat.le_of_lt h.2.2.2.2.1)),⟨hrow.later h.2.2.1.1 hb h.2.2.1.2,h.2.2.1.2⟩,hrow.later h.2.2.2.1 hb h.2.2.2.2.1,h.2.2.2.2⟩
/-- A world that keeps what is asked. -/
structure Kept (C:World->Prop) where
 val:World
 ok:C val
theorem wp_region_kept_tail {P:Program} {C:World->Prop} {id:Nat} {Q:Exit->Act->World->Prop} {a:Act} {w:World} {l:List Oper} (n:Nat) (hm:P.follows .mixedOrders=true) (hB:Region.lexTailB .any l.toArray n=true) (h0:C w.drew)
  (h:wpQuiet P l.toArray (fun w'=>∃ x:Kept C,w'=x.val) (fun a'=>∀ w',(∃ x:Kept C,w'=x.val)->wpList P l.toArray Q (l.drop n) a' w') (l.take n) a):(Code.region id l.toArray true).wp P Q a w:=
 wp_region_tail (C:=fun w'=>∃ x:Kept C,w'=x.val) n hm hB ⟨⟨w.drew,h0⟩,rfl⟩ h
theorem text_any (s:ByteArray) (k g:Nat) (w:World) (hr:Rdr w g s k) (hs:s.size<=1000000) (hk:k<=s.size):
  Calls Tryz.prog 150 #[.pointer (some ⟨g,0,none⟩)] w fun e w'=>e=.returned (rdO (txR (s.data.toList.drop k)) k)/\Below w.heap.size w w':=by
 have HRD:=Lib.hid hr
 have HS:=Lib.hid hs
 have HK:=Lib.hid hk
 have hHH:=Lib.hid (fun (x:World) (h:Rdr x g s k)=>here_34 s k g x h hk)
 clear hr hs hk
 by_cases hq:(s.data.toList.drop k).head?=some 34
 ·have hqb:((s.data.toList.drop k).head? == some 34)=true:=by rw [hq];rfl
  have HKL:Hid (k < s.size):=by
   rcases Nat.lt_or_ge k s.size with h | h
   ·exact h
   ·rw [List.drop_eq_nil_of_le (by rw [ba_len];exact h)] at hq;cases hq
  have HT0:Hid (txR (s.data.toList.drop k)=(qdS (s.data.toList.drop (k+1))).map fun q=>(⟨3,k+1 - k+q.2,[] ++ q.1,0,[]⟩:Wr)):=by
   rw [drop_at HKL.out] at hq ⊢
   have h34:s[k]'HKL.out=34:=by simpa using hq
   unfold Hid txR
   simp only []
   rw [if_pos (by simpa using h34),show k+1 - k=1 by omega]
   rfl
  clear hq
  have hI0:(0:Int)<=k:=by omega
  have hI1:(k:Int)<=1000000:=by have:=HKL.out;have:=HS.out;omega
  go_enter Tryz.func150,Tryz.ntmps150
  go_wp2_with fail
  have HB:=Lib.hid ((Below.refl w.heap.size w).alloc (Nat.le_refl _) (.cells #[.int .i64 0,.int .i64 0,.int .i64 0,.string ⟨#[]⟩,.int .i64 0,.int .u64 0,.int .u64 0,.int .u64 0,.int .u64 0] 82))
  have HR:=Lib.hid (show hrow (w.alloc (.cells #[.int .i64 0,.int .i64 0,.int .i64 0,.string ⟨#[]⟩,.int .i64 0,.int .u64 0,.int .u64 0,.int .u64 0,.int .u64 0] 82)) w.heap.size wd0 82 from hrow.new _ _ _)
  replace HRD:=Lib.hid (Rdr.below HRD.out HB.out)
  revert HB HR HRD
  generalize w.alloc (.cells #[.int .i64 0,.int .i64 0,.int .i64 0,.string ⟨#[]⟩,.int .i64 0,.int .u64 0,.int .u64 0,.int .u64 0,.int .u64 0] 82)=wb
  intro HB HR HRD
  have HRN:Hid (∀ n,hrow (wb.drewN n) w.heap.size wd0 82):=Lib.hid (fun _=>HR.out)
  clear HRN
  go_wp2_with fail
  refine (hHH.out _ HRD.out).mono ?_
  rintro e x ⟨rfl,hb⟩
  replace HR:=Lib.hid (HR.out.below hb)
  replace HRD:=Lib.hid (Rdr.below HRD.out hb)
  replace HB:=Lib.hid (HB.out.trans (hb.mono HB.out.size))
  clear hb
  rw [hqb]
  clear hqb hHH
  have HBa:=Lib.hid ((Below.refl x.heap.size x).alloc (Nat.le_refl _) (.cells #[.pointer none,.slice none 0 0] 254))
  obtain ⟨c0,c1⟩:=hrow.c2 (Rdr.below HRD.out HBa.out)
  have HI:Hid (TxI s k g w x.heap.size (k+1) [] (x.alloc (.cells #[.pointer none,.slice none 0 0] 254))):=
   ⟨.of (Lib.fresh_isBuilder _ _ _),HB.out.trans (HBa.out.mono HB.out.size),⟨Rdr.below HRD.out HBa.out,HRD.out.lt⟩,HR.out.below HBa.out,HR.out.lt,Nat.zero_le _,HT0.out⟩
  clear HR HRD HB HT0 HBa
  go_wp2_with fail
  clear c0 c1
  generalize x.heap.size=B at *
  go_loopw [5] (fun i wr=>∃ (n:Nat) (l:List UInt8),k+1<=n/\n<=s.size/\i=.int .i64 n/\Hid (TxI s k g w B n l wr)) (fun i _=>s.size - (intOf i).toNat)
  case atStart=>exact ⟨k+1,[],Nat.le_refl _,HKL.out,by go_num,HI.out⟩
  case round=>
   clear HI
   obtain ⟨n,l,hk1,hn,rfl,HJ⟩:=hrel
   have HK1:=Lib.hid hk1;clear hk1
   obtain ⟨c0,c1⟩:=hrow.c2 HJ.out.2.2.1.1
   by_cases hlt:n < s.size
   ·have hnI:(n:Int) < s.size:=by omega
    have hn0:(0:Int)<=n:=by omega
    have HNL:=Lib.hid hlt
    obtain ⟨c,hcs⟩:∃ c,c=s[n]:=⟨_,rfl⟩
    have HQ:Hid (s.data.toList.drop n=c :: s.data.toList.drop (n+1)):=by rw [hcs];exact drop_at hlt
    have HCS:=Lib.hid hcs;clear hcs
    by_cases h34:c=34
    ·have h34I:((s[n].toNat:Nat):Int)=34:=by rw [← HCS.out,h34];rfl
     have HE:Hid (txR (s.data.toList.drop k)=some ⟨3,n+1 - k,l,0,[]⟩):=by
      have:=HJ.out.2.2.2.2.2.2
      have h1:=HK1.out
      unfold Hid
      rw [this,HQ.out,h34,qd_close]
      simp only [Option.map_some,Option.some.injEq,Wr.mk.injEq,true_and,and_true,List.append_nil]
      omega
     clear hn h34
     have hkn:(k:Int)<=n+1:=by have:=HK1.out;omega
     have hnb:(n:Int)+1 - k<=1000000:=by have:=HS.out;omega
     have hnk:(0:Int)<=(n:Int)+1 - k:=by omega
     have HEQ:Hid ((n:Int)+1 - k=((n+1 - k:Nat):Int)):=by have:=HK1.out;unfold Hid;omega
     have instK:Nonempty (Kept (TxI s k g w B n l)):=⟨⟨wr,HJ.out⟩⟩
     have hc0:∀ x:Kept (TxI s k g w B n l),x.val.cell? ⟨g,0,none⟩=some (.string s):=fun x=>(hrow.c2 x.ok.2.2.1.1).1
     have hc1:∀ x:Kept (TxI s k g w B n l),x.val.cell? ⟨g,1,none⟩=some (.int .i64 k):=fun x=>(hrow.c2 x.ok.2.2.1.1).2
     have hbd:∀ x:World,(Instr.build 82 #[(0,.int .i64 3),(3,.string (tx l))]).run Tryz.prog x=.ok (.agg #[.int .i64 3,.int .i64 0,.int .i64 0,.string (tx l),.int .i64 0,.int .u64 0,.int .u64 0,.int .u64 0,.int .u64 0]) x:=fun x=>run_build x _ _ _ (by kernel_rfl)
     have HSt:Hid (∀ x:Kept (TxI s k g w B n l),Calls Tryz.prog 179 #[.pointer (some ⟨B,0,none⟩)] x.val fun e w'=>e=.returned (.string (tx l))/\∃ y:Kept (TxI s k g w B n l),w'=y.val):=Lib.hid fun x=>by
      refine (Tryz.Builder_String_any_k _ _ l _ x.ok.1 (Nat.le_of_lt (x.ok.1.elim (fun x=>x.lt) (fun x=>x.lt)))).mono ?_
      rintro e x2 ⟨rfl,hi,hb,_⟩
      exact ⟨rfl,⟨x2,x.ok.kept hi hb⟩,rfl⟩
     have HWd:Hid (∀ x:Kept (TxI s k g w B n l),Calls Tryz.prog 174 #[.pointer (some ⟨g,0,none⟩),.agg #[.int .i64 3,.int .i64 0,.int .i64 0,.string (tx l),.int .i64 0,.int .u64 0,.int .u64 0,.int .u64 0,.int .u64 0],.int .i64 ((n:Int)+1 - k)] x.val fun e w'=>e=.returned (.tuple #[.agg #[.int .i64 3,.int .i64 k,.int .i64 (k+((n:Int)+1 - k)),.string (tx l),.int .i64 0,.int .u64 0,.int .u64 0,.int .u64 0,.int .u64 0],.bool true])/\∃ y:Kept (TxI s k g w B n l),w'=y.val):=Lib.hid fun x=>by
      refine (word_any 3 0 0 0 0 0 0 0 ((n:Int)+1 - k) (tx l) s k g _ x.ok.2.2.1.1 (by have:=HS.out;have:=HK.out;omega) hnk hnb).mono ?_
      rintro e x2 ⟨rfl,hb⟩
      exact ⟨rfl,⟨x2,x.ok.below hb⟩,rfl⟩
     go_wp2_with fail
     refine wp_region_kept_tail 14 (by kernel_rfl) (by kernel_rfl) (HJ.out.below (Below.refl _ _).drew) ?_
     simp only [List.take_succ_cons,List.take_zero,List.drop_succ_cons,List.drop_zero]
     repeat (go_big_quiet_step (first
      | (go_at_call 179;with_reducible exact HSt.out _)
      | (go_at_call 174;with_reducible exact HWd.out _)))
     refine wpQuiet_nil ?_
     intro w5 hw5
     obtain ⟨x,rfl⟩:=hw5
     have HR:=Lib.hid x.ok.2.2.2.1
     have HB:=Lib.hid x.ok.2.1
     clear hc0 hc1 HSt HWd
     go_wp2_with (with_reducible refine store_word rfl (.tmp 2) (.tmp 49) rfl w.heap.size _ _ _ _ _ _ _ _ _ rfl rfl HR.out ?_)
     rw [HEQ.out]
     refine bodyPost_ret (results_word rfl _ _ w.heap.size _ _ rfl rfl HR.out ?_) rfl ?_
     next=>rfl
     next=>first | exact ⟨rfl,below_setRow HB.out (Nat.le_refl _) _⟩ | exact ⟨by rw [HE.out];rfl,below_setRow HB.out (Nat.le_refl _) _⟩
    ·have h34I:((s[n].toNat:Nat):Int) ≠ 34:=fun h=>h34 (by rw [← HCS.out] at h;apply UInt8.toNat_inj.1;show c.toNat=34;omega)
     clear hn
     go_wp2_with fail
     refine (rbyte_any 1 s k g n wr HJ.out.2.2.1.1 HS.out).mono ?_
     rintro e x ⟨rfl,hb⟩
     rw [rdA_at 1 s n HNL.out,HQ.out]
     have HJ2:=Lib.hid (HJ.out.below hb)
     have H34:=Lib.hid h34
     clear hb HJ c0 c1
     cases hrd:rd 1 (c :: s.data.toList.drop (n+1)) with
     | none=>
      have HE:Hid (txR (s.data.toList.drop k)=none):=by
       have:=HJ2.out.2.2.2.2.2.2
       unfold Hid
       rw [this,HQ.out,qd_bad H34.out hrd];rfl
      have HR:=Lib.hid HJ2.out.2.2.2.1
      have HB:=Lib.hid HJ2.out.2.1
      unfold rdV
      clear hrd HJ2 H34 HQ h34
      go_wp2_with (with_reducible refine store_word rfl (.tmp 2) (.tmp 63) rfl w.heap.size _ _ _ _ _ _ _ _ _ rfl rfl HR.out ?_)
      refine bodyPost_ret (results_word rfl _ _ w.heap.size _ _ rfl rfl HR.out ?_) rfl ?_
      next=>rfl
      next=>first | exact ⟨rfl,below_setRow HB.out (Nat.le_refl _) _⟩ | exact ⟨by rw [HE.out];rfl,below_setRow HB.out (Nat.le_refl _) _⟩
     | some q=>
      obtain ⟨b,m⟩:=q
      have HRL:=Lib.hid (rd_len hrd)
      have HRD:=Lib.hid hrd
      have hml:n+m<=s.size:=by have:=HRL.out.2;have h2:=congrArg List.length HQ.out;rw [List.length_drop,ba_len] at h2;omega
      unfold rdV
      clear hrd h34
      go_wp2_with fail
      refine (Tryz.Builder_WriteByte_k _ _ _ _ _ HJ2.out.1 ?_ ?_).mono ?_
      ·rw [Lib.byteCells_length];have:=HJ2.out.2.2.2.2.2.1;have:=HS.out;omega
      ·have:=HJ2.out.1.elim (fun x=>x.lt) (fun x=>x.lt);omega
      rintro e x2 ⟨rfl,hb1,hb2,_⟩
      have HJ3:=Lib.hid (HJ2.out.step HK1.out HQ.out H34.out HRD.out hb1 rfl hb2)
      clear hb1 hb2 HJ2
      go_wp2_with fail
      go_roundw
      case rel=>exact ⟨n+m,l ++ [b],by have:=HK1.out;omega,hml,by go_num,HJ3.out⟩
      case measure=>have:=HRL.out.1;simp [intOf];omega
   ·have hnI:¬ (n:Int) < s.size:=by omega
    have HE:Hid (txR (s.data.toList.drop k)=none):=by
     have:=HJ.out.2.2.2.2.2.2
     unfold Hid
     rw [this,List.drop_eq_nil_of_le (by rw [ba_len];omega)];rfl
    have HR:=Lib.hid HJ.out.2.2.2.1
    have HB:=Lib.hid HJ.out.2.1
    clear hn HJ
    go_wp2_with (with_reducible refine store_word rfl (.tmp 2) (.tmp 63) rfl w.heap.size _ _ _ _ _ _ _ _ _ rfl rfl HR.out ?_)
    refine bodyPost_ret (results_word rfl _ _ w.heap.size _ _ rfl rfl HR.out ?_) rfl ?_
    next=>rfl
    next=>first | exact ⟨rfl,below_setRow HB.out (Nat.le_refl _) _⟩ | exact ⟨by rw [HE.out];rfl,below_setRow HB.out (Nat.le_refl _) _⟩
 ·have hqb:((s.data.toList.drop k).head? == some 34)=false:=by rw [Bool.eq_false_iff];simpa using hq
  have HE:Hid (txR (s.data.toList.drop k)=none):=by
   unfold Hid txR
   split
   next c t h=>
    rw [h] at hq
    rw [if_neg (by simpa using hq)]
   next=>rfl
  clear hq
  go_enter Tryz.func150,Tryz.ntmps150
  go_wp2_with fail
  have HB:=Lib.hid ((Below.refl w.heap.size w).alloc (Nat.le_refl _) (.cells #[.int .i64 0,.int .i64 0,.int .i64 0,.string ⟨#[]⟩,.int .i64 0,.int .u64 0,.int .u64 0,.int .u64 0,.int .u64 0] 82))
  have HR:=Lib.hid (show hrow (w.alloc (.cells #[.int .i64 0,.int .i64 0,.int .i64 0,.string ⟨#[]⟩,.int .i64 0,.int .u64 0,.int .u64 0,.int .u64 0,.int .u64 0] 82)) w.heap.size wd0 82 from hrow.new _ _ _)
  replace HRD:=Lib.hid (Rdr.below HRD.out HB.out)
  revert HB HR HRD
  generalize w.alloc (.cells #[.int .i64 0,.int .i64 0,.int .i64 0,.string ⟨#[]⟩,.int .i64 0,.int .u64 0,.int .u64 0,.int .u64 0,.int .u64 0] 82)=wb
  intro HB HR HRD
  have HRN:Hid (∀ n,hrow (wb.drewN n) w.heap.size wd0 82):=Lib.hid (fun _=>HR.out)
  clear HRN
  go_wp2_with fail
  refine (hHH.out _ HRD.out).mono ?_
  rintro e x ⟨rfl,hb⟩
  replace HR:=Lib.hid (HR.out.below hb)
  replace HRD:=Lib.hid (Rdr.below HRD.out hb)
  replace HB:=Lib.hid (HB.out.trans (hb.mono HB.out.size))
  clear hb
  rw [hqb]
  clear hqb hHH
  go_wp2_with (with_reducible refine store_word rfl (.tmp 2) (.tmp 14) rfl w.heap.size _ _ _ _ _ _ _ _ _ rfl rfl HR.out ?_)
  refine bodyPost_ret (results_word rfl _ _ w.heap.size _ _ rfl rfl HR.out ?_) rfl ?_
  next=>rfl
  next=>first | exact ⟨rfl,below_setRow HB.out (Nat.le_refl _) _⟩ | exact ⟨by rw [HE.out];rfl,below_setRow HB.out (Nat.le_refl _) _⟩
end Go.Proofs.YtgjhepblpdnkcaaGreatDoor
