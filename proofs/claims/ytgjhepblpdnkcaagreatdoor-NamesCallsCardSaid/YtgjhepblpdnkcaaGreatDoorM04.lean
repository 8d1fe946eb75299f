/- Walks and plain laws: V1 Rz V2 V3 V4 C1 C2 C3 V5. -/
import Derived.Test.YtgjhepblpdnkcaaGreatDoorM03
import Derived.Test.YtgjhepblpdnkcaaGreatDoorRows
import Derived.ProofKit
import Derived.OpenShut
import Derived.ShutString
import Derived.SizedLaws
import Derived.Lib.SmallJoins
import Derived.Lib.LaidTab
import Derived.Stop.LaidErr
import Derived.Laws.Runes
import Derived.BigRegion
import Derived.RegionTactic
import Derived.Laws.RangeAny
import Derived.Lib.OthersKept
import Derived.Test.YtgjhepblpdnkcaaGreatDoorM02
import Derived.Test.YtgjhepblpdnkcaaGreatDoorProg
import Derived.WalkLawsBesides
import Derived.WalkSpells
import Derived.Deep.Cut
import Derived.Deep.CutBlock
import Derived.Deep.RegionWith
import Derived.Deep.DeepCutAuto
namespace Go.Proofs.YtgjhepblpdnkcaaGreatDoor
open Go.RowKit
set_option maxRecDepth 100000
set_option maxHeartbeats 4000000

/-- A list of bytes, as a text. -/
def tx (l:List UInt8):ByteArray:=⟨l.toArray⟩
theorem tx_list (l:List UInt8):(tx l).data.toList=l:=rfl
theorem tx_size (l:List UInt8):(tx l).size=l.length:=by simp [tx,ByteArray.size]
theorem trimL_any (S:ByteArray) (p:UInt8->Bool) (hS:∀ c,S.data.toList.contains c=p c) (hz:S.size < 4294967281) (hasc:∀ (j:Nat) b,S.data.toList[j]?=some b->b.toNat < 128) (s:ByteArray) (w:World):
  Calls Tryz.prog 184 #[.string s,.string S] w fun e w'=>e=.returned (.string (tx (s.data.toList.dropWhile p)))/\Below w.heap.size w w':=
 (Any.strings_TrimLeft_laid Tryz.lays161 (by kernel_rfl) s S w hz hasc).mono fun e w' ⟨he,hb⟩=>⟨by rw [he,trim_is hS];rfl,hb⟩
theorem span_any (S:ByteArray) (p:UInt8->Bool) (hS:∀ c,S.data.toList.contains c=p c) (hz:S.size < 4294967281) (hasc:∀ (j:Nat) b,S.data.toList[j]?=some b->b.toNat < 128) (s:ByteArray) (w:World) (hs:s.size<=1000000):
  Calls Tryz.prog 154 #[.string s,.string S] w fun e w'=>e=.returned (.int .i64 (s.data.toList.takeWhile p).length)/\Below w.heap.size w w':=by
 have HT:=Lib.hid (trimL_any S p hS hz hasc s w)
 have hl:=tw_le p s.data.toList
 rw [ba_len] at hl
 have hd:(tx (s.data.toList.dropWhile p)).size=(s.data.toList.dropWhile p).length:=tx_size _
 have h1:((s.data.toList.dropWhile p).length:Int)<=s.size:=by omega
 have HE:=Lib.hid (show (s.size:Int) - ((s.data.toList.dropWhile p).length:Int)=(s.data.toList.takeWhile p).length by omega)
 clear hl
 generalize tx (s.data.toList.dropWhile p)=t at *
 generalize (s.data.toList.dropWhile p).length=n at *
 generalize (s.data.toList.takeWhile p).length=m at *
 go_enter Tryz.func154,Tryz.ntmps154
 go_wp2_with fail
 refine HT.out.mono ?_
 rintro e x ⟨rfl,hb⟩
 have HB:=Lib.hid hb;clear hb
 go_wp2_with fail
 go_ret
 exact ⟨by rw [← HE.out];rfl,HB.out⟩
theorem blS_small:blS.size < 4294967281:=by show 4 < 4294967281;omega
theorem dgS_small:dgS.size < 4294967281:=by show 10 < 4294967281;omega
theorem ltS_small:ltS.size < 4294967281:=by show 53 < 4294967281;omega
theorem ldS_small:ldS.size < 4294967281:=by show 63 < 4294967281;omega
theorem span_bl (s:ByteArray) (w:World) (hs:s.size<=1000000):Calls Tryz.prog 154 #[.string s,.string blS] w fun e w'=>e=.returned (.int .i64 (s.data.toList.takeWhile isBl).length)/\Below w.heap.size w w':=span_any blS isBl blS_is blS_small (ascii_of_all (by decide)) s w hs
theorem span_dg (s:ByteArray) (w:World) (hs:s.size<=1000000):Calls Tryz.prog 154 #[.string s,.string dgS] w fun e w'=>e=.returned (.int .i64 (s.data.toList.takeWhile isDg).length)/\Below w.heap.size w w':=span_any dgS isDg dgS_is dgS_small (ascii_of_all (by decide)) s w hs
theorem span_lt (s:ByteArray) (w:World) (hs:s.size<=1000000):Calls Tryz.prog 154 #[.string s,.string ltS] w fun e w'=>e=.returned (.int .i64 (s.data.toList.takeWhile isLt).length)/\Below w.heap.size w w':=span_any ltS isLt ltS_is ltS_small (ascii_of_all (by decide)) s w hs
theorem span_ld (s:ByteArray) (w:World) (hs:s.size<=1000000):Calls Tryz.prog 154 #[.string s,.string ldS] w fun e w'=>e=.returned (.int .i64 (s.data.toList.takeWhile isLD).length)/\Below w.heap.size w w':=span_any ldS isLD ldS_is ldS_small (ascii_of_all (by decide)) s w hs
/-- A text from a place on. -/
theorem ext_from (s:ByteArray) (k:Nat):s.extract k s.size=tx (s.data.toList.drop k):=by
 apply ByteArray.ext
 rw [ByteArray.data_extract]
 unfold tx
 apply Array.toList_inj.1
 have:s.data.size=s.size:=rfl
 simp [List.take_of_length_le,this]
theorem from_run {P:Program} (t:TypeId) (ht:P.underlying t=some .string) (s:ByteArray) (k:Nat) (a:Int) (ha:a=k) (h:k<=s.size) (wx:World):
  (Instr.slice t (.string s) (some (.int .i64 a)) none none).run P wx=.ok (.string (tx (s.data.toList.drop k))) wx:=by
 subst ha
 have:=run_slice_string_from_if (P:=P) wx t s .i64 k ht
 rw [this,if_pos (by omega)]
 rw [Int.toNat_natCast,ext_from s k]
end Go.Proofs.YtgjhepblpdnkcaaGreatDoor
namespace Go.Proofs.YtgjhepblpdnkcaaGreatDoor
open Go.RowKit Go.ChangeShapes Go.WideShapes Go.ChangeAt
set_option maxRecDepth 100000

section
variable {H:Type}
theorem str_size {P:Program} {ts:List TypeId} {ds:List (DataW H)} (h:(DataW.weightsEach P ts ds).all (·<=reachBytes)=true) {j:Nat} {t:TypeId} {s:ByteArray}
  (ht:ts[j]?=some t) (hd:ds[j]?=some (.lit (.string s.data.toList))):s.size<=140737488355328:=by
 have h2:s.data.toList.length ∈ (DataW.lit (.string s.data.toList):DataW H).weights P t:=by simp only [DataW.weights,List.mem_cons,true_or]
 have h3:s.data.toList.length<=reachBytes:=by simpa using List.all_eq_true.1 h _ (DataW.weights_mem_each ht hd _ h2)
 rw [ba_len] at h3
 simp only [reachBytes] at h3
 omega
end
end Go.Proofs.YtgjhepblpdnkcaaGreatDoor
namespace Go.Proofs.YtgjhepblpdnkcaaGreatDoor
open Go.RowKit
set_option maxRecDepth 100000
set_option maxHeartbeats 4000000

theorem skip_in (s:ByteArray) (k0:Nat) (w:World) (hs:s.size<=1000000) (hk0:k0<=s.size):Calls Tryz.prog 119 #[.string s,.int .i64 k0] w fun e w'=>e=.returned (.int .i64 (k0+skp false (s.data.toList.drop k0)))/\Below w.heap.size w w':=by
 have h1:(k0:Int)<=s.size:=by omega
 have h0:(0:Int)<=k0:=by omega
 have HL:=Lib.hid (ba_len s)
 have hR:=skp_le (s.data.toList.drop k0) false
 obtain ⟨R,HR⟩:∃ R,Hid (k0+skp false (s.data.toList.drop k0)=R):=⟨_,rfl⟩
 have HE:=Lib.hid (show ((k0:Int)+(skp false (s.data.toList.drop k0):Int))=(R:Int) by rw [← HR.out];omega)
 rw [HE.out]
 clear hR HE
 have hd0:decide ((k0:Int) < 0)=false:=decide_eq_false (by omega)
 have hd1:decide (s.size < k0)=false:=decide_eq_false (by omega)
 go_enter Tryz.func119,Tryz.ntmps119
 go_wp2_with fail
 go_loopw [1] (fun i wr=>∃ k:Nat,k<=s.size/\i=.int .i64 k/\Hid (k+skp false (s.data.toList.drop k)=R/\Below w.heap.size w wr)) (fun i _=>s.size - (intOf i).toNat)
 case atStart=>exact ⟨k0,hk0,rfl,HR.out,Below.refl _ _⟩
 case round=>
  obtain ⟨k,hk,rfl,hI⟩:=hrel
  have hkI:(k:Int)<=s.size:=by omega
  have hk0':(0:Int)<=k:=by omega
  have hsl:=from_run (P:=Tryz.prog) 9 Tryz.underlying9 s k k rfl hk
  have HB:=Lib.hid hI.out.2
  have HI:=Lib.hid hI.out.1
  clear hI
  have HSp:=Lib.hid (fun x=>span_bl (tx (s.data.toList.drop k)) x (by rw [tx_size,List.length_drop,HL.out];omega))
  rw [tx_list] at HSp
  have hbl:=skp_blanks (s.data.toList.drop k)
  have htw:=tw_le isBl (s.data.toList.drop k)
  rw [List.length_drop,HL.out] at htw
  have hdw:(s.data.toList.drop k).dropWhile isBl=s.data.toList.drop (k+((s.data.toList.drop k).takeWhile isBl).length):=by
   rw [← List.drop_drop];exact drop_tw _
  rw [hdw] at hbl htw
  have HDh:=Lib.hid (fun c u (h:(s.data.toList.drop k).dropWhile isBl=c :: u)=>drop_head (p:=isBl) h)
  rw [hdw] at HDh
  clear hdw
  generalize ((s.data.toList.drop k).takeWhile isBl).length=m at *
  have hm:k+m<=s.size:=by omega
  have hmI:(k:Int)+m<=s.size:=by omega
  have hm0:(0:Int)<=(k:Int)+m:=by omega
  have hsl2:=from_run (P:=Tryz.prog) 9 Tryz.underlying9 s (k+m) ((k:Int)+m) (by omega) hm
  have HM:=Lib.hid hbl
  clear hbl htw
  go_wp2_with fail
  refine (HSp.out _).mono ?_
  rintro e x ⟨rfl,hb⟩
  have HB1:=Lib.hid (HB.out.trans (hb.mono HB.out.size));clear hb HSp HB
  go_wp2_with fail
  refine (Tryz.strings_HasPrefix _ _ x).mono ?_
  rintro e x2 ⟨rfl,rfl⟩
  rw [tx_list]
  cases hd:s.data.toList.drop (k+m) with
  | nil => 
   have HF:Hid (k+m=R):=by rw [← HI.out,HM.out,hd];rfl
   have hp:Lib.hasPrefix [] (ByteArray.mk #[35]).data.toList=false:=rfl
   rw [hp]
   clear hd
   go_wp2_with fail
   go_ret
   exact ⟨ret_int (by rw [← HF.out];rfl),HB1.out⟩
  | cons c u=>
   by_cases hc:c=35
   ·subst hc
    have hp:Lib.hasPrefix (35 :: u) (ByteArray.mk #[35]).data.toList=true:=rfl
    rw [hp]
    have hix:=ix_ge (35 :: u) 10
    have hsh:=skp_hash u
    have hln:(35 :: u).length=s.size - (k+m):=by rw [← hd,List.length_drop,HL.out]
    have HIx:=Lib.hid (show Tryz.prog=Tryz.prog from rfl)
    clear HIx
    go_wp2_with fail
    refine (Tryz.strings_IndexByte _ 10 x2).mono ?_
    rintro e x3 ⟨rfl,rfl⟩
    rw [tx_list]
    have h10:(10:Int).toNat.toUInt8=10:=rfl
    rw [h10]
    have HD:=Lib.hid hd
    have HMM:=Lib.hid (HM.out.trans (by rw [HD.out]))
    clear hd h10
    rw [hln] at hix hsh
    obtain ⟨hA,hB⟩:=hsh
    generalize hii:Lib.indexByte (35 :: u) 10=ii at *
    by_cases hlt:ii < 0
    ·have HF:Hid (s.size=R):=by have:=hA hlt;have:=HI.out;have:=HMM.out;unfold Hid;omega
     have HII:=Lib.hid hii;clear hii hA hB
     go_wp2_with fail
     go_ret
     exact ⟨ret_int (by rw [HF.out]),HB1.out⟩
    ·obtain ⟨hi1,hi2⟩:=hB (by omega)
     obtain ⟨n,hn⟩:∃ n:Nat,ii=n:=⟨ii.toNat,by omega⟩
     subst hn
     rw [Int.toNat_natCast] at hi2
     have hkn:k+m+n<=s.size:=by omega
     have HF:Hid (k+m+n+skp false (s.data.toList.drop (k+m+n))=R):=by
      have e1:s.data.toList.drop (k+m+n)=(35 :: u).drop n:=by rw [← List.drop_drop,HD.out]
      have:=HI.out;have:=HMM.out;unfold Hid;rw [e1];omega
     have hn1:1<=n:=by omega
     have hI3:(k:Int)+m+n<=s.size:=by omega
     have HII:=Lib.hid hii
     have HN:=Lib.hid hn1
     clear hii hA hB hi1 hi2 hn1
     go_wp2_with fail
     go_roundw
     case rel=>exact ⟨k+m+n,hkn,by go_num,HF.out,HB1.out⟩
     case measure=>have:=HN.out;simp [intOf];omega
   ·have HF:Hid (k+m=R):=by rw [← HI.out,HM.out,hd,skp_stop (HDh.out c u hd) hc];rfl
    have hp:Lib.hasPrefix (c :: u) (ByteArray.mk #[35]).data.toList=false:=(pre1 35 c u).trans (by simpa using fun h=>hc h.symm)
    rw [hp]
    clear hd
    go_wp2_with fail
    go_ret
    exact ⟨ret_int (by rw [← HF.out];rfl),HB1.out⟩
end Go.Proofs.YtgjhepblpdnkcaaGreatDoor
namespace Go.Proofs.YtgjhepblpdnkcaaGreatDoor
open Go.RowKit
set_option maxRecDepth 100000
set_option maxHeartbeats 4000000

/-- A reader of a text, at a place. -/
def Rdr (w:World) (g:Nat) (s:ByteArray) (k:Nat):Prop:=hrow w g #[.string s,.int .i64 k] 233
theorem Rdr.below {w w':World} {g:Nat} {s:ByteArray} {k:Nat} (h:Rdr w g s k) (hb:Below w.heap.size w w'):Rdr w' g s k:=hrow.below h hb
theorem left_any (s:ByteArray) (k g:Nat) (w:World) (hr:Rdr w g s k) (hk:k<=s.size):Calls Tryz.prog 175 #[.pointer (some ⟨g,0,none⟩)] w fun e w'=>e=.returned (.string (tx (s.data.toList.drop k)))/\Below w.heap.size w w':=by
 have h1:(k:Int)<=s.size:=by omega
 have h0:(0:Int)<=k:=by omega
 obtain ⟨c0,c1⟩:=hrow.c2 hr
 have hsl:=from_run (P:=Tryz.prog) 9 Tryz.underlying9 s k k rfl hk
 clear hr
 go_enter Tryz.func175,Tryz.ntmps175
 go_wp2_with fail
 go_quiet (fail)
 go_wp2_with fail
 go_ret
 exact ⟨rfl,belowN (Below.refl _ _) _⟩
theorem here_any (c:UInt8) (d:ByteArray) (hd:Utf8.encode c.toNat=d) (hd1:d=⟨#[c]⟩) (s:ByteArray) (k g:Nat) (w:World) (hr:Rdr w g s k) (hk:k<=s.size):
  Calls Tryz.prog 178 #[.pointer (some ⟨g,0,none⟩),.int .u8 c.toNat] w fun e w'=>e=.returned (.bool ((s.data.toList.drop k).head? == some c))/\Below w.heap.size w w':=by
 have HL:=Lib.hid (left_any s k g w hr hk)
 have HP:Hid (Lib.hasPrefix (s.data.toList.drop k) d.data.toList=((s.data.toList.drop k).head? == some c)):=by
  rw [hd1]
  cases s.data.toList.drop k with
  | nil=>rfl
  | cons x u=>
   refine (pre1 c x u).trans ?_
   rw [Bool.eq_iff_iff];simp only [beq_iff_eq,List.head?_cons,Option.some.injEq];exact ⟨Eq.symm,Eq.symm⟩
 clear hr hd1
 generalize ((s.data.toList.drop k).head? == some c)=q at *
 go_enter Tryz.func178,Tryz.ntmps178
 go_wp2_with fail
 refine HL.out.mono ?_
 rintro e x ⟨rfl,hb⟩
 have HB:=Lib.hid hb;clear hb
 go_wp2_with fail
 refine (Tryz.strings_HasPrefix _ _ x).mono ?_
 rintro e x2 ⟨rfl,rfl⟩
 rw [tx_list,HP.out]
 go_wp2_with fail
 go_ret
 exact ⟨rfl,HB.out⟩
theorem here_34 (s:ByteArray) (k g:Nat) (w:World) (hr:Rdr w g s k) (hk:k<=s.size):Calls Tryz.prog 178 #[.pointer (some ⟨g,0,none⟩),.int .u8 34] w fun e w'=>e=.returned (.bool ((s.data.toList.drop k).head? == some 34))/\Below w.heap.size w w':=
 here_any 34 ⟨#[34]⟩ (by decide +kernel) rfl s k g w hr hk
theorem here_91 (s:ByteArray) (k g:Nat) (w:World) (hr:Rdr w g s k) (hk:k<=s.size):Calls Tryz.prog 178 #[.pointer (some ⟨g,0,none⟩),.int .u8 91] w fun e w'=>e=.returned (.bool ((s.data.toList.drop k).head? == some 91))/\Below w.heap.size w w':=
 here_any 91 ⟨#[91]⟩ (by decide +kernel) rfl s k g w hr hk
/-- A reader's byte. -/
theorem rbyte_any (p:Int) (s:ByteArray) (k g:Nat) (a:Int) (w:World) (hr:Rdr w g s k) (hs:s.size<=1000000):
  Calls Tryz.prog 180 #[.pointer (some ⟨g,0,none⟩),.int .i64 p,.int .i64 a] w fun e w'=>e=.returned (rdV a (rdA p s.data.toList a))/\Below w.heap.size w w':=by
 obtain ⟨c0,c1⟩:=hrow.c2 hr
 have HR:=Lib.hid (read_any p s a w hs)
 clear hr
 generalize rdA p s.data.toList a=q at *
 go_enter Tryz.func180,Tryz.ntmps180
 go_wp2_with fail
 refine HR.out.mono ?_
 rintro e x ⟨rfl,hb⟩
 have HB:=Lib.hid hb;clear hb
 cases q with
 | none=>
  unfold rdV
  go_wp2_with fail
  go_ret3
  exact ⟨rfl,HB.out⟩
 | some q=>
  obtain ⟨b,n⟩:=q
  unfold rdV
  go_wp2_with fail
  go_ret3
  exact ⟨rfl,HB.out⟩
/-- A word's cells. -/
def wdA (kind at_ nx:Int) (t:ByteArray) (lv c0 c1 c2 c3:Int):Array Value:=#[.int .i64 kind,.int .i64 at_,.int .i64 nx,.string t,.int .i64 lv,.int .u64 c0,.int .u64 c1,.int .u64 c2,.int .u64 c3]
theorem word_any (kd a0 n0 lv c0 c1 c2 c3 n:Int) (t s:ByteArray) (k g:Nat) (w:World) (hr:Rdr w g s k) (hk:k<=1000000) (hn0:0<=n) (hn:n<=1000000):
  Calls Tryz.prog 174 #[.pointer (some ⟨g,0,none⟩),.agg (wdA kd a0 n0 t lv c0 c1 c2 c3),.int .i64 n] w fun e w'=>e=.returned (.tuple #[.agg (wdA kd k (k+n) t lv c0 c1 c2 c3),.bool true])/\Below w.heap.size w w':=by
 obtain ⟨r0,r1⟩:=hrow.c2 hr
 have hlt:=hrow.lt hr
 have hkI:(k:Int)<=1000000:=by omega
 have hk0:(0:Int)<=k:=by omega
 unfold wdA
 clear hr
 go_enter Tryz.func174,Tryz.ntmps174
 go_wp2_with fail
 go_region
 go_wp2_with fail
 exact bodyPost_ret (v:=.tuple #[.agg #[.int .i64 kd,.int .i64 k,.int .i64 (k+n),.string t,.int .i64 lv,.int .u64 c0,.int .u64 c1,.int .u64 c2,.int .u64 c3],.bool true]) (by simp [results,Tryz.results174,go_sem]) rfl ⟨rfl,(((Below.refl _ _).alloc (Nat.le_refl _) _).alloc (by simp) _).drew⟩
end Go.Proofs.YtgjhepblpdnkcaaGreatDoor
namespace Go.Proofs.YtgjhepblpdnkcaaGreatDoor
open Go.RowKit
set_option maxRecDepth 100000
set_option maxHeartbeats 4000000

theorem lvF_bd:∀ (ds:List UInt8),(∀ c ∈ ds,isDg c=true)->0<=lvF ds/\lvF ds < 10 ^ ds.length:=by
 intro ds
 unfold lvF
 suffices h:∀ (ds:List UInt8) (n:Int) (m:Nat),0<=n->n < 10 ^ m->(∀ c ∈ ds,isDg c=true)->0<=ds.foldl (fun n c=>10 * n+((c.toNat:Int) - 48)) n/\ds.foldl (fun n c=>10 * n+((c.toNat:Int) - 48)) n < 10 ^ (m+ds.length) by
  intro hd
  have:=h ds 0 0 (by omega) (by simp) hd
  simpa using this
 intro ds
 induction ds with
 | nil=>intro n m h0 h1 _;exact ⟨h0,by simpa using h1⟩
 | cons c ds ih=>
  intro n m h0 h1 hd
  have hc:=hd c (by simp)
  have hc2:=u8_all (P:=fun c=>isDg c=true->48<=(c.toNat:Int)/\(c.toNat:Int)<=57) (by decide +kernel) c hc
  rw [List.foldl_cons,List.length_cons,show m+(ds.length+1)=(m+1)+ds.length by omega]
  refine ih _ (m+1) (by omega) ?_ (fun x hx=>hd x (by simp [hx]))
  rw [Int.pow_succ];omega
theorem lvF_snoc (ds:List UInt8) (k:Nat) (h:k < ds.length):lvF (ds.take (k+1))=10 * lvF (ds.take k)+((ds[k].toNat:Int) - 48):=by
 unfold lvF
 rw [List.take_succ_eq_append_getElem h,List.foldl_append];rfl
theorem level_any (ds:List UInt8) (hd:∀ c ∈ ds,isDg c=true) (hl:ds.length<=1000000) (w:World):Calls Tryz.prog 177 #[.string (tx ds)] w fun e w'=>e=.returned (.int .i64 (lvl ds))/\Below w.heap.size w w':=by
 have hs:(tx ds).size=ds.length:=tx_size ds
 by_cases h4:4 < ds.length
 ·have h4I:(4:Int) < ds.length:=by omega
  have HE:Hid (lvl ds=9999):=if_pos h4
  rw [HE.out]
  clear hd h4
  go_enter Tryz.func177,Tryz.ntmps177
  go_wp2_with fail
  go_ret
  exact ⟨rfl,Below.refl _ _⟩
 ·have h4I:¬ (4:Int) < ds.length:=by omega
  have HE:Hid (lvl ds=lvF ds):=if_neg h4
  have hd3:decide (4 < ds.length)=false:=decide_eq_false h4
  rw [HE.out]
  have HDg:=Lib.hid hd;clear hd
  go_enter Tryz.func177,Tryz.ntmps177
  go_wp2_with fail
  have HSz:=Lib.hid hs;clear hs
  go_loopw [2] (fun n wr=>∃ k:Nat,k<=ds.length/\n=.int .i64 (lvF (ds.take k))/\Hid (wr.heap[w.heap.size]?=some (.stringIter (tx ds) k))/\Hid (Below w.heap.size w wr)) (fun _ wr=>ds.length - wr.iterPos w.heap.size)
  case atStart=>exact ⟨0,by omega,rfl,World.iter_heap w (tx ds) 0,(Below.refl _ _).alloc (Nat.le_refl _) _⟩
  case round=>
   obtain ⟨k,hk,rfl,HI,HB⟩:=hrel
   by_cases hkl:k < ds.length
   ·have hks:k < (tx ds).size:=by rw [HSz.out];exact hkl
    have hcd:isDg ds[k]=true:=HDg.out _ (List.getElem_mem hkl)
    have hcc:=u8_all (P:=fun c=>isDg c=true->48<=(c.toNat:Int)/\(c.toNat:Int)<=57) (by decide +kernel) ds[k] hcd
    have hg:(tx ds)[k]'hks=ds[k]:=rfl
    have hnx:∀ ty,(Instr.next (.pointer (some ⟨w.heap.size,0,none⟩)) true ty).run Tryz.prog wr=_:=fun ty=>Lib.run_next_ascii_at wr w.heap.size (tx ds) k ty HI.out hks (by rw [hg];omega)
    rw [hg] at hnx
    have HI2:=Lib.hid (Lib.iterAt_heap wr w.heap.size (tx ds) k (k+1) HI.out)
    have HB2:=Lib.hid (Lib.below_iterAt HB.out (k:=w.heap.size) (Nat.le_refl _) (tx ds) (k+1))
    have HS:=Lib.hid (lvF_snoc ds k hkl)
    have hbd:=lvF_bd (ds.take k) (fun c hc=>HDg.out c (List.mem_of_mem_take hc))
    have hbd2:lvF (ds.take k) < 10000:=by
     have h5:(ds.take k).length=0∨(ds.take k).length=1∨(ds.take k).length=2∨(ds.take k).length=3∨(ds.take k).length=4:=by rw [List.length_take];omega
     have h3:(10:Int) ^ (ds.take k).length<=10000:=by rcases h5 with h | h | h | h | h <;> rw [h] <;> decide
     omega
    obtain ⟨hb0,_⟩:=hbd
    generalize wr.iterAt w.heap.size (tx ds) (k+1)=w2 at *
    generalize hcn:ds[k]=c at *
    obtain ⟨hc1,hc2⟩:=hcc
    clear hcn hg hcd
    generalize lvF (ds.take k)=n at *
    go_wp2_with fail
    go_roundw
    case rel=>exact ⟨k+1,by omega,by rw [HS.out],HI2.out,HB2.out⟩
    case measure=>
     have e1:w2.iterPos w.heap.size=k+1:=by unfold World.iterPos;rw [HI2.out]
     have e2:wr.iterPos w.heap.size=k:=by unfold World.iterPos;rw [HI.out]
     rw [e1,e2];omega
   ·have hks:¬ k < (tx ds).size:=by rw [HSz.out];exact hkl
    have hnx:∀ ty,(Instr.next (.pointer (some ⟨w.heap.size,0,none⟩)) true ty).run Tryz.prog wr=_:=fun ty=>Lib.run_next_end_at wr w.heap.size (tx ds) k ty HI.out hks
    have HT:Hid (ds.take k=ds):=List.take_of_length_le (by omega)
    rw [HT.out]
    go_wp2_with fail
    go_ret
    exact ⟨rfl,HB.out⟩
end Go.Proofs.YtgjhepblpdnkcaaGreatDoor
namespace Go.Proofs.YtgjhepblpdnkcaaGreatDoor
open Go.RowKit

/-- The cells of four words. -/
def cw (W:Nat->Nat):Array Value:=#[.int .u64 (W 0),.int .u64 (W 1),.int .u64 (W 2),.int .u64 (W 3)]
def Words (W:Nat->Nat):Prop:=∀ i,W i < 2 ^ 64
theorem cw_get (W:Nat->Nat) (i:Nat) (h:i < 4):(cw W)[i]?=some (.int .u64 (W i)):=by
 have:i=0∨i=1∨i=2∨i=3:=by omega
 rcases this with rfl | rfl | rfl | rfl <;> rfl
def putW (W:Nat->Nat) (b:Nat):Nat->Nat:=fun i=>if i=b / 64 then W i ||| 2 ^ (b % 64) else W i
theorem cw_set (W:Nat->Nat) (b:Nat) (h:b < 256) (x:Int) (hx:x=((W (b / 64) ||| 2 ^ (b % 64):Nat):Int)):(cw W).setIfInBounds (b / 64) (.int .u64 x)=cw (putW W b):=by
 subst hx
 have:b / 64=0∨b / 64=1∨b / 64=2∨b / 64=3:=by omega
 rcases this with h | h | h | h <;> simp [cw,putW,h]

theorem wraps64 (n:Int) (h0:0<=n) (h1:n < 2 ^ 64):IntKind.u64.wrap n=n:=by
 have h2:(2:Int) ^ 64=18446744073709551616:=by decide
 rw [h2] at h1
 simp [IntKind.wrap,IntKind.bits,IntKind.signed];omega
theorem or_word (x n:Nat) (hx:x < 2 ^ 64) (hn:n < 64):bits BinOp.or IntKind.u64 (x:Int) (IntKind.u64.wrap (2 ^ n))=((x ||| 2 ^ n:Nat):Int):=by
 have h2:(2:Nat) ^ n < 2 ^ 64:=Nat.pow_lt_pow_right (by decide) hn
 have e:IntKind.u64.wrap (2 ^ n)=((2 ^ n:Nat):Int):=by
  rw [wraps64 _ (by exact_mod_cast Nat.zero_le (2 ^ n)) (by exact_mod_cast h2)]
  norm_cast
 rw [e]
 exact (bits_nat .u64 64 (by decide) wraps64 x (2 ^ n) hx h2).2
theorem putW_words {W:Nat->Nat} (h:Words W) (b:Nat):Words (putW W b):=by
 intro i
 unfold putW
 split
 ·exact Nat.or_lt_two_pow (h i) (Nat.pow_lt_pow_right (by decide) (Nat.mod_lt _ (by decide)))
 ·exact h i

set_option maxHeartbeats 1000000 in
theorem put_any (w:World) (g:Nat) (W:Nat->Nat) (hr:hrow w g (cw W) 275) (hW:Words W) (b:Nat) (hb:b < 256):
  Calls Tryz.prog 200 #[.pointer (some ⟨g,0,none⟩),.int .u8 b] w fun r w'=>r=.returned (.tuple #[])/\hrow w' g (cw (putW W b)) 275/\Fr (fun k=>k=g) w w':=by
 have HR:=Lib.hid hr
 have HW:=Lib.hid hW
 have hc:∀ x:Later w,x.val.cell? ⟨g,b / 64,none⟩=some (.int .u64 (W (b / 64))):=fun x=>((HR.out.below x.ok).cell _).trans (cw_get W _ (by omega))
 have hf:∀ x:Later w,x.val.frozen? ⟨g,b / 64,none⟩=false:=fun x=>((HR.out.below x.ok).frozen _)
 clear hr hW
 go_enter Tryz.func200,Tryz.ntmps200
 go_wp2_with fail
 refine wp_region_later_tail 12 (by kernel_rfl) (by kernel_rfl) ?_
 simp only [List.take_succ_cons,List.take_zero,List.drop_succ_cons,List.drop_zero]
 repeat (go_big_quiet_step (fail))
 refine wpQuiet_nil ?_
 intro w5 hw5
 obtain ⟨x,rfl⟩:=hw5
 go_wp2_with fail
 go_end0
 refine ⟨rfl,?_,(Fr.of_below x.ok).trans (Fr.setCell _ _ _) (fun _ _ h=>h)⟩
 unfold hrow
 rw [heap_setCell_same _ _ _ _ _ _ (HR.out.below x.ok)]
 rw [cw_set W b hb _ (or_word _ _ (HW.out _) (Nat.mod_lt _ (by decide)))]

/-- Is the byte in? -/
def inW (W:Nat->Nat) (b:Nat):Bool:=(W (b / 64)).testBit (b % 64)

theorem inW_put (W:Nat->Nat) (b c:Nat):inW (putW W b) c=(inW W c || decide (c=b)):=by
 unfold inW putW
 by_cases h:c / 64=b / 64
 ·rw [if_pos h,Nat.testBit_or,Nat.testBit_two_pow]
  congr 1
  rw [Bool.eq_iff_iff,decide_eq_true_iff,decide_eq_true_iff]
  omega
 ·rw [if_neg h]
  have:decide (c=b)=false:=decide_eq_false (fun e=>h (by rw [e]))
  rw [this,Bool.or_false]

def noW:Nat->Nat:=fun _=>0
theorem noW_words:Words noW:=fun _=>by unfold noW;decide
theorem inW_no (c:Nat):inW noW c=false:=by unfold inW noW;exact Nat.zero_testBit _

/-- The cells of a class that is to be handed back, and of the set that is made. -/
structure SetSt (w wr:World) (W:Nat->Nat):Prop where
 below:Below w.heap.size w wr
 res:hrow wr w.heap.size (cw noW) 43
 set:hrow wr (w.heap.size+1) (cw W) 275
 words:Words W
theorem SetSt.start (w:World):SetSt w ((w.alloc (.cells #[.int .u64 0,.int .u64 0,.int .u64 0,.int .u64 0] 43)).alloc (.cells #[.int .u64 0,.int .u64 0,.int .u64 0,.int .u64 0] 275)) noW:=by
 refine ⟨((Below.refl _ _).alloc (Nat.le_refl _) _).alloc (by simp) _,?_,?_,noW_words⟩
 ·exact (hrow.new w _ 43).below ((Below.refl _ _).alloc (Nat.le_refl _) _)
 ·have:=hrow.new (w.alloc (.cells #[.int .u64 0,.int .u64 0,.int .u64 0,.int .u64 0] 43)) #[.int .u64 0,.int .u64 0,.int .u64 0,.int .u64 0] 275
  simp only [World.size_alloc] at this
  exact this
theorem SetSt.step {w wr w':World} {W W':Nat->Nat} (h:SetSt w wr W) (hr:hrow w' (w.heap.size+1) (cw W') 275) (hf:Fr (fun k=>k=w.heap.size+1) wr w') (hW:Words W'):SetSt w w' W':=
 ⟨h.below.trans (hf.below h.below.size (by intro k hk;omega)) ,h.res.fr hf (by omega),hr,hW⟩
theorem cw_info:(Tryz.prog.info? 43).map (·.size)=some 4/\(Tryz.prog.info? 275).map (·.size)=some 4:=⟨by kernel_rfl,by kernel_rfl⟩
theorem cw_one (W:Nat->Nat):(cw W).all (·.oneCell')=true:=by simp [cw,Value.oneCell']

set_option maxRecDepth 100000 in
set_option maxHeartbeats 1000000 in
theorem range_any (w:World) (a b:Nat) (ha:a < 256) (hb:b < 256):
  Calls Tryz.prog 183 #[.int .u8 a,.int .u8 b] w fun r w'=>∃ W,r=.returned (.agg (cw W))/\Words W/\(∀ c,inW W c=decide (a<=c/\c<=b))/\Below w.heap.size w w':=by
 go_enter Tryz.func183,Tryz.ntmps183
 go_wp2_with fail
 have HS:=Lib.hid (SetSt.start w)
 go_loopw [6] (fun i wr=>∃ k:Nat,k<=256/\a<=k/\i=.int .i64 k/\(k<=b∨k=a∨k=b+1)/\Hid (∃ W,SetSt w wr W/\∀ c,inW W c=decide (a<=c/\c < k))) (fun i _=>256 - (intOf i).toNat)
 case atStart=>exact ⟨a,by omega,by omega,rfl,.inr (.inl rfl),noW,HS.out,fun c=>by rw [inW_no];simp⟩
 case round=>
  obtain ⟨k,hk,hak,rfl,hkb,hI⟩:=hrel
  obtain ⟨W,hS,hin⟩:=hI.out
  have HS1:=Lib.hid hS;have HIn:=Lib.hid hin
  clear hI hS hin HS
  by_cases hlt:k<=b
  ·have hkb':=Lib.hid hkb
   clear hkb
   go_wp2_with (go_at_call 200;refine (put_any _ _ W HS1.out.set HS1.out.words k (by omega)).mono ?_;rintro e w2 ⟨rfl,hr2,hf2⟩;have HS2:=Lib.hid (HS1.out.step hr2 hf2 (putW_words HS1.out.words k));clear hr2 hf2)
   go_roundw
   case rel=>exact ⟨k+1,by omega,by omega,by go_num,by omega,_,HS2.out,fun c=>by rw [inW_put,HIn.out,Bool.eq_iff_iff,Bool.or_eq_true,decide_eq_true_iff,decide_eq_true_iff,decide_eq_true_iff];omega⟩
   case measure=>simp [intOf];omega
  ·have hkb':=Lib.hid hkb
   clear hkb
   have K1:Hid ((Tryz.prog.info? 275).map (·.size)=some (cw W).size):=cw_info.2
   have K2:Hid ((Tryz.prog.info? 43).map (·.size)=some (cw W).size):=cw_info.1
   go_wp2_with (first
    | (with_reducible refine wpList_load_row rfl 275 (.tmp 5) rfl _ rfl 275 _ _ _ HS1.out.set.h Tryz.underlying275 rfl K1.out ?_)
    | (with_reducible refine wpList_store_row rfl 43 (.tmp 4) (.tmp 18) rfl w.heap.size (cw W) rfl rfl 43 _ HS1.out.res.h K2.out rfl (cw_one W) ?_))
   refine bodyPost_ret (results_cell_row rfl _ _ w.heap.size 43 _ _ _ rfl (setRow_heap _ _ _ _ _ _ HS1.out.res) Tryz.underlying43 rfl K2.out) rfl ?_
   exact ⟨W,rfl,HS1.out.words,fun c=>by rw [HIn.out,Bool.eq_iff_iff,decide_eq_true_iff,decide_eq_true_iff];have:=hkb'.out;omega,below_setRow HS1.out.below (Nat.le_refl _) _⟩
end Go.Proofs.YtgjhepblpdnkcaaGreatDoor
namespace Go.Proofs.YtgjhepblpdnkcaaGreatDoor
open Go.RowKit

def orW (W V:Nat->Nat):Nat->Nat:=fun i=>W i ||| V i
theorem orW_words {W V:Nat->Nat} (h:Words W) (k:Words V):Words (orW W V):=fun i=>Nat.or_lt_two_pow (h i) (k i)
/-- The first k words are joined. -/
def orK (W V:Nat->Nat) (k:Nat):Nat->Nat:=fun i=>if i < k then W i ||| V i else W i
theorem orK_set (W V:Nat->Nat) (k:Nat) (hk:k < 4) (x:Int) (hx:x=((W k ||| V k:Nat):Int)):(cw (orK W V k)).setIfInBounds k (.int .u64 x)=cw (orK W V (k+1)):=by
 subst hx
 have:k=0∨k=1∨k=2∨k=3:=by omega
 rcases this with rfl | rfl | rfl | rfl <;> simp [cw,orK]
theorem orK_four (W V:Nat->Nat):cw (orK W V 4)=cw (orW W V):=by simp [cw,orK,orW]
theorem orK_zero (W V:Nat->Nat):orK W V 0=W:=by funext i;simp [orK]
theorem orK_at (W V:Nat->Nat) (k:Nat):orK W V k k=W k:=by simp [orK]
theorem or_words (x y:Nat) (hx:x < 2 ^ 64) (hy:y < 2 ^ 64):bits BinOp.or IntKind.u64 (x:Int) (y:Int)=((x ||| y:Nat):Int):=(bits_nat .u64 64 (by decide) wraps64 x y hx hy).2

set_option maxRecDepth 100000 in
set_option maxHeartbeats 1000000 in
theorem orm_any (w:World) (g:Nat) (W V:Nat->Nat) (hr:hrow w g (cw W) 275) (hW:Words W) (hV:Words V):
  Calls Tryz.prog 199 #[.pointer (some ⟨g,0,none⟩),.agg (cw V)] w fun r w'=>r=.returned (.tuple #[])/\hrow w' g (cw (orW W V)) 275/\Fr (fun k=>k=g) w w':=by
 have HR:=Lib.hid hr
 have HW:=Lib.hid hW
 have HV:=Lib.hid hV
 clear hr hW hV
 have hgw:=HR.out.lt
 go_enter Tryz.func199,Tryz.ntmps199
 go_wp2_with fail
 have h0:hrow (w.alloc (.cells (cw V) 275)) g (cw (orK W V 0)) 275:=by rw [orK_zero];exact HR.out.below ((Below.refl _ _).alloc (Nat.le_refl _) _)
 have h1:hrow (w.alloc (.cells (cw V) 275)) w.heap.size (cw V) 275:=hrow.new _ _ _
 have h2:Fr (fun k=>k=g) w (w.alloc (.cells (cw V) 275)):=Fr.of_below ((Below.refl _ _).alloc (Nat.le_refl _) _)
 have H0:=Lib.hid (And.intro h0 (And.intro h1 h2))
 clear h0 h1 h2
 go_loopw [5] (fun i wr=>∃ k:Nat,k<=4/\i=.int .i64 k/\Hid (hrow wr g (cw (orK W V k)) 275/\hrow wr w.heap.size (cw V) 275/\Fr (fun k=>k=g) w wr)) (fun i _=>4 - (intOf i).toNat)
 case atStart=>exact ⟨0,by omega,rfl,H0.out⟩
 case round=>
  obtain ⟨k,hk,rfl,hI⟩:=hrel
  have H1:=Lib.hid hI.out.1;have H2:=Lib.hid hI.out.2.1;have H3:=Lib.hid hI.out.2.2
  clear hI H0
  by_cases hlt:k < 4
  ·have hcg:∀ x:Later wr,x.val.cell? ⟨g,k,none⟩=some (.int .u64 (W k)):=fun x=>by
    rw [(H1.out.below x.ok).cell,cw_get _ _ hlt,orK_at]
   have hcv:∀ x:Later wr,x.val.cell? ⟨w.heap.size,k,none⟩=some (.int .u64 (V k)):=fun x=>by
    rw [(H2.out.below x.ok).cell,cw_get _ _ hlt]
   have hfg:∀ x:Later wr,x.val.frozen? ⟨g,k,none⟩=false:=fun x=>(H1.out.below x.ok).frozen _
   have hk0:(0:Int)<=k:=by omega
   have hk4:(k:Int) < 4:=by omega
   go_upto_region 4 with (fail)
   refine wp_region_later_tail 11 (by kernel_rfl) (by kernel_rfl) ?_
   simp only [List.take_succ_cons,List.take_zero,List.drop_succ_cons,List.drop_zero]
   repeat (go_big_quiet_step (fail))
   refine wpQuiet_nil ?_
   intro w5 hw5
   obtain ⟨x,rfl⟩:=hw5
   go_wp2_with fail
   go_roundw
   case rel=>
    refine ⟨k+1,by omega,by go_num,?_,?_,?_⟩
    ·unfold hrow
     rw [heap_setCell_same _ _ _ _ _ _ (H1.out.below x.ok).h,orK_set W V k hlt _ (or_words _ _ (HW.out k) (HV.out k))]
    ·exact (H2.out.below x.ok).fr (Fr.setCell _ _ _) (by simp;omega)
    ·exact (H3.out.trans (Fr.of_below x.ok) (fun _ _ h=>h)).trans (Fr.setCell _ _ _) (fun _ _ h=>h)
   case measure=>simp [intOf];omega
  ·have hk4:k=4:=by omega
   subst hk4
   go_wp2_with fail
   go_end0
   exact ⟨rfl,by have:=H1.out;unfold hrow at *;rw [← orK_four];exact this,H3.out⟩

/-- What is folded. -/
def orL (Ws:List (Nat->Nat)):Nat->Nat:=Ws.foldl orW noW
theorem orL_snoc (Ws:List (Nat->Nat)) (V:Nat->Nat):orL (Ws ++ [V])=orW (orL Ws) V:=by simp [orL]
def cws (Ws:List (Nat->Nat)):List Value:=Ws.flatMap fun W=>(cw W).toList
theorem cws_len:∀ Ws:List (Nat->Nat),(cws Ws).length=Ws.length * 4
 | []=>rfl
 | W :: r=>by
  have h:=cws_len r
  show ((cw W).toList ++ cws r).length=_
  rw [List.length_append,h];simp [cw];omega
theorem cws_get (Ws:List (Nat->Nat)) (k:Nat) (hk:k < Ws.length):∀ j v,(cw (Ws[k])).toList[j]?=some v->(cws Ws)[k * 4+j]?=some v:=by
 induction Ws generalizing k with
 | nil=>simp at hk
 | cons W r ih=>
  intro j v hj
  have hj4:j < 4:=by have:=(List.getElem?_eq_some_iff.1 hj).1;simpa [cw] using this
  show ((cw W).toList ++ cws r)[k * 4+j]?=some v
  have hl:(cw W).toList.length=4:=rfl
  cases k with
  | zero=>rw [List.getElem?_append_left (by rw [hl];omega)];simpa using hj
  | succ k=>
   rw [List.getElem?_append_right (by rw [hl];omega),hl,show (k+1) * 4+j - 4=k * 4+j from by omega]
   exact ih k (by simpa using hk) j v (by simpa using hj)

structure FoldSt (w wr:World) (W:Nat->Nat):Prop where
 below:Below w.heap.size w wr
 set:hrow wr w.heap.size (cw W) 275
 res:hrow wr (w.heap.size+1) (cw noW) 43
 words:Words W
theorem FoldSt.start (w:World):FoldSt w ((w.alloc (.cells (cw noW) 275)).alloc (.cells #[.int .u64 0,.int .u64 0,.int .u64 0,.int .u64 0] 43)) noW:=by
 refine ⟨((Below.refl _ _).alloc (Nat.le_refl _) _).alloc (by simp) _,?_,?_,noW_words⟩
 ·exact (hrow.new w _ 275).below ((Below.refl _ _).alloc (Nat.le_refl _) _)
 ·have:=hrow.new (w.alloc (.cells (cw noW) 275)) #[.int .u64 0,.int .u64 0,.int .u64 0,.int .u64 0] 43
  simp only [World.size_alloc] at this
  exact this
theorem FoldSt.later {w wr w':World} {W:Nat->Nat} (h:FoldSt w wr W) (hb:Below wr.heap.size wr w'):FoldSt w w' W:=
 ⟨h.below.trans (hb.mono h.below.size),h.set.below hb,h.res.below hb,h.words⟩
theorem FoldSt.step {w wr w':World} {W W':Nat->Nat} (h:FoldSt w wr W) (hr:hrow w' w.heap.size (cw W') 275) (hf:Fr (fun k=>k=w.heap.size) wr w') (hW:Words W'):FoldSt w w' W':=
 ⟨h.below.trans (hf.below h.below.size (by intro k hk;omega)),hr,h.res.fr hf (by omega),hW⟩

set_option maxRecDepth 100000 in
set_option maxHeartbeats 1000000 in
theorem fold_any (w:World) (ao:Option Addr) (cap n:Nat) (Ws:List (Nat->Nat)) (hs:Sv w ao n cap 4 (cws Ws)) (hW:∀ W ∈ Ws,Words W):
  Calls Tryz.prog 198 #[.agg (cw noW),.func (.func 199) #[] #[],.slice ao n cap] w fun r w'=>r=.returned (.agg (cw (orL Ws)))/\Below w.heap.size w w':=by
 obtain ⟨h1,h2⟩:=hs.bound
 have hl:Ws.length=n:=by have:=hs.len;rw [cws_len] at this;omega
 have HSl:=Lib.hid hs;clear hs
 have HL:=Lib.hid hl;clear hl
 have HZ:=Lib.hid hW;clear hW
 go_enter Tryz.func198,Tryz.ntmps198
 go_wp2_with fail
 have HS:=Lib.hid (FoldSt.start w)
 go_loopw [11] (fun i wr=>∃ k:Nat,k<=n/\i=.int .i64 k/\Hid (FoldSt w wr (orL (Ws.take k)))) (fun i _=>n - (intOf i).toNat)
 case atStart=>exact ⟨0,by omega,rfl,HS.out⟩
 case round=>
  obtain ⟨k,hk,rfl,hI⟩:=hrel
  clear HS
  by_cases hlt:k < n
  ·have hkz:k < Ws.length:=by have:=HL.out;omega
   have hcl:=cws_len Ws
   obtain ⟨a,rfl,_⟩:=HSl.out.cell (k * 4) (by omega)
   have hcp:∀ j v,(cw (Ws[k])).toList[j]?=some v->wr.cell? ((a.add (k * 4)).add j)=some v:=fun j v hj=>by
    have h1:=cws_get Ws k hkz j v hj
    have hlt':=(List.getElem?_eq_some_iff.1 h1).1
    obtain ⟨a',ha',hc'⟩:=(HSl.out.below hI.out.below).cell (k * 4+j) hlt'
    cases ha'
    rw [add_add,hc',h1]
   have hts:Ws.take (k+1)=Ws.take k ++ [Ws[k]]:=List.take_succ_eq_append_getElem hkz
   have hor:orL (Ws.take (k+1))=orW (orL (Ws.take k)) Ws[k]:=by rw [hts,orL_snoc]
   have hWk:=HZ.out _ (List.getElem_mem hkz)
   have HCp:=Lib.hid hcp;have HOr:=Lib.hid hor;have HWk:=Lib.hid hWk
   clear hcp hts hor hWk hcl
   generalize Ws[k]'_=V at *
   clear hkz
   have K2:Hid ((Tryz.prog.info? 43).map (·.size)=some (cw V).size):=cw_info.1
   have h0k:(0:Int)<=k:=by omega
   go_upto_region 4 with (first
    | (refine wpList_load_part rfl 43 (.tmp 13) rfl (a.add (k * 4)) rfl (cw V) _ HCp.out Tryz.underlying43 rfl K2.out ?_)
    | (with_reducible refine wpList_store_row rfl 43 (.tmp 8) (.tmp 14) rfl wr.heap.size (cw V) rfl rfl 43 _ (heap_alloc_new _ _) K2.out rfl (cw_one V) ?_))
   have hr:=setRow_heap (wr.alloc (.cells #[.int .u64 0,.int .u64 0,.int .u64 0,.int .u64 0] 43)) wr.heap.size _ (cw V) 43 _ (heap_alloc_new wr _)
   have hb:=below_setRow ((Below.refl wr.heap.size wr).alloc (Nat.le_refl _) (.cells #[.int .u64 0,.int .u64 0,.int .u64 0,.int .u64 0] 43)) (Nat.le_refl wr.heap.size) (cw V)
   have HR:=Lib.hid hr;have HB:=Lib.hid hb
   clear hr hb
   revert HR HB
   generalize (wr.alloc (.cells #[.int .u64 0,.int .u64 0,.int .u64 0,.int .u64 0] 43)).setRow wr.heap.size (cw V)=w3
   intro HR HB
   have HI3:=Lib.hid (hI.out.later HB.out)
   go_frame
   go_wp2_with (first
    | (with_reducible refine wpList_load_row rfl 43 (.tmp 8) rfl _ rfl 43 _ _ _ HR.out Tryz.underlying43 rfl K2.out ?_)
    | (go_at_call 199;refine (orm_any _ _ (orL (Ws.take k)) V HI3.out.set HI3.out.words HWk.out).mono ?_;rintro e w2 ⟨rfl,hr2,hf2⟩;have HS2:=Lib.hid (HI3.out.step hr2 hf2 (orW_words HI3.out.words HWk.out));clear hr2 hf2))
   go_roundw
   case rel=>exact ⟨k+1,by omega,by go_num,by rw [HOr.out];exact HS2.out⟩
   case measure=>simp [intOf];omega
  ·have ht:Ws.take k=Ws:=List.take_of_length_le (by have:=HL.out;omega)
   rw [ht] at hI
   clear ht
   have K1:Hid ((Tryz.prog.info? 275).map (·.size)=some (cw (orL Ws)).size):=cw_info.2
   have K2:Hid ((Tryz.prog.info? 43).map (·.size)=some (cw (orL Ws)).size):=cw_info.1
   go_wp2_with (first
    | (with_reducible refine wpList_load_row rfl 275 (.tmp 3) rfl _ rfl 275 _ _ _ hI.out.set.h Tryz.underlying275 rfl K1.out ?_)
    | (with_reducible refine wpList_store_row rfl 43 (.tmp 6) (.tmp 19) rfl (w.heap.size+1) (cw (orL Ws)) rfl rfl 43 _ hI.out.res.h K2.out rfl (cw_one _) ?_))
   refine bodyPost_ret (results_cell_row rfl _ _ (w.heap.size+1) 43 _ _ _ rfl (setRow_heap _ _ _ _ _ _ hI.out.res) Tryz.underlying43 rfl K2.out) rfl ?_
   exact ⟨rfl,below_setRow hI.out.below (by omega) _⟩
end Go.Proofs.YtgjhepblpdnkcaaGreatDoor
namespace Go.Proofs.YtgjhepblpdnkcaaGreatDoor
open Go.RowKit

set_option maxRecDepth 100000 in
set_option maxHeartbeats 1000000 in
theorem orF_any (w:World) (ao:Option Addr) (cap n:Nat) (Ws:List (Nat->Nat)) (hs:Sv w ao n cap 4 (cws Ws)) (hW:∀ W ∈ Ws,Words W):
  Calls Tryz.prog 182 #[.slice ao n cap] w fun r w'=>r=.returned (.agg (cw (orL Ws)))/\Below w.heap.size w w':=by
 have HSl:=Lib.hid hs;clear hs
 have HZ:=Lib.hid hW;clear hW
 have K2:Hid ((Tryz.prog.info? 43).map (·.size)=some (cw (orL Ws)).size):=cw_info.1
 go_enter Tryz.func182,Tryz.ntmps182
 go_wp2_with fail
 have HB:=Lib.hid ((Below.refl w.heap.size w).alloc (Nat.le_refl _) (.cells #[.int .u64 0,.int .u64 0,.int .u64 0,.int .u64 0] 43))
 have HR:=Lib.hid (show hrow (w.alloc (.cells #[.int .u64 0,.int .u64 0,.int .u64 0,.int .u64 0] 43)) w.heap.size (cw noW) 43 from hrow.new _ _ _)
 revert HB HR
 generalize w.alloc (.cells #[.int .u64 0,.int .u64 0,.int .u64 0,.int .u64 0] 43)=wb
 intro HB HR
 refine (fold_any wb ao cap n Ws (HSl.out.below HB.out) HZ.out).mono ?_
 rintro e w2 ⟨rfl,hb2⟩
 have HB2:=Lib.hid hb2;clear hb2
 have HR2:=Lib.hid (HR.out.below HB2.out)
 go_wp2_with (first
  | (with_reducible refine wpList_store_row rfl 43 (.tmp 2) (.tmp 5) rfl w.heap.size (cw (orL Ws)) rfl rfl 43 _ HR2.out.h K2.out rfl (cw_one _) ?_))
 refine bodyPost_ret (results_cell_row rfl _ _ w.heap.size 43 _ _ _ rfl (setRow_heap _ _ _ _ _ _ HR2.out) Tryz.underlying43 rfl K2.out) rfl ?_
 exact ⟨rfl,below_setRow (HB.out.trans (HB2.out.mono HB.out.size)) (Nat.le_refl _) _⟩

end Go.Proofs.YtgjhepblpdnkcaaGreatDoor
namespace Go.Proofs.YtgjhepblpdnkcaaGreatDoor
open Go.RowKit
set_option maxRecDepth 100000
set_option maxHeartbeats 4000000

/-- The words of a range. -/
def rgW (p:UInt8×UInt8):Nat->Nat:=((List.range 256).filter fun c=>decide (p.1.toNat<=c/\c<=p.2.toNat)).foldl putW noW
/-- The words of a class that is given by ranges. -/
def clsW (R:List (UInt8×UInt8)):Nat->Nat:=R.foldl (fun W p=>orW W (rgW p)) noW
theorem clsW_snoc (R:List (UInt8×UInt8)) (p:UInt8×UInt8):clsW (R ++ [p])=orW (clsW R) (rgW p):=by unfold clsW;rw [List.foldl_append];rfl
theorem foldl_put:∀ (l:List Nat) (W:Nat->Nat),(∀ b ∈ l,b < 256)->Words W->Words (l.foldl putW W)/\∀ c,inW (l.foldl putW W) c=(inW W c || l.contains c)
 | [],W,_,hW=>⟨hW,fun c=>by simp⟩
 | b :: l,W,hb,hW=>by
  obtain ⟨h1,h2⟩:=foldl_put l (putW W b) (fun x hx=>hb x (by simp [hx])) (putW_words hW b)
  refine ⟨h1,fun c=>?_⟩
  rw [List.foldl_cons,h2,inW_put,List.contains_cons,Bool.or_assoc]
  congr 1
theorem rgW_words (p:UInt8×UInt8):Words (rgW p):=(foldl_put _ _ (fun b hb=>by simpa using (List.mem_filter.1 hb).1) noW_words).1
theorem rgW_in (p:UInt8×UInt8) (c:Nat) (hc:c < 256):inW (rgW p) c=decide (p.1.toNat<=c/\c<=p.2.toNat):=by
 unfold rgW
 rw [(foldl_put _ _ (fun b hb=>by simpa using (List.mem_filter.1 hb).1) noW_words).2,inW_no,Bool.false_or,Bool.eq_iff_iff,List.contains_iff_mem,List.mem_filter]
 simp [hc]
theorem clsW_words:∀ R,Words (clsW R):=by
 intro R
 unfold clsW
 suffices h:∀ (R:List (UInt8×UInt8)) W,Words W->Words (R.foldl (fun W p=>orW W (rgW p)) W) from h R _ noW_words
 intro R
 induction R with
 | nil=>exact fun _ h=>h
 | cons p R ih=>exact fun W h=>ih _ (orW_words h (rgW_words p))
/-- Classes with the same bytes are the same. -/
theorem cw_ext {W V:Nat->Nat} (hW:Words W) (hV:Words V) (h:∀ c,c < 256->inW W c=inW V c):cw W=cw V:=by
 have e:∀ i,i < 4->W i=V i:=fun i hi=>by
  apply Nat.eq_of_testBit_eq
  intro j
  by_cases hj:j < 64
  ·have:=h (64 * i+j) (by omega)
   unfold inW at this
   rw [show (64 * i+j) / 64=i by omega,show (64 * i+j) % 64=j by omega] at this
   exact this
  ·rw [Nat.testBit_lt_two_pow (Nat.lt_of_lt_of_le (hW i) (Nat.pow_le_pow_right (by omega) (by omega))),Nat.testBit_lt_two_pow (Nat.lt_of_lt_of_le (hV i) (Nat.pow_le_pow_right (by omega) (by omega)))]
 unfold cw
 rw [e 0 (by omega),e 1 (by omega),e 2 (by omega),e 3 (by omega)]
theorem rng_any (p:UInt8×UInt8) (w:World):Calls Tryz.prog 183 #[.int .u8 p.1.toNat,.int .u8 p.2.toNat] w fun e w'=>e=.returned (.agg (cw (rgW p)))/\Below w.heap.size w w':=
 (range_any w p.1.toNat p.2.toNat p.1.toNat_lt p.2.toNat_lt).mono fun e w' ⟨W,he,hW,hin,hb⟩=>⟨by rw [he,cw_ext hW (rgW_words p) (fun c hc=>by rw [hin,rgW_in p c hc])],hb⟩
/-- A word's cells, and what a reader of words tells. -/
def wdv (r:Wr) (k:Nat):Array Value:=wdA r.kind k ((k:Int)+r.n) (tx r.tx) r.lv (clsW r.cl 0) (clsW r.cl 1) (clsW r.cl 2) (clsW r.cl 3)
def wd0:Array Value:=wdA 0 0 0 ⟨#[]⟩ 0 0 0 0 0
def rdO (o:Option Wr) (k:Nat):Value:=match o with
 | some r=>.tuple #[.agg (wdv r k),.bool true]
 | none=>.tuple #[.agg wd0,.bool false]
/-- The end. -/
def endR (l:List UInt8):Option Wr:=match l with | []=>some ⟨1,0,[],0,[]⟩ | _=>none
/-- An arrow. -/
def arrR (l:List UInt8):Option Wr:=match l with | c :: d :: _=>if c == 60 && d == 45 then some ⟨5,2,[60,45],0,[]⟩ else none | _=>none
/-- A sign. -/
def sgnR (l:List UInt8):Option Wr:=match l with | c :: _=>if sgs.contains c then some ⟨5,1,[c],0,[]⟩ else none | []=>none
theorem results_row2 {P:Program} {fn:Func} {p q:Tmp} {ty:TypeId} (h:fn.results=#[.cell p ty,.tmp q]) (tmps:Array Value) (w:World) (g:Nat) (t:TypeId) (cs:Array Value) (fr:Nat×Nat) (d:TypeDesc)
    (hp:tmps.getD p undef=.pointer (some ⟨g,0,none⟩)) (hg:w.heap[g]?=some (.cells cs t fr))
    (hu:P.underlying ty=some d) (hd:(match d with | .struct _ | .array _ _=>true | _=>false)=true) (hi:(P.info? ty).map (·.size)=some cs.size):
    (results fn tmps).run P w=.ok (.tuple #[.agg cs,tmps.getD q undef]) w:=by
  have hp':tmps[p]?.getD undef=.pointer (some ⟨g,0,none⟩):=by simpa using hp
  simp [results,h,hp',asAddr,run_loadVar_row w g t ty cs fr d hg hu hd hi]
theorem wd_info:(Tryz.prog.info? 82).map (·.size)=some 9:=by decide +kernel
theorem wd_sz {cs:Array Value} (h:cs.size=9):(Tryz.prog.info? 82).map (·.size)=some cs.size:=h ▸ wd_info
theorem wd_all (kind at_ nx:Int) (t:ByteArray) (lv c0 c1 c2 c3:Int):(wdA kind at_ nx t lv c0 c1 c2 c3).all (·.oneCell')=true:=by simp [wdA,Value.oneCell']
/-- The store of a word into a word's block. -/
theorem store_word {ops:Array Oper} {rest:List Oper} {o:Oper} {a:Act} {w:World} {Q:Exit->Act->World->Prop} (hgd:o.guard=none) (x y:Operand) (ho:o.op=.store 82 x y)
    (g:Nat) (kind at_ nx:Int) (t:ByteArray) (lv c0 c1 c2 c3:Int) (hx:a.eval x=.pointer (some ⟨g,0,none⟩)) (hy:a.eval y=.agg #[.int .i64 kind,.int .i64 at_,.int .i64 nx,.string t,.int .i64 lv,.int .u64 c0,.int .u64 c1,.int .u64 c2,.int .u64 c3])
    (hg:hrow w g wd0 82)
    (h:wpList Tryz.prog ops Q rest (a.put o.dst undef) (w.setRow g #[.int .i64 kind,.int .i64 at_,.int .i64 nx,.string t,.int .i64 lv,.int .u64 c0,.int .u64 c1,.int .u64 c2,.int .u64 c3])):wpList Tryz.prog ops Q (o :: rest) a w:=
  wpList_store_row hgd _ x y ho g _ hx hy _ _ hg.h (wd_sz rfl) rfl (wd_all ..) h
theorem results_word {fn:Func} {p q:Tmp} (h:fn.results=#[.cell p 82,.tmp q]) (tmps:Array Value) (w:World) (g:Nat) (cs:Array Value) (b:Value)
    (hp:tmps.getD p undef=.pointer (some ⟨g,0,none⟩)) (hq:tmps.getD q undef=b) (hg:hrow w g wd0 82) (hs:cs.size=9):(results fn tmps).run Tryz.prog (w.setRow g cs)=.ok (.tuple #[.agg cs,b]) (w.setRow g cs):=by
  subst hq
  exact results_row2 h tmps _ g _ cs _ _ hp (setRow_heap _ _ _ _ _ _ hg) Tryz.underlying82 rfl (wd_sz hs)
theorem end_any (s:ByteArray) (k g:Nat) (w:World) (hr:Rdr w g s k) (hs:s.size<=1000000) (hk:k<=s.size):
  Calls Tryz.prog 148 #[.pointer (some ⟨g,0,none⟩)] w fun e w'=>e=.returned (rdO (endR (s.data.toList.drop k)) k)/\Below w.heap.size w w':=by
 have HRD:=Lib.hid hr
 by_cases h:k < s.size
 ·have hI:(k:Int) < s.size:=by omega
  have hd:decide ((k:Int) < s.size)=true:=decide_eq_true hI
  have HE:Hid (endR (s.data.toList.drop k)=none):=by rw [drop_at h];rfl
  rw [HE.out]
  clear hr hs hk h
  go_enter Tryz.func148,Tryz.ntmps148
  go_wp2_with fail
  have HB:=Lib.hid ((Below.refl w.heap.size w).alloc (Nat.le_refl _) (.cells #[.int .i64 0,.int .i64 0,.int .i64 0,.string ⟨#[]⟩,.int .i64 0,.int .u64 0,.int .u64 0,.int .u64 0,.int .u64 0] 82))
  have HR:=Lib.hid (show hrow (w.alloc (.cells #[.int .i64 0,.int .i64 0,.int .i64 0,.string ⟨#[]⟩,.int .i64 0,.int .u64 0,.int .u64 0,.int .u64 0,.int .u64 0] 82)) w.heap.size wd0 82 from hrow.new _ _ _)
  replace HRD:=Lib.hid (Rdr.below HRD.out HB.out)
  revert HB HR HRD
  generalize w.alloc (.cells #[.int .i64 0,.int .i64 0,.int .i64 0,.string ⟨#[]⟩,.int .i64 0,.int .u64 0,.int .u64 0,.int .u64 0,.int .u64 0] 82)=wb
  intro HB HR HRD
  have HRN:Hid (∀ n,hrow (wb.drewN n) w.heap.size wd0 82):=Lib.hid (fun _=>HR.out)
  obtain ⟨c0,c1⟩:=hrow.c2 HRD.out
  go_quiet (fail)
  go_wp2_with (with_reducible refine store_word rfl (.tmp 2) (.tmp 16) rfl w.heap.size _ _ _ _ _ _ _ _ _ rfl rfl (HRN.out _) ?_)
  refine bodyPost_ret (results_word rfl _ _ w.heap.size _ _ rfl rfl (HRN.out _) ?_) rfl ?_
  next=>rfl
  next=>first | exact ⟨rfl,below_setRow (belowN HB.out _) (Nat.le_refl _) _⟩ | exact ⟨by rw [HE.out];rfl,below_setRow (belowN HB.out _) (Nat.le_refl _) _⟩
 ·obtain rfl:k=s.size:=by omega
  have hI:¬ (s.size:Int) < s.size:=by omega
  have hd:decide ((s.size:Int) < s.size)=false:=decide_eq_false hI
  have HE:Hid (endR (s.data.toList.drop s.size)=some ⟨1,0,[],0,[]⟩):=by rw [List.drop_eq_nil_of_le (by rw [ba_len];exact Nat.le_refl _)];rfl
  rw [HE.out]
  clear hr hk h
  have HS:=Lib.hid hs;clear hs
  go_enter Tryz.func148,Tryz.ntmps148
  go_wp2_with fail
  have HB:=Lib.hid ((Below.refl w.heap.size w).alloc (Nat.le_refl _) (.cells #[.int .i64 0,.int .i64 0,.int .i64 0,.string ⟨#[]⟩,.int .i64 0,.int .u64 0,.int .u64 0,.int .u64 0,.int .u64 0] 82))
  have HR:=Lib.hid (show hrow (w.alloc (.cells #[.int .i64 0,.int .i64 0,.int .i64 0,.string ⟨#[]⟩,.int .i64 0,.int .u64 0,.int .u64 0,.int .u64 0,.int .u64 0] 82)) w.heap.size wd0 82 from hrow.new _ _ _)
  replace HRD:=Lib.hid (Rdr.below HRD.out HB.out)
  revert HB HR HRD
  generalize w.alloc (.cells #[.int .i64 0,.int .i64 0,.int .i64 0,.string ⟨#[]⟩,.int .i64 0,.int .u64 0,.int .u64 0,.int .u64 0,.int .u64 0] 82)=wb
  intro HB HR HRD
  have HRN:Hid (∀ n,hrow (wb.drewN n) w.heap.size wd0 82):=Lib.hid (fun _=>HR.out)
  obtain ⟨c0,c1⟩:=hrow.c2 HRD.out
  go_quiet (fail)
  go_wp2_with fail
  refine (word_any 1 0 0 0 0 0 0 0 0 ⟨#[]⟩ s _ g _ (HRD.out.below (belowN (Below.refl _ _) _)) (by have:=HS.out;omega) (by omega) (by omega)).mono ?_
  rintro e wx ⟨rfl,hb⟩
  have HRX:=Lib.hid ((HRN.out _).below hb)
  have HBX:=Lib.hid ((belowN HB.out _).trans (hb.mono HB.out.size))
  clear hb
  go_wp2_with (with_reducible refine store_word rfl (.tmp 2) (.tmp 20) rfl w.heap.size _ _ _ _ _ _ _ _ _ rfl rfl HRX.out ?_)
  refine bodyPost_ret (results_word rfl _ _ w.heap.size _ _ rfl rfl HRX.out ?_) rfl ?_
  next=>rfl
  next=>first | exact ⟨rfl,below_setRow HBX.out (Nat.le_refl _) _⟩ | exact ⟨by rw [HE.out];rfl,below_setRow HBX.out (Nat.le_refl _) _⟩
end Go.Proofs.YtgjhepblpdnkcaaGreatDoor
