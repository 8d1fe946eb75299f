/- Walks and plain laws: Eg Eh Ei Ej Pb Wa Wb Wc Wd. -/
import Derived.Test.YtgjhepblpdnkcaaGreatDoorM02
import Derived.Lib.ConvBytes
import Derived.Lib.AtoiErrMem
import Derived.Shelf.Strings.SlTrimAscii
import Derived.Test.YtgjhepblpdnkcaaGreatDoorM01
import Derived.Lib.Bytealg
import Derived.Lib.SlTrimSet
import Derived.Lib.Strings
namespace Go.Proofs.YtgjhepblpdnkcaaGreatDoor
open Go.RowKit Go.ChangeMaps
set_option maxRecDepth 100000
set_option maxHeartbeats 4000000

def valI:Value->Int | .int _ n=>n | _=>0
theorem shE_st:(∀ x ∈ shE.toList,x.born < 3)/\(shE.toList.map (·.born)).Nodup:=by
 constructor
 ·intro x hx
  simp only [shE,List.mem_cons,List.not_mem_nil,or_false] at hx
  rcases hx with rfl | rfl | rfl <;> simp
 ·decide
/-- A letter that is found. -/
theorem shE_hit {e:MapEntry} (he:e ∈ shE.toList) (d:UInt8):∃ b v:UInt8,e.key=.int .u8 b.toNat/\e.val=.int .u8 v.toNat/\(v=d->lett d=some (b,2)):=by
 simp only [shE,List.mem_cons,List.not_mem_nil,or_false] at he
 rcases he with rfl | rfl | rfl
 ·exact ⟨10,110,rfl,rfl,fun h=>by subst h;rfl⟩
 ·exact ⟨13,114,rfl,rfl,fun h=>by subst h;rfl⟩
 ·exact ⟨9,116,rfl,rfl,fun h=>by subst h;rfl⟩
theorem shE_miss {d:UInt8} (h:∀ x ∈ shE.toList,¬ valI x.val=(d.toNat:Int)):lett d=if d == 92 || d == 34 || d == 93 || d == 45 then some (d,2) else none:=by
 have h1:=h ⟨.int .u8 10,.int .u8 110,0⟩ (by simp [shE])
 have h2:=h ⟨.int .u8 13,.int .u8 114,1⟩ (by simp [shE])
 have h3:=h ⟨.int .u8 9,.int .u8 116,2⟩ (by simp [shE])
 simp only [valI] at h1 h2 h3
 unfold lett
 rw [if_neg (by intro e;rw [beq_iff_eq] at e;subst e;exact h1 rfl),if_neg (by intro e;rw [beq_iff_eq] at e;subst e;exact h2 rfl),if_neg (by intro e;rw [beq_iff_eq] at e;subst e;exact h3 rfl)]
theorem ix_four (d:UInt8):decide (Lib.indexByte (ByteArray.mk #[92,34,93,45]).data.toList d < 0)=!(d == 92 || d == 34 || d == 93 || d == 45):=
 u8_all (P:=fun d=>decide (Lib.indexByte [92,34,93,45] d < 0)=!(d == 92 || d == 34 || d == 93 || d == 45)) (by decide +kernel) d
theorem letter_any (s:ByteArray) (a p:Int) (w:World) (hs:s.size<=1000000):Calls Tryz.prog 213 #[.agg #[.string s,.int .i64 a,.int .i64 p]] w fun e w'=>e=.returned (rdT (lettA s.data.toList a))/\Below w.heap.size w w':=by
 have HA:=Lib.hid (show Below w.heap.size w (w.alloc (.cells #[.string s,.int .i64 a,.int .i64 p] 295)) from (Below.refl _ _).alloc (Nat.le_refl _) _)
 have HZ:=Lib.hid (show w.heap.size<=(w.alloc (.cells #[.string s,.int .i64 a,.int .i64 p] 295)).heap.size by simp)
 have HR:=Lib.hid (hrow.new w #[.string s,.int .i64 a,.int .i64 p] 295)
 by_cases h:a < 0∨(s.size:Int)<=a
 ·rw [lettA_out h]
  have HB:=Lib.hid (byte_no s a 0 (w.alloc (.cells #[.string s,.int .i64 a,.int .i64 p] 295)) hs (by omega) (by omega) (by omega))
  have HB2:=Lib.hid (fun x=>byte_no s a 1 x hs (by omega) (by omega) (by omega))
  clear h
  go_enter Tryz.func213,Tryz.ntmps213
  go_wp2_with fail
  refine HB.out.mono ?_
  rintro e x ⟨rfl,hb⟩
  have H1:=Lib.hid (HA.out.trans (hb.mono HZ.out))
  have c1:=(HR.out.below hb).c3
  clear hb
  go_wp2_with fail
  refine (HB2.out _).mono ?_
  rintro e x2 ⟨rfl,hb⟩
  have H2:=Lib.hid (H1.out.trans (hb.mono H1.out.size))
  clear hb c1
  go_wp2_with fail
  go_ret2
  exact ⟨rfl,H2.out⟩
 ·obtain ⟨k,rfl⟩:∃ k:Nat,a=k:=⟨a.toNat,by omega⟩
  have hk:k < s.size:=by omega
  have HB:=Lib.hid (byte_yes s k 0 0 (w.alloc (.cells #[.string s,.int .i64 k,.int .i64 p] 295)) hs (by omega) hk rfl)
  have e0:s[k+0]'hk=s[k]'hk:=rfl
  rw [e0] at HB
  by_cases hk2:k+1 < s.size
  ·rw [lettA_in hk2]
   have HB2:=Lib.hid (fun x=>byte_yes s k 1 1 x hs (by omega) hk2 rfl)
   generalize s[k]'hk=c at HB ⊢
   generalize s[k+1]'hk2=d at HB2 ⊢
   clear h e0 hk hk2
   by_cases hc:c=92
   ·subst hc
    rw [if_pos (show ((92:UInt8) == 92)=true from rfl)]
    go_enter Tryz.func213,Tryz.ntmps213
    go_wp2_with fail
    refine HB.out.mono ?_
    rintro e x ⟨rfl,hb⟩
    have H1:=Lib.hid (HA.out.trans (hb.mono HZ.out))
    have c1:=(HR.out.below hb).c3
    clear hb
    go_wp2_with fail
    refine (HB2.out _).mono ?_
    rintro e x2 ⟨rfl,hb⟩
    have H2:=Lib.hid (H1.out.trans (hb.mono H1.out.size))
    clear hb c1 H1 HB HB2 HA HZ HR
    go_wp2_with fail
    have hsh:=short_any x2
    have hb1:(x2.alloc (.map shE 3)).heap[x2.heap.size]?=some (.map shE 3):=heap_alloc_new _ _
    have H3:=Lib.hid (H2.out.alloc H2.out.size (.map shE 3));clear H2
    have hrg:=run_range_map (P:=Tryz.prog) (x2.alloc (.map shE 3)) 306 5 5 x2.heap.size shE 3 short_und hb1
    have HM:=Lib.hid hb1;clear hb1
    generalize x2.alloc (.map shE 3)=y0 at *
    generalize x2.heap.size=g at *
    refine hsh.mono ?_
    rintro e y ⟨rfl,rfl⟩
    clear hsh
    go_wp2_with fail
    go_loopw [] (fun wr=>∃ (v:World) (seen:Array Nat),Sim v y/\wr=v.alloc (.mapIter (some g) 3 seen 3)/\Hid (∀ x ∈ shE.toList,seen.contains x.born=true->¬ valI x.val=(d.toNat:Int))) (fun wr=>(leftOf shE (wr.iterSeen y.heap.size)).size)
    case atStart=>exact ⟨y,#[],⟨rfl,rfl,rfl,rfl⟩,rfl,fun x _ h=>by simp at h⟩
    case round=>
     obtain ⟨v,seen,hsim,rfl,hno⟩:=hrel
     have hsz:v.heap.size=y.heap.size:=by rw [hsim.1]
     have hbv:v.heap[g]?=some (.map shE 3):=by rw [hsim.1];exact HM.out
     have law:=next_it (P:=Tryz.prog) v g 3 seen shE hbv shE_st.1
     rw [hsz] at law
     rcases law with ⟨h0,hnx⟩ | ⟨e,he,v2,hs2,hnx⟩
     ·have HM2:=Lib.hid (shE_miss (d:=d) (fun x hx=>hno.out x hx (all_seen shE seen h0 x hx)))
      have H4:=Lib.hid (hsim.below H3.out)
      have HX:=Lib.hid (ix_four d)
      have hix:d.toNat.toUInt8=d:=by simp
      have HIX:=Lib.hid hix
      clear hno hsim hbv h0 HM H3 hix
      generalize hq:(d == 92 || d == 34 || d == 93 || d == 45)=q at HM2 HX
      clear hq
      generalize y.heap.size=n at *
      have H5:=Lib.hid (H4.out.alloc H4.out.size (.mapIter (some g) 3 seen 3))
      generalize v.alloc (.mapIter (some g) 3 seen 3)=z at *
      clear H4 hsz
      go_wp2_with fail
      refine (Tryz.strings_IndexByte _ d.toNat z).mono ?_
      rintro e x4 ⟨rfl,rfl⟩
      rw [Int.toNat_natCast,HIX.out]
      generalize Lib.indexByte _ d=r at HX ⊢
      cases q with
      | true=>
       have hr:¬ r < 0:=by simpa using HX.out
       go_wp2_with fail
       go_ret2
       exact ⟨by rw [HM2.out];rfl,H5.out⟩
      | false=>
       have hr:r < 0:=by simpa using HX.out
       go_wp2_with fail
       go_ret2
       exact ⟨by rw [HM2.out];rfl,H5.out⟩
     ·obtain ⟨b,l,hkey,hval,hhit⟩:=shE_hit (mem_left he).1 d
      rw [hkey,hval] at hnx
      have hsz2:v2.heap.size=y.heap.size:=by rw [hs2.1,hsim.1]
      have hb2:v2.heap[g]?=some (.map shE 3):=by rw [hs2.1];exact hbv
      have hs3:Sim v2 y:=⟨hs2.1.trans hsim.1,hs2.2.1.trans hsim.2.1,hs2.2.2.1.trans hsim.2.2.1,hs2.2.2.2.trans hsim.2.2.2⟩
      have hr1:(v2.alloc (.mapIter (some g) 3 (seen.push e.born) 3)).heap[y.heap.size]?=some (.mapIter (some g) 3 (seen.push e.born) 3):=by rw [← hsz2];exact heap_alloc_new _ _
      have hr2:(v2.alloc (.mapIter (some g) 3 (seen.push e.born) 3)).heap[g]?=some (.map shE 3):=by rw [heap_alloc_old _ _ (lt_block hb2)];exact hb2
      have hen:=run_entry_at (P:=Tryz.prog) (v2.alloc (.mapIter (some g) 3 (seen.push e.born) 3)) y.heap.size g 3 seen shE 3 e hr1 hr2 (mem_left he).1 shE_st.2
      rw [hkey,hval] at hen
      have HHit:=Lib.hid hhit;have HS3:=Lib.hid hs3;have HE:=Lib.hid he;have HSZ:=Lib.hid hsz;have HSZ2:=Lib.hid hsz2
      have HV:=Lib.hid hval
      have H5:=Lib.hid ((hs3.below H3.out).alloc (by rw [hsz2];exact H3.out.size) (.mapIter (some g) 3 (seen.push e.born) 3))
      clear hhit hs3 he hsz hsz2 hr1 hr2 hb2 hs2 hsim hbv hkey hval hrg
      by_cases hld:l=d
      ·subst hld
       go_wp2_with fail
       go_ret2
       exact ⟨by rw [HHit.out trivial];rfl,H5.out⟩
      ·have hne:((l.toNat:Int) == (d.toNat:Int))=false:=by
        have:=mt UInt8.toNat_inj.1 hld
        simp;omega
       have HN:=Lib.hid hld
       clear hld
       go_wp2_with fail
       go_roundw
       case rel=>
        refine ⟨v2,seen.push e.born,HS3.out,rfl,fun x hx hc=>?_⟩
        rw [contains_push] at hc
        rcases Bool.or_eq_true _ _ ▸ hc with h1 | h1
        ·exact hno.out x hx h1
        ·have:x=e:=born_inj shE_st.2 hx (mem_left HE.out).1 (beq_iff_eq.1 h1)
         subst this
         rw [HV.out]
         intro h
         exact HN.out (UInt8.toNat_inj.1 (by simp only [valI] at h;omega))
       case measure=>
        have e1:=HSZ.out;have e2:=HSZ2.out
        rw [← e2,World.iterSeen_alloc,e2,← e1,World.iterSeen_alloc]
        exact left_shrinks shE seen e HE.out
   ·have hne:((c.toNat:Int) == 92)=false:=by have:=mt UInt8.toNat_inj.1 hc;simp at this ⊢;omega
    have hne2:((c.toNat:Int) != 92)=true:=by rw [bne,hne];rfl
    rw [if_neg (by simpa using hc)]
    clear hc
    go_enter Tryz.func213,Tryz.ntmps213
    go_wp2_with fail
    refine HB.out.mono ?_
    rintro e x ⟨rfl,hb⟩
    have H1:=Lib.hid (HA.out.trans (hb.mono HZ.out))
    have c1:=(HR.out.below hb).c3
    clear hb
    go_wp2_with fail
    refine (HB2.out _).mono ?_
    rintro e x2 ⟨rfl,hb⟩
    have H2:=Lib.hid (H1.out.trans (hb.mono H1.out.size))
    clear hb c1
    go_wp2_with fail
    go_ret2
    exact ⟨rfl,H2.out⟩
  ·rw [lettA_last (by omega)]
   have HB2:=Lib.hid (fun x=>byte_no s k 1 x hs (by omega) (by omega) (by omega))
   generalize s[k]'hk=c at HB
   clear h e0 hk hk2
   go_enter Tryz.func213,Tryz.ntmps213
   go_wp2_with fail
   refine HB.out.mono ?_
   rintro e x ⟨rfl,hb⟩
   have H1:=Lib.hid (HA.out.trans (hb.mono HZ.out))
   have c1:=(HR.out.below hb).c3
   clear hb
   go_wp2_with fail
   refine (HB2.out _).mono ?_
   rintro e x2 ⟨rfl,hb⟩
   have H2:=Lib.hid (H1.out.trans (hb.mono H1.out.size))
   clear hb c1
   go_wp2_with fail
   go_ret2
   exact ⟨rfl,H2.out⟩
end Go.Proofs.YtgjhepblpdnkcaaGreatDoor
namespace Go.Proofs.YtgjhepblpdnkcaaGreatDoor
open Go.RowKit
set_option maxRecDepth 100000
set_option maxHeartbeats 4000000

theorem lower_any (c:UInt8) (w:World):Calls Tryz.prog 235 #[.int .u8 c.toNat] w fun e w'=>e=.returned (.int .u8 (c ||| 32).toNat)/\w'=w:=by
 have h:bits BinOp.or IntKind.u8 (c.toNat:Int) 32=((c ||| 32).toNat:Int):=u8_all (P:=fun c=>bits BinOp.or IntKind.u8 (c.toNat:Int) 32=((c ||| 32).toNat:Int)) (by decide +kernel) c
 go_enter Tryz.func235,Tryz.ntmps235
 go_wp2_with fail
 go_ret
 exact ⟨rfl,rfl⟩
/-- The number of a digit, as ParseUint reckons it. -/
theorem hex_low {c x:UInt8} (h:hexv c=some x):(48<=(c.toNat:Int)/\(c.toNat:Int)<=57/\(c.toNat:Int) - 48=x.toNat)∨(57 < (c.toNat:Int)/\97<=((c ||| 32).toNat:Int)/\((c ||| 32).toNat:Int)<=102/\((c ||| 32).toNat:Int) - 97+10=x.toNat):=by
 have:=u8_all (P:=fun c=>(hexv c).all (fun x=>decide ((48<=(c.toNat:Int)/\(c.toNat:Int)<=57/\(c.toNat:Int) - 48=x.toNat)∨(57 < (c.toNat:Int)/\97<=((c ||| 32).toNat:Int)/\((c ||| 32).toNat:Int)<=102/\((c ||| 32).toNat:Int) - 97+10=x.toNat)))=true) (by decide +kernel) c
 rw [h] at this;simpa using this
theorem hex_95 {c x:UInt8} (h:hexv c=some x):((c.toNat:Int) == 95)=false:=by
 have:=u8_all (P:=fun c=>(hexv c).isSome=true->((c.toNat:Int) == 95)=false) (by decide +kernel) c
 exact this (by rw [h];rfl)
/-- A number past which a digit more is too much. -/
def cut16:Int:=1152921504606846976
theorem cut16_lt (a:UInt8):(a.toNat:Int) < cut16/\0 < cut16:=by have:=a.toNat_lt;unfold cut16;omega
theorem ipu_any (u v a b:UInt8) (hu:hexv u=some a) (hv:hexv v=some b) (w:World):Calls Tryz.prog 229 #[.string ⟨#[u,v]⟩,.int .i64 16,.int .i64 8] w fun e w'=>e=.returned (.tuple #[.int .u64 (16 * (a.toNat:Int)+b.toNat),.nilIface])/\Below w.heap.size w w':=by
 have hcv:(convert 9 102 (.string ⟨#[u,v]⟩)).run Tryz.prog w=.ok (.slice (some ⟨w.heap.size,0,none⟩) 2 (grownCap w 2 0 5)) (Lib.bytesWorld w 5 ⟨#[u,v]⟩):=Lib.run_convert_string_bytes (P:=Tryz.prog) w 9 102 5 ⟨#[u,v]⟩ Tryz.underlying9 Tryz.underlying102 Tryz.underlying5
 have c0:(Lib.bytesWorld w 5 ⟨#[u,v]⟩).cell? ⟨w.heap.size,0,none⟩=some (.int .u8 u.toNat):=Lib.bytesWorld_cell w 5 ⟨#[u,v]⟩ 0 (by show 0 < 2;omega)
 have c1:(Lib.bytesWorld w 5 ⟨#[u,v]⟩).cell? ⟨w.heap.size,1,none⟩=some (.int .u8 v.toNat):=Lib.bytesWorld_cell w 5 ⟨#[u,v]⟩ 1 (by show 1 < 2;omega)
 have HB:=Lib.hid (Lib.bytesWorld_below w 5 ⟨#[u,v]⟩)
 generalize Lib.bytesWorld w 5 ⟨#[u,v]⟩=x at *
 generalize grownCap w 2 0 5=cap at *
 have HU:=Lib.hid (hex_low hu)
 have HV:=Lib.hid (hex_low hv)
 have ha0:(0:Int)<=a.toNat:=by omega
 have hb0:(0:Int)<=b.toNat:=by omega
 have ha1:(a.toNat:Int) < 16:=by have:=UInt8.lt_iff_toNat_lt.1 (hexv_lt hu);simp at this ⊢;omega
 have hb1:(b.toNat:Int) < 16:=by have:=UInt8.lt_iff_toNat_lt.1 (hexv_lt hv);simp at this ⊢;omega
 have hu0:(0:Int)<=u.toNat:=by omega
 have hv0:(0:Int)<=v.toNat:=by omega
 have hu1:(u.toNat:Int)<=255:=by have:=u.toNat_lt;omega
 have hv1:(v.toNat:Int)<=255:=by have:=v.toNat_lt;omega
 have hu9:=hex_95 hu
 have hv9:=hex_95 hv
 clear hu hv
 go_enter Tryz.func229,Tryz.ntmps229
 go_wp2_with fail
 generalize hC:(1152921504606846976:Int)=C
 obtain ⟨hct,hct0⟩:(a.toNat:Int) < C/\0 < C:=by rw [← hC];exact cut16_lt a
 clear hC
 go_loop [12,13,101] (fun z n i=>z=.bool false/\Hid ((i=.int .i64 0/\n=.int .u64 0)∨(i=.int .i64 1/\n=.int .u64 a.toNat)∨(i=.int .i64 2/\n=.int .u64 (16 * (a.toNat:Int)+b.toNat)))) (fun _ _ i=>2 - (intOf i).toNat)
 case atStart=>exact ⟨rfl,.inl ⟨rfl,rfl⟩⟩
 case round=>
  obtain ⟨rfl,hI⟩:=hrel
  rcases hI.out with ⟨rfl,rfl⟩ | ⟨rfl,rfl⟩ | ⟨rfl,rfl⟩
  ·clear hI
   rcases HU.out with ⟨g1,g2,g3⟩ | ⟨g1,g2,g3,g4⟩
   ·have G3:=Lib.hid g3;clear g3
    go_wp2_with fail
    go_round
    case rel=>exact ⟨rfl,.inr (.inl ⟨rfl,by first | rw [G3.out] | rw [G4.out]⟩)⟩
    case measure=>simp [intOf]
   ·have G4:=Lib.hid g4;clear g4
    have hl:=Lib.hid (fun y=>lower_any u y)
    generalize (u ||| 32).toNat=L at *
    go_wp2_with fail
    refine (hl.out _).mono ?_
    rintro e y ⟨rfl,rfl⟩
    go_wp2_with fail
    refine (hl.out _).mono ?_
    rintro e y2 ⟨rfl,rfl⟩
    go_wp2_with fail
    refine (hl.out _).mono ?_
    rintro e y3 ⟨rfl,rfl⟩
    go_wp2_with fail
    go_round
    case rel=>exact ⟨rfl,.inr (.inl ⟨rfl,by first | rw [G3.out] | rw [G4.out]⟩)⟩
    case measure=>simp [intOf]
  ·clear hI
   rcases HV.out with ⟨g1,g2,g3⟩ | ⟨g1,g2,g3,g4⟩
   ·have G3:=Lib.hid g3;clear g3
    go_wp2_with fail
    go_round
    case rel=>exact ⟨rfl,.inr (.inr ⟨rfl,by first | rw [← G3.out,Int.mul_comm] | rw [← G4.out,Int.mul_comm]⟩)⟩
    case measure=>simp [intOf]
   ·have G4:=Lib.hid g4;clear g4
    have hl:=Lib.hid (fun y=>lower_any v y)
    generalize (v ||| 32).toNat=L at *
    go_wp2_with fail
    refine (hl.out _).mono ?_
    rintro e y ⟨rfl,rfl⟩
    go_wp2_with fail
    refine (hl.out _).mono ?_
    rintro e y2 ⟨rfl,rfl⟩
    go_wp2_with fail
    refine (hl.out _).mono ?_
    rintro e y3 ⟨rfl,rfl⟩
    go_wp2_with fail
    go_round
    case rel=>exact ⟨rfl,.inr (.inr ⟨rfl,by first | rw [← G3.out,Int.mul_comm] | rw [← G4.out,Int.mul_comm]⟩)⟩
    case measure=>simp [intOf]
  ·clear hI
   go_wp2_with fail
   go_ret2
   exact ⟨rfl,HB.out⟩
theorem pu_any (u v a b:UInt8) (hu:hexv u=some a) (hv:hexv v=some b) (w:World):Calls Tryz.prog 223 #[.string ⟨#[u,v]⟩,.int .i64 16,.int .i64 8] w fun e w'=>e=.returned (.tuple #[.int .u64 (16 * (a.toNat:Int)+b.toNat),.nilIface])/\Below w.heap.size w w':=by
 have H:=Lib.hid (ipu_any u v a b hu hv w)
 clear hu hv
 generalize 16 * (a.toNat:Int)+b.toNat=n at *
 go_enter Tryz.func223,Tryz.ntmps223
 go_wp2_with fail
 refine H.out.mono ?_
 rintro e x ⟨rfl,hb⟩
 have HB:=Lib.hid hb;clear hb
 go_wp2_with fail
 go_ret2
 exact ⟨rfl,HB.out⟩
end Go.Proofs.YtgjhepblpdnkcaaGreatDoor
namespace Go.Proofs.YtgjhepblpdnkcaaGreatDoor
open Go.RowKit
set_option maxRecDepth 100000
set_option maxHeartbeats 4000000

def digA (l:List UInt8) (a:Int):Option (UInt8×Nat):=if 0<=a/\a < l.length then (match l.drop a.toNat with
 | c :: d :: u :: v :: _=>if c == 92 && d == 120 then (match hexv u,hexv v with | some x,some y=>some (16 * x+y,4) | _,_=>none) else none
 | _=>none) else none
theorem digA_out {s:ByteArray} {a:Int} (h:a < 0∨(s.size:Int) - 3<=a):digA s.data.toList a=none:=by
 unfold digA
 split
 ·rename_i h2
  rw [ba_len] at h2
  have hl:(s.data.toList.drop a.toNat).length<=3:=by rw [List.length_drop,ba_len];omega
  generalize s.data.toList.drop a.toNat=l at hl
  match l,hl with
  | [],_=>rfl
  | [_],_=>rfl
  | [_,_],_=>rfl
  | [_,_,_],_=>rfl
  | _ :: _ :: _ :: _ :: _,h=>simp at h
 ·rfl
theorem digA_in {s:ByteArray} {k:Nat} (hk:k+3 < s.size):digA s.data.toList k=if s[k] == 92 && s[k+1] == 120 then (match hexv s[k+2],hexv s[k+3] with | some x,some y=>some (16 * x+y,4) | _,_=>none) else none:=by
 unfold digA
 rw [if_pos ⟨by omega,by rw [ba_len];omega⟩,Int.toNat_natCast,drop_at (by omega),drop_at (show k+1 < s.size by omega),drop_at (show k+1+1 < s.size by omega),drop_at (show k+1+1+1 < s.size by omega)]
/-- Two bytes of a text. -/
theorem sub2 (s:ByteArray) (k:Nat) (h:k+1 < s.size):s.extract k (k+2)=⟨#[s[k],s[k+1]]⟩:=by
 apply ByteArray.ext
 rw [ByteArray.data_extract]
 apply Array.ext
 ·have:s.data.size=s.size:=rfl
  simp;omega
 ·intro i h1 h2
  simp at h2
  obtain rfl | rfl:i=0∨i=1:=by omega
  ·simp;rfl
  ·simp;rfl
theorem slice2 {P:Program} (t:TypeId) (ht:P.underlying t=some .string) (s:ByteArray) (k:Nat) (a b:Int) (ha:a=k) (hb:b=k+2) (h:k+1 < s.size) (wx:World):
  (Instr.slice t (.string s) (some (.int .i64 a)) (some (.int .i64 b)) none).run P wx=.ok (.string ⟨#[s[k],s[k+1]]⟩) wx:=by
 subst ha hb
 rw [run_slice_string (P:=P) wx t s .i64 .i64 k (k+2) ht (by omega) (by omega) (by omega),← sub2 s k h]
 rfl
def digR (c d u v:UInt8):Option (UInt8×Nat):=if c == 92 && d == 120 then (match hexv u,hexv v with | some x,some y=>some (16 * x+y,4) | _,_=>none) else none
def hexS:ByteArray:=⟨#[48,49,50,51,52,53,54,55,56,57,97,98,99,100,101,102,65,66,67,68,69,70]⟩
theorem hexS_mem (c:UInt8):hexS.data.toList.contains c=(hexv c).isSome:=u8_all (P:=fun c=>hexS.data.toList.contains c=(hexv c).isSome) (by decide +kernel) c
theorem trim_hex (u v:UInt8):(Lib.trimS [u,v] hexS.data.toList=[]/\(∃ a,hexv u=some a)/\∃ b,hexv v=some b)∨((∃ x t,Lib.trimS [u,v] hexS.data.toList=x :: t)/\∀ c d,digR c d u v=none):=by
 unfold Lib.trimS Lib.trimRightS Lib.trimLeftS
 simp only [List.reverse_cons,List.reverse_nil,List.nil_append,List.singleton_append,List.dropWhile_cons,hexS_mem]
 have hno:(hexv u).isSome=false∨(hexv v).isSome=false->∀ c d,digR c d u v=none:=by
  intro h c d
  unfold digR
  split
  ·rcases h with h | h
   ·rw [Option.isSome_eq_false_iff,Option.isNone_iff_eq_none] at h;rw [h]
   ·rw [Option.isSome_eq_false_iff,Option.isNone_iff_eq_none] at h;rw [h];cases hexv u <;> rfl
  ·rfl
 cases hv:(hexv v).isSome with
 | false => 
  refine .inr ⟨?_,hno (.inr hv)⟩
  cases hu:(hexv u).isSome with
  | false=>exact ⟨u,[v],by simp [hu]⟩
  | true=>exact ⟨v,[],by simp [hu,hv]⟩
 | true=>
  cases hu:(hexv u).isSome with
  | false=>exact .inr ⟨⟨u,[],by simp [hu]⟩,hno (.inl hu)⟩
  | true=>exact .inl ⟨by simp,Option.isSome_iff_exists.1 hu,Option.isSome_iff_exists.1 hv⟩
theorem trim_call (u v:UInt8) (w:World):Calls Tryz.prog 222 #[.string ⟨#[u,v]⟩,.string hexS] w fun e w'=>e=.returned (.string ⟨(Lib.trimS [u,v] hexS.data.toList).toArray⟩)/\Below w.heap.size w w':=
 Any.strings_Trim_laid Tryz.lays160 (by kernel_rfl) ⟨#[u,v]⟩ hexS w (by show 2<=9223372036854775807;omega) (by decide) (ascii_of_all (by decide))
theorem digits_any (s:ByteArray) (a p:Int) (w:World) (hs:s.size<=1000000):Calls Tryz.prog 214 #[.agg #[.string s,.int .i64 a,.int .i64 p]] w fun e w'=>e=.returned (rdT (digA s.data.toList a))/\Below w.heap.size w w':=by
 have HA:=Lib.hid (show Below w.heap.size w (w.alloc (.cells #[.string s,.int .i64 a,.int .i64 p] 295)) from (Below.refl _ _).alloc (Nat.le_refl _) _)
 have HZ:=Lib.hid (show w.heap.size<=(w.alloc (.cells #[.string s,.int .i64 a,.int .i64 p] 295)).heap.size by simp)
 have HR:=Lib.hid (hrow.new w #[.string s,.int .i64 a,.int .i64 p] 295)
 by_cases h:a < 0∨(s.size:Int) - 3<=a
 ·rw [digA_out h]
  have HB:=Lib.hid (byte_no s a 3 (w.alloc (.cells #[.string s,.int .i64 a,.int .i64 p] 295)) hs (by omega) (by omega) (by omega))
  clear h
  go_enter Tryz.func214,Tryz.ntmps214
  go_wp2_with fail
  refine HB.out.mono ?_
  rintro e x ⟨rfl,hb⟩
  have H1:=Lib.hid (HA.out.trans (hb.mono HZ.out))
  have c1:=(HR.out.below hb).c3
  clear hb
  go_wp2_with fail
  go_ret2
  exact ⟨rfl,H1.out⟩
 ·obtain ⟨k,rfl⟩:∃ k:Nat,a=k:=⟨a.toNat,by omega⟩
  have hk:k+3 < s.size:=by omega
  have hk4:(k:Int)+4<=s.size:=by omega
  have hk0:(0:Int)<=k:=by omega
  have hk2:(k:Int)+2<=s.size:=by omega
  have HB:=Lib.hid (byte_yes s k 3 3 (w.alloc (.cells #[.string s,.int .i64 k,.int .i64 p] 295)) hs (by omega) hk rfl)
  clear h
  have hk8:k+1 < s.size:=by clear hk4 hk0 hk2 HB;omega
  have hk9:k+2 < s.size:=by clear hk4 hk0 hk2 HB;omega
  have hk7:k < s.size:=by clear hk4 hk0 hk2 HB;omega
  rw [digA_in hk]
  change Calls _ _ _ _ fun e w'=>e=.returned (rdT (digR (s[k]'hk7) (s[k+1]'hk8) (s[k+2]'hk9) (s[k+3]'hk)))/\Below w.heap.size w w'
  have hs1:=slice2 (P:=Tryz.prog) 9 Tryz.underlying9 s k k (k+2) rfl rfl hk8
  have hs2:=slice2 (P:=Tryz.prog) 9 Tryz.underlying9 s (k+2) (k+2) (k+4) (by clear hk4 hk0 hk2 hs1;omega) (by clear hk4 hk0 hk2 hs1;omega) hk
  have e3:s[k+2+1]'hk=s[k+3]'hk:=rfl
  rw [e3] at hs2
  clear e3
  generalize s[k]=c at *
  generalize s[k+1]=d at *
  generalize s[k+2]=u at *
  generalize s[k+3]=v at *
  by_cases hc:c=92
  ·subst hc
   by_cases hd:d=120
   ·subst hd
    have HT:=Lib.hid (fun x=>trim_call u v x)
    have HX:=trim_hex u v
    generalize Lib.trimS [u,v] hexS.data.toList=L at HT HX
    rcases HX with ⟨rfl,⟨a,hu⟩,b,hv⟩ | ⟨⟨y,t,rfl⟩,hno⟩
    ·have HP:=Lib.hid (fun x=>pu_any u v a b hu hv x)
     have H3:Hid (digR 92 120 u v=some (16 * a+b,4)):=by unfold Hid digR;rw [hu,hv];rfl
     have H4:=Lib.hid (hex_sum (hexv_lt hu) (hexv_lt hv))
     have hn0:(0:Int)<=16 * (a.toNat:Int)+b.toNat:=by omega
     have hn1:16 * (a.toNat:Int)+b.toNat<=255:=by have h1:=UInt8.lt_iff_toNat_lt.1 (hexv_lt hu);have h2:=UInt8.lt_iff_toNat_lt.1 (hexv_lt hv);simp at h1 h2;omega
     clear hu hv
     generalize 16 * (a.toNat:Int)+b.toNat=n at HP H4 hn0 hn1
     go_enter Tryz.func214,Tryz.ntmps214
     go_wp2_with fail
     refine HB.out.mono ?_
     rintro e x ⟨rfl,hb⟩
     have H1:=Lib.hid (HA.out.trans (hb.mono HZ.out))
     have H7:=Lib.hid (HR.out.below hb)
     have c1:=H7.out.c3
     clear hb
     go_wp2_with fail
     refine (HT.out _).mono ?_
     rintro e x2 ⟨rfl,hb⟩
     have H2:=Lib.hid (H1.out.trans (hb.mono H1.out.size))
     have c2:=(H7.out.below hb).c3
     clear hb c1
     go_wp2_with fail
     refine (HP.out _).mono ?_
     rintro e x3 ⟨rfl,hb⟩
     have H5:=Lib.hid (H2.out.trans (hb.mono H2.out.size))
     clear hb c2
     go_wp2_with fail
     go_ret2
     exact ⟨by rw [H3.out,H4.out];rfl,H5.out⟩
    ·have H3:=Lib.hid (hno 92 120)
     clear hno
     go_enter Tryz.func214,Tryz.ntmps214
     go_wp2_with fail
     refine HB.out.mono ?_
     rintro e x ⟨rfl,hb⟩
     have H1:=Lib.hid (HA.out.trans (hb.mono HZ.out))
     have H7:=Lib.hid (HR.out.below hb)
     have c1:=H7.out.c3
     clear hb
     go_wp2_with fail
     refine (HT.out _).mono ?_
     rintro e x2 ⟨rfl,hb⟩
     have H2:=Lib.hid (H1.out.trans (hb.mono H1.out.size))
     clear hb c1
     go_wp2_with fail
     go_ret2
     exact ⟨by rw [H3.out];rfl,H2.out⟩
   ·have H3:Hid (digR 92 d u v=none):=if_neg (by simpa using hd)
    go_enter Tryz.func214,Tryz.ntmps214
    go_wp2_with fail
    refine HB.out.mono ?_
    rintro e x ⟨rfl,hb⟩
    have H1:=Lib.hid (HA.out.trans (hb.mono HZ.out))
    have H7:=Lib.hid (HR.out.below hb)
    have c1:=H7.out.c3
    clear hb
    go_wp2_with fail
    go_ret2
    exact ⟨by rw [H3.out];rfl,H1.out⟩
  ·have H3:Hid (digR c d u v=none):=if_neg (by simp [hc])
   go_enter Tryz.func214,Tryz.ntmps214
   go_wp2_with fail
   refine HB.out.mono ?_
   rintro e x ⟨rfl,hb⟩
   have H1:=Lib.hid (HA.out.trans (hb.mono HZ.out))
   have H7:=Lib.hid (HR.out.below hb)
   have c1:=H7.out.c3
   clear hb
   go_wp2_with fail
   go_ret2
   exact ⟨by rw [H3.out];rfl,H1.out⟩
end Go.Proofs.YtgjhepblpdnkcaaGreatDoor
namespace Go.Proofs.YtgjhepblpdnkcaaGreatDoor
open Go.RowKit
set_option maxRecDepth 100000
set_option maxHeartbeats 4000000

theorem rd_alt {p:Int} (hp:isPl p=true) (l:List UInt8) (a:Int):rdA p l a=(bareA p l a).or ((lettA l a).or (digA l a)):=by
 unfold rdA bareA lettA digA
 by_cases h:0<=a/\a < l.length
 ·rw [if_pos h,if_pos h,if_pos h,if_pos h,hp]
  cases hd:l.drop a.toNat with
  | nil=>rfl
  | cons c t=>
   cases hs:spec p c with
   | false=>rw [rd_bare hp hs];simp [hs]
   | true=>
    by_cases hc:c=92
    ·subst hc
     rw [rd_back hp]
     simp only [hs,Bool.not_true,Bool.and_false,Bool.false_eq_true,if_false,Option.none_or]
     cases t with
     | nil=>rfl
     | cons d t=>
      simp only [beq_self_eq_true,if_true]
      unfold esc lett
      simp only []
      by_cases h1:d=110
      ·subst h1;rfl
      ·by_cases h2:d=114
       ·subst h2;rfl
       ·by_cases h3:d=116
        ·subst h3;rfl
        ·by_cases h4:d=92∨d=34∨d=93∨d=45
         ·rcases h4 with rfl | rfl | rfl | rfl <;> rfl
         ·have h5:(d == 92 || d == 34 || d == 93 || d == 45)=false:=by
           rw [Bool.eq_false_iff];intro h;simp only [Bool.or_eq_true,beq_iff_eq] at h;exact h4 (by rcases h with ((h | h) | h) | h <;> simp [h])
          simp only [beq_iff_eq,h1,h2,h3,h5,if_false,Bool.false_eq_true,Option.none_or]
          by_cases h6:d=120
          ·subst h6
           match t with
           | []=>rfl
           | [_]=>rfl
           | _ :: _ :: _=>rfl
          ·match t with
           | []=>simp [h6]
           | [_]=>simp [h6]
           | _ :: _ :: _=>simp [h6]
    ·rw [rd_spec hp hs hc]
     simp only [hs,Bool.not_true,Bool.and_false,Bool.false_eq_true,if_false,Option.none_or]
     match t with
     | []=>rfl
     | [_]=>simp [hc]
     | [_,_]=>simp [hc]
     | _ :: _ :: _ :: _=>simp [hc]
 ·rw [if_neg h,if_neg h,if_neg h,if_neg h];rfl
theorem bareA_n {p:Int} {l:List UInt8} {a:Int} {b:UInt8} {n:Nat} (h:bareA p l a=some (b,n)):0 < n/\n<=4:=by
 unfold bareA at h
 split at h
 ·split at h
  ·split at h
   ·cases h;omega
   ·cases h
  ·cases h
 ·cases h
theorem lettA_n {l:List UInt8} {a:Int} {b:UInt8} {n:Nat} (h:lettA l a=some (b,n)):0 < n/\n<=4:=by
 unfold lettA at h
 split at h
 ·split at h
  ·split at h
   ·unfold lett at h
    repeat' split at h
    all_goals first | (cases h;omega) | cases h
   ·cases h
  ·cases h
 ·cases h
theorem digA_n {l:List UInt8} {a:Int} {b:UInt8} {n:Nat} (h:digA l a=some (b,n)):0 < n/\n<=4:=by
 unfold digA at h
 split at h
 ·split at h
  ·split at h
   ·split at h
    ·cases h;omega
    ·cases h
   ·cases h
  ·cases h
 ·cases h
theorem rdA_bd {p:Int} {l:List UInt8} {a:Int} {q:UInt8×Nat} (h:rdA p l a=some q):0<=a/\a < l.length:=by
 unfold rdA at h
 split at h
 ·assumption
 ·cases h
theorem ix3_0 (x0 x1 x2:Value) (w:World):(Instr.index 297 (.agg #[x0,x1,x2]) (.int .i64 0)).run Tryz.prog w=.ok x0 w:=by kernel_rfl
theorem ix3_1 (x0 x1 x2:Value) (w:World):(Instr.index 297 (.agg #[x0,x1,x2]) (.int .i64 1)).run Tryz.prog w=.ok x1 w:=by kernel_rfl
theorem ix3_2 (x0 x1 x2:Value) (w:World):(Instr.index 297 (.agg #[x0,x1,x2]) (.int .i64 2)).run Tryz.prog w=.ok x2 w:=by kernel_rfl
/-- How far a loop over the three readers has come. -/
def RdI (p:Int) (l:List UInt8) (a:Int) (i:Value):Prop:=
 i=.int .i64 0∨(i=.int .i64 1/\bareA p l a=none)∨(i=.int .i64 2/\bareA p l a=none/\lettA l a=none)∨(i=.int .i64 3/\bareA p l a=none/\lettA l a=none/\digA l a=none)
theorem read_any (p:Int) (s:ByteArray) (a:Int) (w:World) (hs:s.size<=1000000):Calls Tryz.prog 196 #[.int .i64 p,.string s,.int .i64 a] w fun e w'=>e=.returned (rdV a (rdA p s.data.toList a))/\Below w.heap.size w w':=by
 have HN:=named_any p w
 generalize nmd p=nm at HN
 cases hp:isPl p with
 | false=>
  have H3:=Lib.hid (rdA_no hp s.data.toList a)
  rw [hp] at HN
  clear hp
  go_enter Tryz.func196,Tryz.ntmps196
  go_wp2_with fail
  refine HN.mono ?_
  rintro e x ⟨rfl,rfl⟩
  go_wp2_with fail
  go_ret3
  exact ⟨by rw [H3.out];rfl,Below.refl _ _⟩
 | true=>
  have H3:=Lib.hid (rd_alt hp s.data.toList a)
  rw [hp] at HN
  clear hp
  have i0:=ix3_0
  have i1:=ix3_1
  have i2:=ix3_2
  have HB:=Lib.hid (fun x=>rbare_any s a p x hs)
  have HL:=Lib.hid (fun x=>letter_any s a p x hs)
  have HD:=Lib.hid (fun x=>digits_any s a p x hs)
  go_enter Tryz.func196,Tryz.ntmps196
  go_wp2_with fail
  refine HN.mono ?_
  rintro e x ⟨rfl,rfl⟩
  go_wp2_with fail
  go_loopw [35] (fun i wr=>Hid (RdI p s.data.toList a i/\Below x.heap.size x wr)) (fun i _=>3 - (intOf i).toNat)
  case atStart=>exact ⟨.inl rfl,(Below.refl _ _).alloc (Nat.le_refl _) _⟩
  case round=>
   obtain ⟨hI,hJ⟩:=hrel.out
   have HJ:=Lib.hid hJ
   clear hrel hJ
   rcases hI with rfl | ⟨rfl,h1⟩ | ⟨rfl,h1,h2⟩ | ⟨rfl,h1,h2,h3⟩
   ·have hO:=HB.out wr
    cases hq:bareA p s.data.toList a with
    | none=>
     rw [hq] at hO
     have HO:=Lib.hid hO;clear hO
     have HQ:=Lib.hid hq;clear hq
     go_wp2_with fail
     refine HO.out.mono ?_
     rintro e y ⟨rfl,hb⟩
     have H2:=Lib.hid (HJ.out.trans (hb.mono HJ.out.size));clear hb
     unfold rdT
     go_wp2_with fail
     go_roundw
     case rel=>exact ⟨.inr (.inl ⟨rfl,HQ.out⟩),H2.out⟩
     case measure=>simp [intOf]
    | some q=>
     obtain ⟨b,n⟩:=q
     rw [hq] at hO
     have HR:Hid (rdA p s.data.toList a=some (b,n)):=by rw [H3.out,hq];rfl
     obtain ⟨hn0,hn1⟩:=bareA_n hq
     obtain ⟨ha0,ha1⟩:=rdA_bd HR.out
     rw [ba_len] at ha1
     have ha2:a<=1000000:=by omega
     have hn2:(0:Int) < n:=by omega
     have HO:=Lib.hid hO;clear hO hq
     go_wp2_with fail
     refine HO.out.mono ?_
     rintro e y ⟨rfl,hb⟩
     have H2:=Lib.hid (HJ.out.trans (hb.mono HJ.out.size));clear hb
     unfold rdT
     go_wp2_with fail
     go_ret3
     exact ⟨by rw [HR.out];rfl,H2.out⟩
   ·have H1:=Lib.hid h1;clear h1
    have hO:=HL.out wr
    cases hq:lettA s.data.toList a with
    | none=>
     rw [hq] at hO
     have HO:=Lib.hid hO;clear hO
     have HQ:=Lib.hid hq;clear hq
     go_wp2_with fail
     refine HO.out.mono ?_
     rintro e y ⟨rfl,hb⟩
     have H2:=Lib.hid (HJ.out.trans (hb.mono HJ.out.size));clear hb
     unfold rdT
     go_wp2_with fail
     go_roundw
     case rel=>exact ⟨.inr (.inr (.inl ⟨rfl,H1.out,HQ.out⟩)),H2.out⟩
     case measure=>simp [intOf]
    | some q=>
     obtain ⟨b,n⟩:=q
     rw [hq] at hO
     have HR:Hid (rdA p s.data.toList a=some (b,n)):=by rw [H3.out,H1.out,Option.none_or,hq];rfl
     obtain ⟨hn0,hn1⟩:=lettA_n hq
     obtain ⟨ha0,ha1⟩:=rdA_bd HR.out
     rw [ba_len] at ha1
     have ha2:a<=1000000:=by omega
     have hn2:(0:Int) < n:=by omega
     have HO:=Lib.hid hO;clear hO hq
     go_wp2_with fail
     refine HO.out.mono ?_
     rintro e y ⟨rfl,hb⟩
     have H2:=Lib.hid (HJ.out.trans (hb.mono HJ.out.size));clear hb
     unfold rdT
     go_wp2_with fail
     go_ret3
     exact ⟨by rw [HR.out];rfl,H2.out⟩
   ·have H1:=Lib.hid h1;clear h1
    have H1b:=Lib.hid h2;clear h2
    have hO:=HD.out wr
    cases hq:digA s.data.toList a with
    | none=>
     rw [hq] at hO
     have HO:=Lib.hid hO;clear hO
     have HQ:=Lib.hid hq;clear hq
     go_wp2_with fail
     refine HO.out.mono ?_
     rintro e y ⟨rfl,hb⟩
     have H2:=Lib.hid (HJ.out.trans (hb.mono HJ.out.size));clear hb
     unfold rdT
     go_wp2_with fail
     go_roundw
     case rel=>exact ⟨.inr (.inr (.inr ⟨rfl,H1.out,H1b.out,HQ.out⟩)),H2.out⟩
     case measure=>simp [intOf]
    | some q=>
     obtain ⟨b,n⟩:=q
     rw [hq] at hO
     have HR:Hid (rdA p s.data.toList a=some (b,n)):=by rw [H3.out,H1.out,Option.none_or,H1b.out,Option.none_or,hq];rfl
     obtain ⟨hn0,hn1⟩:=digA_n hq
     obtain ⟨ha0,ha1⟩:=rdA_bd HR.out
     rw [ba_len] at ha1
     have ha2:a<=1000000:=by omega
     have hn2:(0:Int) < n:=by omega
     have HO:=Lib.hid hO;clear hO hq
     go_wp2_with fail
     refine HO.out.mono ?_
     rintro e y ⟨rfl,hb⟩
     have H2:=Lib.hid (HJ.out.trans (hb.mono HJ.out.size));clear hb
     unfold rdT
     go_wp2_with fail
     go_ret3
     exact ⟨by rw [HR.out];rfl,H2.out⟩
   ·have HR:Hid (rdA p s.data.toList a=none):=by rw [H3.out,h1,h2,h3];rfl
    clear h1 h2 h3
    go_wp2_with fail
    go_ret3
    exact ⟨by rw [HR.out];rfl,HJ.out⟩
end Go.Proofs.YtgjhepblpdnkcaaGreatDoor
namespace Go.Proofs.YtgjhepblpdnkcaaGreatDoor

end Go.Proofs.YtgjhepblpdnkcaaGreatDoor
namespace Go.Proofs.YtgjhepblpdnkcaaGreatDoor

def isBl (c:UInt8):Bool:=c == 32 || c == 9 || c == 10 || c == 13
def isLt (c:UInt8):Bool:=(decide (97<=c) && decide (c<=122)) || (decide (65<=c) && decide (c<=90)) || c == 95
def isDg (c:UInt8):Bool:=decide (48<=c) && decide (c<=57)
/-- The signs of one byte. -/
def sgs:List UInt8:=[47,40,41,46,59,42,43,63,33,38]
/-- How many bytes are blanks and remarks; is it within a remark? -/
def skp:Bool->List UInt8->Nat
 | _,[]=>0
 | true,c :: t=>1+skp (c != 10) t
 | false,c :: t=>if isBl c then 1+skp false t else if c == 35 then 1+skp true t else 0
theorem skp_le:∀ (l:List UInt8) (b:Bool),skp b l<=l.length
 | [],b=>by cases b <;> simp [skp]
 | c :: l,true=>by have:=skp_le l (c != 10);simp only [skp,List.length_cons];omega
 | c :: l,false=>by
  have h1:=skp_le l false
  have h2:=skp_le l true
  simp only [skp,List.length_cons]
  split
  ·omega
  ·split <;> omega
/-- Behind them none begins. -/
theorem skp_idem:∀ (l:List UInt8) (b:Bool),skp false (l.drop (skp b l))=0
 | [],b=>by cases b <;> simp [skp]
 | c :: l,true=>by
  simp only [skp]
  rw [Nat.add_comm,List.drop_succ_cons]
  exact skp_idem l _
 | c :: l,false=>by
  simp only [skp]
  split
  ·rw [Nat.add_comm,List.drop_succ_cons];exact skp_idem l _
  ·split
   ·rw [Nat.add_comm,List.drop_succ_cons];exact skp_idem l _
   ·rename_i h1 h2
    simp only [List.drop_zero,skp]
    rw [if_neg h1,if_neg h2]
/-- A word, as far as it does not hang on where it stands. -/
structure Wr where
 kind:Nat
 n:Nat
 tx:List UInt8
 lv:Int
 cl:List (UInt8×UInt8)
 deriving DecidableEq
/-- The number of digits. -/
def lvF (ds:List UInt8):Int:=ds.foldl (fun n c=>10 * n+((c.toNat:Int) - 48)) 0
def lvl (ds:List UInt8):Int:=if 4 < ds.length then 9999 else lvF ds
def isLD (c:UInt8):Bool:=isLt c || isDg c
/-- A name, and its level. -/
def nameW (s:List UInt8):Wr:=
 match s.dropWhile isLD with
 | c :: d :: t=>if c == 58 && isDg d then ⟨2,(s.takeWhile isLD).length+1+((d :: t).takeWhile isDg).length,s.takeWhile isLD,lvl ((d :: t).takeWhile isDg),[]⟩ else ⟨2,(s.takeWhile isLD).length,s.takeWhile isLD,-1,[]⟩
 | _=>⟨2,(s.takeWhile isLD).length,s.takeWhile isLD,-1,[]⟩
/-- A text behind its quote; how long it is, the quote behind it too. -/
def qd:Nat->List UInt8->Option (List UInt8×Nat)
 | _,[]=>none
 | 0,_ :: _=>none
 | f+1,c :: t=>if c == 34 then some ([],1) else match rd 1 (c :: t) with
  | none=>none
  | some (b,n)=>(qd f ((c :: t).drop n)).map fun q=>(b :: q.1,n+q.2)
/-- A class behind its bracket: its ranges; how long it is. -/
def cd:Nat->List UInt8->Option (List (UInt8×UInt8)×Nat)
 | _,[]=>none
 | 0,_ :: _=>none
 | f+1,c :: t=>if c == 93 then some ([],1) else match rd 2 (c :: t) with
  | none=>none
  | some (b,n)=>match (c :: t).drop n with
   | []=>none
   | d :: u=>if d == 45 then (match rd 2 u with
     | none=>none
     | some (b2,m)=>(cd f (u.drop m)).map fun q=>((b,b2) :: q.1,n+1+m+q.2))
    else (cd f (d :: u)).map fun q=>((b,b) :: q.1,n+q.2)
/-- The word that begins a text. -/
def wordR:List UInt8->Option Wr
 | []=>some ⟨1,0,[],0,[]⟩
 | c :: t=>if isLt c then some (nameW (c :: t))
  else if c == 34 then (qd t.length t).map fun q=>⟨3,1+q.2,q.1,0,[]⟩
  else if c == 91 then (cd t.length t).map fun q=>⟨4,1+q.2,[],0,q.1⟩
  else if c == 60 && t.head? == some 45 then some ⟨5,2,[60,45],0,[]⟩
  else if sgs.contains c then some ⟨5,1,[c],0,[]⟩ else none
/-- A word where it stands. -/
structure Wd where
 kind:Nat
 at_:Nat
 nx:Nat
 tx:List UInt8
 lv:Int
 cl:List (UInt8×UInt8)
 deriving DecidableEq
def Wr.at (r:Wr) (k:Nat):Wd:=⟨r.kind,k,k+r.n,r.tx,r.lv,r.cl⟩
/-- What stands from a place on. -/
def nextW (l:List UInt8) (k:Nat):Option Wd:=(wordR (l.drop (k+skp false (l.drop k)))).map fun r=>r.at (k+skp false (l.drop k))
/-- The words from a place on; or where there is none. -/
def wordsF (l:List UInt8):Nat->Nat->List Wd×Option Nat
 | 0,_=>([],none)
 | f+1,k=>match nextW l k with
  | none=>([],some (k+skp false (l.drop k)))
  | some w=>if w.kind=1 then ([w],none) else (w :: (wordsF l f w.nx).1,(wordsF l f w.nx).2)

theorem qd_len:∀ (f:Nat) (t:List UInt8) {b:List UInt8} {n:Nat},qd f t=some (b,n)->1<=n/\n<=t.length
 | _,[],_,_,h=>by simp [qd] at h
 | 0,_ :: _,_,_,h=>by simp [qd] at h
 | f+1,c :: t,b,n,h=>by
  simp only [qd] at h
  split at h
  ·simp only [Option.some.injEq,Prod.mk.injEq] at h;simp;omega
  ·split at h
   ·cases h
   ·rename_i b1 n1 e
    have hl:=rd_len e
    cases hq:qd f ((c :: t).drop n1) with
    | none=>rw [hq] at h;cases h
    | some q=>
     rw [hq] at h
     have:=qd_len f _ (b:=q.1) (n:=q.2) hq
     rw [List.length_drop] at this
     simp only [Option.map_some,Option.some.injEq,Prod.mk.injEq] at h
     omega
theorem cd_len:∀ (f:Nat) (t:List UInt8) {b:List (UInt8×UInt8)} {n:Nat},cd f t=some (b,n)->1<=n/\n<=t.length
 | _,[],_,_,h=>by simp [cd] at h
 | 0,_ :: _,_,_,h=>by simp [cd] at h
 | f+1,c :: t,b,n,h=>by
  simp only [cd] at h
  split at h
  ·simp only [Option.some.injEq,Prod.mk.injEq] at h;simp;omega
  ·split at h
   ·cases h
   ·rename_i b1 n1 e
    have hl:=rd_len e
    split at h
    ·cases h
    ·rename_i d u hd
     have hdl:(d :: u).length=(c :: t).length - n1:=by rw [← hd,List.length_drop]
     split at h
     ·split at h
      ·cases h
      ·rename_i b2 m e2
       have hl2:=rd_len e2
       cases hq:cd f (u.drop m) with
       | none=>rw [hq] at h;cases h
       | some q=>
        rw [hq] at h
        have:=cd_len f _ (b:=q.1) (n:=q.2) hq
        rw [List.length_drop] at this
        simp only [Option.map_some,Option.some.injEq,Prod.mk.injEq] at h
        simp only [List.length_cons] at hdl
        simp only [List.length_cons]
        omega
     ·cases hq:cd f (d :: u) with
      | none=>rw [hq] at h;cases h
      | some q=>
       rw [hq] at h
       have:=cd_len f _ (b:=q.1) (n:=q.2) hq
       simp only [Option.map_some,Option.some.injEq,Prod.mk.injEq] at h
       omega
theorem tw_le {α:Type} (p:α->Bool):∀ l:List α,(l.takeWhile p).length+(l.dropWhile p).length=l.length
 | []=>rfl
 | x :: l=>by
  have:=tw_le p l
  simp only [List.takeWhile_cons,List.dropWhile_cons]
  split <;> simp <;> omega
theorem nameW_len {c:UInt8} {t:List UInt8} (hc:isLt c=true):(nameW (c :: t)).kind=2/\1<=(nameW (c :: t)).n/\(nameW (c :: t)).n<=(c :: t).length:=by
 have h1:1<=((c :: t).takeWhile isLD).length:=by
  rw [List.takeWhile_cons,if_pos (by unfold isLD;rw [hc];rfl)];simp
 have h2:=tw_le isLD (c :: t)
 unfold nameW
 split
 ·rename_i x y u hd
  rw [hd,List.length_cons] at h2
  split
  ·have h3:=tw_le isDg (y :: u)
   exact ⟨rfl,by show 1<=_+1+_;omega,by show _+1+_<=_;omega⟩
  ·exact ⟨rfl,h1,by show List.length _<=_;omega⟩
 ·exact ⟨rfl,h1,by show List.length _<=_;omega⟩
theorem wordR_len {s:List UInt8} {r:Wr} (h:wordR s=some r):r.n<=s.length/\1<=r.kind/\r.kind<=5/\(r.n=0 ↔ r.kind=1)/\(r.kind=1 ↔ s=[]):=by
 cases s with
 | nil=>simp only [wordR,Option.some.injEq] at h;subst h;simp
 | cons c t=>
  simp only [wordR] at h
  split at h
  ·rename_i hc
   obtain ⟨h1,h2,h3⟩:=nameW_len (t:=t) hc
   simp only [Option.some.injEq] at h;subst h
   refine ⟨h3,by omega,by omega,⟨by omega,by omega⟩,⟨by omega,fun h=>by cases h⟩⟩
  ·split at h
   ·cases hq:qd t.length t with
    | none=>rw [hq] at h;cases h
    | some q=>
     rw [hq] at h
     have:=qd_len _ _ (b:=q.1) (n:=q.2) hq
     simp only [Option.map_some,Option.some.injEq] at h;subst h
     simp only [List.length_cons]
     refine ⟨by omega,by omega,by omega,⟨by omega,by omega⟩,⟨by omega,fun h=>by cases h⟩⟩
   ·split at h
    ·cases hq:cd t.length t with
     | none=>rw [hq] at h;cases h
     | some q=>
      rw [hq] at h
      have:=cd_len _ _ (b:=q.1) (n:=q.2) hq
      simp only [Option.map_some,Option.some.injEq] at h;subst h
      simp only [List.length_cons]
      refine ⟨by omega,by omega,by omega,⟨by omega,by omega⟩,⟨by omega,fun h=>by cases h⟩⟩
    ·split at h
     ·rename_i hh
      simp only [Option.some.injEq] at h;subst h
      cases t with
      | nil=>simp at hh
      | cons d u=>simp
     ·split at h
      ·simp only [Option.some.injEq] at h;subst h;simp
      ·cases h
end Go.Proofs.YtgjhepblpdnkcaaGreatDoor
namespace Go.Proofs.YtgjhepblpdnkcaaGreatDoor

theorem nextW_some {l:List UInt8} {k:Nat} {w:Wd} (h:nextW l k=some w) (hk:k<=l.length):
  w.at_=k+skp false (l.drop k)/\k<=w.at_/\w.at_<=w.nx/\w.nx<=l.length/\1<=w.kind/\w.kind<=5/\(w.nx=w.at_ ↔ w.kind=1)/\(w.kind=1 ↔ w.at_=l.length):=by
 unfold nextW at h
 have hs:=skp_le (l.drop k) false
 rw [List.length_drop] at hs
 generalize skp false (l.drop k)=s at *
 cases hr:wordR (l.drop (k+s)) with
 | none=>rw [hr] at h;cases h
 | some r=>
  rw [hr] at h
  simp only [Option.map_some,Option.some.injEq] at h
  subst h
  obtain ⟨h1,h2,h3,h4,h5⟩:=wordR_len hr
  rw [List.length_drop] at h1
  have h6:l.drop (k+s)=[] ↔ k+s=l.length:=by rw [List.drop_eq_nil_iff];omega
  simp only [Wr.at]
  refine ⟨trivial,by omega,by omega,by omega,h2,h3,⟨fun e=>h4.1 (by omega),fun e=>by have:=h4.2 e;omega⟩,h5.trans h6⟩
/-- Words one behind the other, up to the end. -/
def Chain (l:List UInt8):Nat->List Wd->Prop
 | _,[]=>False
 | k,w :: ws=>nextW l k=some w/\((w.kind=1/\ws=[])∨(w.kind ≠ 1/\Chain l w.nx ws))
theorem wordsF_ok {l:List UInt8}:∀ (f k:Nat),k<=l.length->l.length < f+k->(wordsF l f k).2=none->Chain l k (wordsF l f k).1
 | 0,k,hk,hf,_=>by omega
 | f+1,k,hk,hf,h=>by
  simp only [wordsF] at h ⊢
  cases hw:nextW l k with
  | none=>rw [hw] at h;cases h
  | some w=>
   rw [hw] at h
   simp only [] at h ⊢
   obtain ⟨h1,h2,h3,h4,h5,h6,h7,h8⟩:=nextW_some hw hk
   by_cases hc:w.kind=1
   ·rw [if_pos hc];exact ⟨hw,.inl ⟨hc,rfl⟩⟩
   ·rw [if_neg hc] at h ⊢
    have:w.at_ ≠ w.nx:=fun e=>hc (h7.1 e.symm)
    exact ⟨hw,.inr ⟨hc,wordsF_ok f w.nx h4 (by omega) h⟩⟩
theorem wordsF_err {l:List UInt8} {e:Nat}:∀ (f k:Nat),k<=l.length->l.length < f+k->(wordsF l f k).2=some e->e < l.length/\skp false (l.drop e)=0/\nextW l e=none
 | 0,k,hk,hf,_=>by omega
 | f+1,k,hk,hf,h=>by
  simp only [wordsF] at h
  cases hw:nextW l k with
  | none=>
   rw [hw] at h
   simp only [Option.some.injEq] at h
   have hs:=skp_le (l.drop k) false
   rw [List.length_drop] at hs
   have hi:=skp_idem (l.drop k) false
   rw [List.drop_drop,h] at hi
   unfold nextW at hw
   rw [h] at hw
   have hw2:wordR (l.drop e)=none:=by cases hr:wordR (l.drop e) with
    | none=>rfl
    | some r=>rw [hr] at hw;cases hw
   refine ⟨?_,hi,?_⟩
   ·rcases Nat.lt_or_ge e l.length with h9 | h9
    ·exact h9
    ·rw [List.drop_eq_nil_of_le h9] at hw2;cases hw2
   ·unfold nextW;rw [hi,Nat.add_zero,hw2];rfl
  | some w=>
   rw [hw] at h
   simp only [] at h
   obtain ⟨h1,h2,h3,h4,h5,h6,h7,h8⟩:=nextW_some hw hk
   by_cases hc:w.kind=1
   ·rw [if_pos hc] at h;cases h
   ·rw [if_neg hc] at h
    have:w.at_ ≠ w.nx:=fun e=>hc (h7.1 e.symm)
    exact wordsF_err f w.nx h4 (by omega) h
/-- The words of a text, or where there is none. -/
def wordsOf (l:List UInt8):List Wd×Option Nat:=wordsF l (l.length+1) 0

/-! ### Two texts -/
end Go.Proofs.YtgjhepblpdnkcaaGreatDoor
namespace Go.Proofs.YtgjhepblpdnkcaaGreatDoor

/-- A word, so much further on. -/
def Wd.far (n:Nat) (w:Wd):Wd:={ w with at_:=n+w.at_,nx:=n+w.nx }
end Go.Proofs.YtgjhepblpdnkcaaGreatDoor
namespace Go.Proofs.YtgjhepblpdnkcaaGreatDoor

theorem skp_blanks:∀ t:List UInt8,skp false t=(t.takeWhile isBl).length+skp false (t.dropWhile isBl)
 | []=>rfl
 | c :: t=>by
  rw [List.takeWhile_cons,List.dropWhile_cons]
  by_cases h:isBl c=true
  ·rw [if_pos h,if_pos h]
   have:=skp_blanks t
   simp only [skp]
   rw [if_pos h,this,List.length_cons]
   omega
  ·rw [if_neg h,if_neg h];simp
theorem skp_stop {c:UInt8} {t:List UInt8} (h1:isBl c=false) (h2:c ≠ 35):skp false (c :: t)=0:=by
 simp only [skp];rw [if_neg (by rw [h1];exact Bool.false_ne_true),if_neg (by simpa using h2)]
theorem drop_head {p:UInt8->Bool}:∀ {t:List UInt8} {c:UInt8} {u:List UInt8},t.dropWhile p=c :: u->p c=false
 | [],c,u,h=>by cases h
 | x :: t,c,u,h=>by
  rw [List.dropWhile_cons] at h
  by_cases hp:p x=true
  ·rw [if_pos hp] at h;exact drop_head h
  ·rw [if_neg hp] at h;cases h;simpa using hp
theorem drop_tw {p:UInt8->Bool}:∀ l:List UInt8,l.dropWhile p=l.drop (l.takeWhile p).length
 | []=>rfl
 | c :: l=>by
  rw [List.dropWhile_cons,List.takeWhile_cons]
  split
  ·rw [List.length_cons,List.drop_succ_cons];exact drop_tw l
  ·rfl
theorem pre1 (p c:UInt8) (u:List UInt8):Lib.hasPrefix (c :: u) [p]=(p == c):=by
 show (p == c && List.isPrefixOf [] u)=(p == c)
 rw [List.isPrefixOf_nil_left,Bool.and_true]
theorem ix_ge (l:List UInt8) (c:UInt8):-1<=Lib.indexByte l c/\Lib.indexByte l c < l.length:=by
 induction l with
 | nil=>simp [Lib.indexByte]
 | cons b l ih=>
  simp only [Lib.indexByte,List.length_cons]
  split
  ·omega
  ·split
   ·omega
   ·rename_i h;simp only [beq_iff_eq] at h;omega
theorem skp_remark:∀ u:List UInt8,skp true u=if Lib.indexByte u 10 < 0 then u.length else (Lib.indexByte u 10).toNat+1+skp false (u.drop ((Lib.indexByte u 10).toNat+1))
 | []=>rfl
 | c :: u=>by
  have ih:=skp_remark u
  have hb:=ix_ge u 10
  by_cases h:c=10
  ·subst h
   have e1:Lib.indexByte (10 :: u) 10=0:=by simp [Lib.indexByte]
   rw [e1]
   simp [skp]
  ·have h1:(c == 10)=false:=by simpa using h
   have h2:(c != 10)=true:=by rw [bne,h1];rfl
   have e1:Lib.indexByte (c :: u) 10=if Lib.indexByte u 10 == -1 then -1 else Lib.indexByte u 10+1:=by simp [Lib.indexByte,h]
   have e0:skp true (c :: u)=1+skp true u:=by simp only [skp];rw [h2]
   rw [e0,e1,ih,List.length_cons]
   by_cases h3:Lib.indexByte u 10 < 0
   ·have h4:Lib.indexByte u 10=-1:=by omega
    rw [if_pos h3,h4]
    simp;omega
   ·have h4:(Lib.indexByte u 10 == -1)=false:=by simp;omega
    rw [if_neg h3,h4]
    simp only [Bool.false_eq_true,if_false]
    rw [if_neg (by omega)]
    have h5:(Lib.indexByte u 10+1).toNat=(Lib.indexByte u 10).toNat+1:=by omega
    rw [h5,List.drop_succ_cons]
    omega
theorem ix_at:∀ (u:List UInt8) (c:UInt8),0<=Lib.indexByte u c->∃ v,u.drop (Lib.indexByte u c).toNat=c :: v
 | [],c,h=>by simp [Lib.indexByte] at h
 | b :: u,c,h=>by
  simp only [Lib.indexByte] at h ⊢
  by_cases h1:(b == c)=true
  ·rw [if_pos h1];rw [beq_iff_eq] at h1;subst h1;exact ⟨u,rfl⟩
  ·rw [if_neg h1] at h ⊢
   by_cases h2:(Lib.indexByte u c == -1)=true
   ·rw [if_pos h2] at h;omega
   ·rw [if_neg h2] at h ⊢
    have hb:=ix_ge u c
    simp only [beq_iff_eq] at h2
    obtain ⟨v,hv⟩:=ix_at u c (by omega)
    have h5:(Lib.indexByte u c+1).toNat=(Lib.indexByte u c).toNat+1:=by omega
    exact ⟨v,by rw [h5,List.drop_succ_cons];exact hv⟩
/-- A remark, up to the byte that ends it. -/
theorem skp_hash (u:List UInt8):(Lib.indexByte (35 :: u) 10 < 0->skp false (35 :: u)=(35 :: u).length)/\
  (0<=Lib.indexByte (35 :: u) 10->1<=Lib.indexByte (35 :: u) 10/\skp false (35 :: u)=(Lib.indexByte (35 :: u) 10).toNat+skp false ((35 :: u).drop (Lib.indexByte (35 :: u) 10).toNat)):=by
 have e0:skp false (35 :: u)=1+skp true u:=by simp [skp,isBl]
 have e1:Lib.indexByte (35 :: u) 10=if Lib.indexByte u 10 == -1 then -1 else Lib.indexByte u 10+1:=by simp [Lib.indexByte]
 have hb:=ix_ge u 10
 rw [e0,e1,skp_remark u]
 by_cases h:Lib.indexByte u 10 < 0
 ·have h4:Lib.indexByte u 10=-1:=by omega
  rw [h4]
  simp
  omega
 ·have h4:(Lib.indexByte u 10 == -1)=false:=by simp;omega
  rw [h4,if_neg h]
  simp only [Bool.false_eq_true,if_false]
  refine ⟨fun h=>by omega,fun _=>⟨by omega,?_⟩⟩
  have h5:(Lib.indexByte u 10+1).toNat=(Lib.indexByte u 10).toNat+1:=by omega
  rw [h5,List.drop_succ_cons]
  obtain ⟨v,hv⟩:=ix_at u 10 (by omega)
  have e2:u.drop ((Lib.indexByte u 10).toNat+1)=v:=by rw [← List.drop_drop,hv];rfl
  rw [hv,e2]
  simp [skp,isBl]
  omega

/-! ### Classes of bytes, as texts -/
def blS:ByteArray:=⟨#[32,9,10,13]⟩
def dgS:ByteArray:=⟨#[48,49,50,51,52,53,54,55,56,57]⟩
def ltS:ByteArray:=⟨#[97,98,99,100,101,102,103,104,105,106,107,108,109,110,111,112,113,114,115,116,117,118,119,120,121,122,65,66,67,68,69,70,71,72,73,74,75,76,77,78,79,80,81,82,83,84,85,86,87,88,89,90,95]⟩
def ldS:ByteArray:=⟨#[97,98,99,100,101,102,103,104,105,106,107,108,109,110,111,112,113,114,115,116,117,118,119,120,121,122,65,66,67,68,69,70,71,72,73,74,75,76,77,78,79,80,81,82,83,84,85,86,87,88,89,90,95,48,49,50,51,52,53,54,55,56,57]⟩
theorem blS_is (c:UInt8):blS.data.toList.contains c=isBl c:=u8_all (P:=fun c=>blS.data.toList.contains c=isBl c) (by decide +kernel) c
theorem dgS_is (c:UInt8):dgS.data.toList.contains c=isDg c:=u8_all (P:=fun c=>dgS.data.toList.contains c=isDg c) (by decide +kernel) c
theorem ltS_is (c:UInt8):ltS.data.toList.contains c=isLt c:=u8_all (P:=fun c=>ltS.data.toList.contains c=isLt c) (by decide +kernel) c
theorem ldS_is (c:UInt8):ldS.data.toList.contains c=isLD c:=u8_all (P:=fun c=>ldS.data.toList.contains c=isLD c) (by decide +kernel) c
theorem trim_is {S:ByteArray} {p:UInt8->Bool} (h:∀ c,S.data.toList.contains c=p c) (l:List UInt8):Lib.trimLeftS l S.data.toList=l.dropWhile p:=by
 unfold Lib.trimLeftS
 congr 1
 funext c
 exact h c
end Go.Proofs.YtgjhepblpdnkcaaGreatDoor
