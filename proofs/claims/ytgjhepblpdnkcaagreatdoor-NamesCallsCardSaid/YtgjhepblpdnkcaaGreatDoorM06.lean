/- Walks and plain laws: V9 Va Wf Vb. -/
import Derived.Test.YtgjhepblpdnkcaaGreatDoorM05
import Derived.RangeFuncNested
import Derived.RangeFuncBound
import Derived.RangeFuncCalls
import Derived.RangeFuncLeaves
import Derived.Shelf.Abstract
import Derived.Shelf.RegionOpen
import Derived.WalkKit
import Derived.OwnWalkIn
import Derived.TacticsInMore
import Derived.LoopNIn
import Derived.LoopIn
namespace Go.Proofs.YtgjhepblpdnkcaaGreatDoor
open Go.RowKit
set_option maxRecDepth 100000
set_option maxHeartbeats 1000000

theorem rdA_le (p:Int) (s:ByteArray) (k:Nat) (hk:k<=s.size) (a:Int) (ha:a=k):rdA p s.data.toList a=rd p (s.data.toList.drop k):=by
 subst ha
 rcases Nat.lt_or_ge k s.size with h | h
 ·exact rdA_at p s k h
 ·rw [rdA_out (.inr (by omega)),List.drop_eq_nil_of_le (by rw [ba_len];exact h)];rfl
theorem or_two (W V:Nat->Nat):orL [W,V]=orW W V:=by
 funext i
 simp [orL,orW,noW]
theorem or2 (w:World) (g:Nat) (W1 W2:Nat->Nat) (h:hrow w g #[.int .u64 (W1 0),.int .u64 (W1 1),.int .u64 (W1 2),.int .u64 (W1 3),.int .u64 (W2 0),.int .u64 (W2 1),.int .u64 (W2 2),.int .u64 (W2 3)] 43) (h1:Words W1) (h2:Words W2):
    Calls Tryz.prog 182 #[.slice (some ⟨g,0,none⟩) 2 2] w fun r w'=>r=.returned (.agg (cw (orL [W1,W2])))/\Below w.heap.size w w':=
  orF_any w _ 2 2 [W1,W2] (Sv.of_hrow h 2 4 (by unfold maxLen;omega) rfl) (fun W hW=>by simp at hW;rcases hW with rfl | rfl <;> assumption)
/-- What a class's loop has in hand. -/
def StI (s:ByteArray) (k g:Nat) (w:World) (B:Nat) (n:Nat) (R:List (UInt8×UInt8)) (wr:World):Prop:=
 hrow wr B (cw (clsW R)) 43/\Below w.heap.size w wr/\(Rdr wr g s k/\g < B)/\hrow wr w.heap.size wd0 82/\w.heap.size < B/\k<=n/\
  stR (s.data.toList.drop k)=(cdS (s.data.toList.drop n)).map fun q=>(⟨4,n - k+q.2,[],0,R ++ q.1⟩:Wr)
theorem StI.below {s:ByteArray} {k g B n:Nat} {w wr x:World} {R:List (UInt8×UInt8)} (h:StI s k g w B n R wr) (hb:Below wr.heap.size wr x):StI s k g w B n R x:=
 ⟨h.1.below hb,h.2.1.trans (hb.mono h.2.1.size),⟨Rdr.below h.2.2.1.1 hb,h.2.2.1.2⟩,h.2.2.2.1.below hb,h.2.2.2.2⟩
theorem hrow.setOther {w:World} {g B:Nat} {cs cs':Array Value} {t:TypeId} (h:hrow w g cs t) (hg:g ≠ B):hrow (w.setRow B cs') g cs t:=(setRow_other w B g cs' hg).trans h
theorem StI.step {s:ByteArray} {k g B n:Nat} {w x:World} {R:List (UInt8×UInt8)} (h:StI s k g w B n R x) (p:UInt8×UInt8) (n2:Nat)
  (hp:n<=n2/\cdS (s.data.toList.drop n)=(cdS (s.data.toList.drop n2)).map fun q=>(p :: q.1,n2 - n+q.2)):StI s k g w B n2 (R ++ [p]) (x.setRow B (cw (orL [clsW R,rgW p]))):=by
 obtain ⟨h1,h2,⟨h3,h3b⟩,h4,h5,h6,h7⟩:=h
 rw [or_two,← clsW_snoc]
 refine ⟨setRow_heap _ _ _ _ _ _ h1,below_setRow h2 (Nat.le_of_lt h5) _,⟨hrow.setOther h3 (by omega),h3b⟩,hrow.setOther h4 (by omega),h5,by omega,?_⟩
 rw [h7,hp.2]
 cases cdS (s.data.toList.drop n2) with
 | none=>rfl
 | some q=>
  simp only [Option.map_some,Option.some.injEq,Wr.mk.injEq,true_and]
  exact ⟨by omega,by rw [List.append_assoc];rfl⟩
theorem set_any (s:ByteArray) (k g:Nat) (w:World) (hr:Rdr w g s k) (hs:s.size<=1000000) (hk:k<=s.size):
  Calls Tryz.prog 151 #[.pointer (some ⟨g,0,none⟩)] w fun e w'=>e=.returned (rdO (stR (s.data.toList.drop k)) k)/\Below w.heap.size w w':=by
 have HRD:=Lib.hid hr
 have HS:=Lib.hid hs
 have HK:=Lib.hid hk
 have hHH:=Lib.hid (fun (x:World) (h:Rdr x g s k)=>here_91 s k g x h hk)
 clear hr hs hk
 by_cases hq:(s.data.toList.drop k).head?=some 91
 ·have hqb:((s.data.toList.drop k).head? == some 91)=true:=by rw [hq];rfl
  have HKL:Hid (k < s.size):=by
   rcases Nat.lt_or_ge k s.size with h | h
   ·exact h
   ·rw [List.drop_eq_nil_of_le (by rw [ba_len];exact h)] at hq;cases hq
  have HT0:Hid (stR (s.data.toList.drop k)=(cdS (s.data.toList.drop (k+1))).map fun q=>(⟨4,k+1 - k+q.2,[],0,[] ++ q.1⟩:Wr)):=by
   rw [drop_at HKL.out] at hq ⊢
   have h34:s[k]'HKL.out=91:=by simpa using hq
   unfold Hid stR
   simp only []
   rw [if_pos (by simpa using h34),show k+1 - k=1 by omega]
   rfl
  clear hq
  have hI0:(0:Int)<=k:=by omega
  have hI1:(k:Int)<=1000000:=by have:=HKL.out;have:=HS.out;omega
  go_enter Tryz.func151,Tryz.ntmps151
  go_wp2_with fail
  have HB:=Lib.hid ((Below.refl w.heap.size w).alloc (Nat.le_refl _) (.cells #[.int .i64 0,.int .i64 0,.int .i64 0,.string ⟨#[]⟩,.int .i64 0,.int .u64 0,.int .u64 0,.int .u64 0,.int .u64 0] 82))
  have HR:=Lib.hid (show hrow (w.alloc (.cells #[.int .i64 0,.int .i64 0,.int .i64 0,.string ⟨#[]⟩,.int .i64 0,.int .u64 0,.int .u64 0,.int .u64 0,.int .u64 0] 82)) w.heap.size wd0 82 from hrow.new _ _ _)
  replace HRD:=Lib.hid (Rdr.below HRD.out HB.out)
  revert HB HR HRD
  generalize w.alloc (.cells #[.int .i64 0,.int .i64 0,.int .i64 0,.string ⟨#[]⟩,.int .i64 0,.int .u64 0,.int .u64 0,.int .u64 0,.int .u64 0] 82)=wb
  intro HB HR HRD
  have HRN:Hid (∀ n,hrow (wb.drewN n) w.heap.size wd0 82):=Lib.hid (fun _=>HR.out)
  clear HRN
  go_wp2_with fail
  refine (hHH.out _ HRD.out).mono ?_
  rintro e x ⟨rfl,hb⟩
  replace HR:=Lib.hid (HR.out.below hb)
  replace HRD:=Lib.hid (Rdr.below HRD.out hb)
  replace HB:=Lib.hid (HB.out.trans (hb.mono HB.out.size))
  clear hb
  rw [hqb]
  clear hqb hHH
  have HBa:=Lib.hid ((Below.refl x.heap.size x).alloc (Nat.le_refl _) (.cells #[.int .u64 0,.int .u64 0,.int .u64 0,.int .u64 0] 43))
  obtain ⟨c0,c1⟩:=hrow.c2 (Rdr.below HRD.out HBa.out)
  have HI:Hid (StI s k g w x.heap.size (k+1) [] (x.alloc (.cells #[.int .u64 0,.int .u64 0,.int .u64 0,.int .u64 0] 43))):=
   ⟨hrow.new _ _ _,HB.out.trans (HBa.out.mono HB.out.size),⟨Rdr.below HRD.out HBa.out,HRD.out.lt⟩,HR.out.below HBa.out,HR.out.lt,Nat.le_succ _,HT0.out⟩
  clear HR HRD HB HT0 HBa
  go_wp2_with fail
  clear c0 c1
  generalize x.heap.size=B at *
  go_loopw [5] (fun i wr=>∃ (n:Nat) (R:List (UInt8×UInt8)),k+1<=n/\n<=s.size/\i=.int .i64 n/\Hid (StI s k g w B n R wr)) (fun i _=>s.size - (intOf i).toNat)
  case atStart=>exact ⟨k+1,[],Nat.le_refl _,HKL.out,by go_num,HI.out⟩
  case round=>
   clear HI
   obtain ⟨n,R,hk1,hn,rfl,HJ⟩:=hrel
   have HK1:=Lib.hid hk1;clear hk1
   obtain ⟨c0,c1⟩:=hrow.c2 HJ.out.2.2.1.1
   by_cases hlt:n < s.size
   ·have hnI:(n:Int) < s.size:=by omega
    have hn0:(0:Int)<=n:=by omega
    have hsz:(s.size:Int)<=1000000:=by have:=HS.out;omega
    have HNL:=Lib.hid hlt
    obtain ⟨c,hcs⟩:∃ c,c=s[n]:=⟨_,rfl⟩
    have HQ:Hid (s.data.toList.drop n=c :: s.data.toList.drop (n+1)):=by rw [hcs];exact drop_at hlt
    have HCS:=Lib.hid hcs;clear hcs
    by_cases h34:c=93
    ·have h34I:((s[n].toNat:Nat):Int)=93:=by rw [← HCS.out,h34];rfl
     have HE:Hid (stR (s.data.toList.drop k)=some ⟨4,n+1 - k,[],0,R⟩):=by
      have:=HJ.out.2.2.2.2.2.2
      have h1:=HK1.out
      unfold Hid
      rw [this,HQ.out,h34,cd_close]
      simp only [Option.map_some,Option.some.injEq,Wr.mk.injEq,true_and,List.append_nil,and_true]
      omega
     clear hn h34
     have hkn:(k:Int)<=n+1:=by have:=HK1.out;omega
     have hnb:(n:Int)+1 - k<=1000000:=by have:=HS.out;omega
     have hnk:(0:Int)<=(n:Int)+1 - k:=by omega
     have HEQ:Hid ((n:Int)+1 - k=((n+1 - k:Nat):Int)):=by have:=HK1.out;unfold Hid;omega
     have instK:Nonempty (Kept (StI s k g w B n R)):=⟨⟨wr,HJ.out⟩⟩
     have hc0:∀ x:Kept (StI s k g w B n R),x.val.cell? ⟨g,0,none⟩=some (.string s):=fun x=>(hrow.c2 x.ok.2.2.1.1).1
     have hc1:∀ x:Kept (StI s k g w B n R),x.val.cell? ⟨g,1,none⟩=some (.int .i64 k):=fun x=>(hrow.c2 x.ok.2.2.1.1).2
     have hcl0:∀ x:Kept (StI s k g w B n R),x.val.cell? ⟨B,0,none⟩=some (.int .u64 (clsW R 0)):=fun x=>hrow.cell x.ok.1 0
     have hcl1:∀ x:Kept (StI s k g w B n R),x.val.cell? ⟨B,1,none⟩=some (.int .u64 (clsW R 1)):=fun x=>hrow.cell x.ok.1 1
     have hcl2:∀ x:Kept (StI s k g w B n R),x.val.cell? ⟨B,2,none⟩=some (.int .u64 (clsW R 2)):=fun x=>hrow.cell x.ok.1 2
     have hcl3:∀ x:Kept (StI s k g w B n R),x.val.cell? ⟨B,3,none⟩=some (.int .u64 (clsW R 3)):=fun x=>hrow.cell x.ok.1 3
     have hbd:∀ x:World,(Instr.build 82 #[(0,.int .i64 4),(5,.agg #[.int .u64 (clsW R 0),.int .u64 (clsW R 1),.int .u64 (clsW R 2),.int .u64 (clsW R 3)])]).run Tryz.prog x=.ok (.agg #[.int .i64 4,.int .i64 0,.int .i64 0,.string ⟨#[]⟩,.int .i64 0,.int .u64 (clsW R 0),.int .u64 (clsW R 1),.int .u64 (clsW R 2),.int .u64 (clsW R 3)]) x:=fun x=>run_build x _ _ _ (by generalize clsW R 0=a0;generalize clsW R 1=a1;generalize clsW R 2=a2;generalize clsW R 3=a3;kernel_rfl)
     have HWd:Hid (∀ x:Kept (StI s k g w B n R),Calls Tryz.prog 174 #[.pointer (some ⟨g,0,none⟩),.agg #[.int .i64 4,.int .i64 0,.int .i64 0,.string ⟨#[]⟩,.int .i64 0,.int .u64 (clsW R 0),.int .u64 (clsW R 1),.int .u64 (clsW R 2),.int .u64 (clsW R 3)],.int .i64 ((n:Int)+1 - k)] x.val fun e w'=>e=.returned (.tuple #[.agg #[.int .i64 4,.int .i64 k,.int .i64 (k+((n:Int)+1 - k)),.string ⟨#[]⟩,.int .i64 0,.int .u64 (clsW R 0),.int .u64 (clsW R 1),.int .u64 (clsW R 2),.int .u64 (clsW R 3)],.bool true])/\∃ y:Kept (StI s k g w B n R),w'=y.val):=Lib.hid fun x=>by
      refine (word_any 4 0 0 0 (clsW R 0) (clsW R 1) (clsW R 2) (clsW R 3) ((n:Int)+1 - k) ⟨#[]⟩ s k g _ x.ok.2.2.1.1 (by have:=HS.out;have:=HK.out;omega) hnk hnb).mono ?_
      rintro e x2 ⟨rfl,hb⟩
      exact ⟨rfl,⟨x2,x.ok.below hb⟩,rfl⟩
     go_wp2_with fail
     refine wp_region_kept_tail 14 (by kernel_rfl) (by kernel_rfl) (HJ.out.below (Below.refl _ _).drew) ?_
     simp only [List.take_succ_cons,List.take_zero,List.drop_succ_cons,List.drop_zero]
     repeat (go_big_quiet_step ((go_at_call 174;with_reducible exact HWd.out _)))
     refine wpQuiet_nil ?_
     intro w5 hw5
     obtain ⟨x,rfl⟩:=hw5
     have HR:=Lib.hid x.ok.2.2.2.1
     have HB:=Lib.hid x.ok.2.1
     clear hc0 hc1 hcl0 hcl1 hcl2 hcl3 HWd
     go_wp2_with (with_reducible refine store_word rfl (.tmp 2) (.tmp 50) rfl w.heap.size _ _ _ _ _ _ _ _ _ rfl rfl HR.out ?_)
     rw [HEQ.out]
     refine bodyPost_ret (results_word rfl _ _ w.heap.size _ _ rfl rfl HR.out ?_) rfl ?_
     next=>rfl
     next=>first | exact ⟨rfl,below_setRow HB.out (Nat.le_refl _) _⟩ | exact ⟨by rw [HE.out];rfl,below_setRow HB.out (Nat.le_refl _) _⟩
    ·have h34I:((s[n].toNat:Nat):Int) ≠ 93:=fun h=>h34 (by rw [← HCS.out] at h;apply UInt8.toNat_inj.1;show c.toNat=93;omega)
     clear hn
     go_wp2_with fail
     refine (rbyte_any 2 s k g n wr HJ.out.2.2.1.1 HS.out).mono ?_
     rintro e x ⟨rfl,hb⟩
     rw [rdA_at 2 s n HNL.out,HQ.out]
     have HJ2:=Lib.hid (HJ.out.below hb)
     have H34:=Lib.hid h34
     clear hb HJ c0 c1
     cases hrd:rd 2 (c :: s.data.toList.drop (n+1)) with
     | none=>
      have HE:Hid (stR (s.data.toList.drop k)=none):=by
       have:=HJ2.out.2.2.2.2.2.2
       unfold Hid
       rw [this,HQ.out,cd_bad H34.out hrd];rfl
      unfold rdV
      clear hrd H34 HQ h34
      have HR:=Lib.hid HJ2.out.2.2.2.1
      have HB:=Lib.hid HJ2.out.2.1
      clear HJ2
      go_wp2_with (with_reducible refine store_word rfl (.tmp 2) (.tmp 88) rfl w.heap.size _ _ _ _ _ _ _ _ _ rfl rfl HR.out ?_)
      refine bodyPost_ret (results_word rfl _ _ w.heap.size _ _ rfl rfl HR.out ?_) rfl ?_
      next=>rfl
      next=>first | exact ⟨rfl,below_setRow HB.out (Nat.le_refl _) _⟩ | exact ⟨by rw [HE.out];rfl,below_setRow HB.out (Nat.le_refl _) _⟩
     | some q=>
      obtain ⟨b,m⟩:=q
      have HRL:=Lib.hid (rd_len hrd)
      have HRD:=Lib.hid hrd
      have hml:n+m<=s.size:=by have:=HRL.out.2;have h2:=congrArg List.length HQ.out;rw [List.length_drop,ba_len] at h2;omega
      have hmI:(n:Int)+m<=s.size:=by omega
      have hm0:(0:Int)<=m:=by omega
      obtain ⟨c0,c1⟩:=hrow.c2 HJ2.out.2.2.1.1
      have hsl:=from_run (P:=Tryz.prog) 9 Tryz.underlying9 s (n+m) ((n:Int)+m) (by omega) hml
      have HDR:Hid ((c :: s.data.toList.drop (n+1)).drop m=s.data.toList.drop (n+m)):=by rw [← HQ.out,List.drop_drop];rfl
      unfold rdV
      clear hrd h34
      go_wp2_with fail
      refine (Tryz.strings_HasPrefix _ _ x).mono ?_
      rintro e x2 ⟨rfl,rfl⟩
      rw [tx_list]
      have HML:=Lib.hid hml
      clear hsl
      by_cases h45:(s.data.toList.drop (n+m)).head?=some 45
      ·obtain ⟨u,hu⟩:∃ u,s.data.toList.drop (n+m)=45 :: u:=by
        cases hd:s.data.toList.drop (n+m) with
        | nil=>rw [hd] at h45;cases h45
        | cons y v=>rw [hd] at h45;simp at h45;exact ⟨v,by rw [h45]⟩
       have hlt2:n+m+1<=s.size:=by have h2:=congrArg List.length hu;rw [List.length_drop,ba_len,List.length_cons] at h2;omega
       have HU:Hid (s.data.toList.drop (n+m+1)=u):=by rw [← List.drop_drop,hu];rfl
       have HUU:=Lib.hid hu
       rw [hu,pre1]
       have hp45:((45:UInt8) == 45)=true:=rfl
       rw [hp45]
       have hmI2:(n:Int)+m+1<=s.size:=by omega
       clear h45 hu hp45
       go_wp2_with fail
       refine (rbyte_any 2 s k g ((n:Int)+m+1) _ HJ2.out.2.2.1.1 HS.out).mono ?_
       rintro e x3 ⟨rfl,hb⟩
       replace HJ2:=Lib.hid (HJ2.out.below hb)
       clear hb c0 c1
       rw [rdA_le 2 s (n+m+1) hlt2 _ (by omega),HU.out]
       cases hrd2:rd 2 u with
       | none=>
        have HE:Hid (stR (s.data.toList.drop k)=none):=by
         have:=HJ2.out.2.2.2.2.2.2
         unfold Hid
         rw [this,HQ.out,cd_bad2 H34.out HRD.out (HDR.out.trans HUU.out) hrd2];rfl
        unfold rdV
        clear hrd2 H34 HQ
        have HR:=Lib.hid HJ2.out.2.2.2.1
        have HB:=Lib.hid HJ2.out.2.1
        clear HJ2
        go_wp2_with (with_reducible refine store_word rfl (.tmp 2) (.tmp 88) rfl w.heap.size _ _ _ _ _ _ _ _ _ rfl rfl HR.out ?_)
        refine bodyPost_ret (results_word rfl _ _ w.heap.size _ _ rfl rfl HR.out ?_) rfl ?_
        next=>rfl
        next=>first | exact ⟨rfl,below_setRow HB.out (Nat.le_refl _) _⟩ | exact ⟨by rw [HE.out];rfl,below_setRow HB.out (Nat.le_refl _) _⟩
       | some q2=>
        obtain ⟨b2,m2⟩:=q2
        have HL2:=Lib.hid (rd_len hrd2)
        have HN3:Hid (n+m+1+m2<=s.size):=by have:=HL2.out.2;have h2:=congrArg List.length HU.out;rw [List.length_drop,ba_len] at h2;unfold Hid;omega
        have HN2:Hid (n<=n+m+1+m2/\cdS (s.data.toList.drop n)=(cdS (s.data.toList.drop (n+m+1+m2))).map fun q=>((b,b2) :: q.1,n+m+1+m2 - n+q.2)):=by
         refine ⟨by omega,?_⟩
         rw [HQ.out,cd_two H34.out HRD.out (HDR.out.trans HUU.out) hrd2,← HU.out,List.drop_drop]
         congr 1;funext q;congr 1;omega
        unfold rdV
        clear hrd2
        have hcl0:∀ x:Kept (StI s k g w B n R),x.val.cell? ⟨B,0,none⟩=some (.int .u64 (clsW R 0)):=fun x=>hrow.cell x.ok.1 0
        have hcl1:∀ x:Kept (StI s k g w B n R),x.val.cell? ⟨B,1,none⟩=some (.int .u64 (clsW R 1)):=fun x=>hrow.cell x.ok.1 1
        have hcl2:∀ x:Kept (StI s k g w B n R),x.val.cell? ⟨B,2,none⟩=some (.int .u64 (clsW R 2)):=fun x=>hrow.cell x.ok.1 2
        have hcl3:∀ x:Kept (StI s k g w B n R),x.val.cell? ⟨B,3,none⟩=some (.int .u64 (clsW R 3)):=fun x=>hrow.cell x.ok.1 3
        have instK:Nonempty (Kept (StI s k g w B n R)):=⟨⟨_,HJ2.out⟩⟩
        have HRg:Hid (∀ x:Kept (StI s k g w B n R),Calls Tryz.prog 183 #[.int .u8 b.toNat,.int .u8 b2.toNat] x.val fun e w'=>e=.returned (.agg #[.int .u64 (rgW (b,b2) 0),.int .u64 (rgW (b,b2) 1),.int .u64 (rgW (b,b2) 2),.int .u64 (rgW (b,b2) 3)])/\∃ y:Kept (StI s k g w B n R),w'=y.val):=Lib.hid fun x=>by
         refine (rng_any (b,b2) x.val).mono ?_
         rintro e x2 ⟨rfl,hb⟩
         exact ⟨rfl,⟨x2,x.ok.below hb⟩,rfl⟩
        go_wp2_with fail
        refine wp_region_kept_tail 4 (by kernel_rfl) (by kernel_rfl) (HJ2.out.below (Below.refl _ _).drew) ?_
        simp only [List.take_succ_cons,List.take_zero,List.drop_succ_cons,List.drop_zero]
        repeat (go_big_quiet_step ((go_at_call 183;with_reducible exact HRg.out _)))
        refine wpQuiet_nil ?_
        intro w5 hw5
        obtain ⟨x,rfl⟩:=hw5
        have HX:=Lib.hid x.ok
        generalize x.val=x5 at HX ⊢
        clear hcl0 hcl1 hcl2 hcl3 HRg instK HJ2 x
        have K2:Hid ((Tryz.prog.info? 43).map (·.size)=some (cw (orL [clsW R,rgW (b,b2)])).size):=cw_info.1
        go_wp2_with (first
         | (go_at_call 182;refine (or2 _ _ (clsW R) (rgW (b,b2)) (hrow.new _ _ _) (clsW_words R) (rgW_words _)).mono ?_;rintro e w2 ⟨rfl,hb2⟩;have HX2:=Lib.hid (HX.out.below (((Below.refl _ _).alloc (Nat.le_refl _) _).trans (hb2.mono (by simp))));have HC2:=Lib.hid HX2.out.1;clear hb2)
         | (with_reducible refine wpList_store_row rfl 43 (.tmp 4) (.tmp 86) rfl B (cw (orL [clsW R,rgW (b,b2)])) rfl rfl 43 _ HC2.out.h K2.out rfl (cw_one _) ?_))
        have HX3:=Lib.hid (HX2.out.step (b,b2) (n+m+1+m2) HN2.out)
        go_roundw
        case rel=>exact ⟨(n+m+1+m2),R ++ [(b,b2)],by have:=HK1.out;omega,by have:=HN3.out;omega,by go_num,HX3.out⟩
        case measure=>have:=HRL.out.1;simp [intOf];omega
      ·have hp:Lib.hasPrefix (s.data.toList.drop (n+m)) (ByteArray.mk #[45]).data.toList=false:=by
        cases hd:s.data.toList.drop (n+m) with
        | nil=>rfl
        | cons y v=>
         rw [hd] at h45
         refine (pre1 45 y v).trans ?_
         rw [Bool.eq_false_iff];simp at h45 ⊢;exact fun h=>h45 h.symm
       rw [hp]
       have HN3:=HML
       have HN2:Hid (n<=n+m/\cdS (s.data.toList.drop n)=(cdS (s.data.toList.drop (n+m))).map fun q=>((b,b) :: q.1,n+m - n+q.2)):=by
        refine ⟨by omega,?_⟩
        rw [HQ.out]
        cases hd:s.data.toList.drop (n+m) with
        | nil=>rw [cd_end H34.out HRD.out (HDR.out.trans hd),cd_nil];rfl
        | cons y v=>
         rw [cd_one H34.out HRD.out (HDR.out.trans hd) (fun h=>h45 (by rw [hd,h];rfl)),Nat.add_sub_cancel_left]
       clear h45 hp c0 c1
       have hcl0:∀ x:Kept (StI s k g w B n R),x.val.cell? ⟨B,0,none⟩=some (.int .u64 (clsW R 0)):=fun x=>hrow.cell x.ok.1 0
       have hcl1:∀ x:Kept (StI s k g w B n R),x.val.cell? ⟨B,1,none⟩=some (.int .u64 (clsW R 1)):=fun x=>hrow.cell x.ok.1 1
       have hcl2:∀ x:Kept (StI s k g w B n R),x.val.cell? ⟨B,2,none⟩=some (.int .u64 (clsW R 2)):=fun x=>hrow.cell x.ok.1 2
       have hcl3:∀ x:Kept (StI s k g w B n R),x.val.cell? ⟨B,3,none⟩=some (.int .u64 (clsW R 3)):=fun x=>hrow.cell x.ok.1 3
       have instK:Nonempty (Kept (StI s k g w B n R)):=⟨⟨_,HJ2.out⟩⟩
       have HRg:Hid (∀ x:Kept (StI s k g w B n R),Calls Tryz.prog 183 #[.int .u8 b.toNat,.int .u8 b.toNat] x.val fun e w'=>e=.returned (.agg #[.int .u64 (rgW (b,b) 0),.int .u64 (rgW (b,b) 1),.int .u64 (rgW (b,b) 2),.int .u64 (rgW (b,b) 3)])/\∃ y:Kept (StI s k g w B n R),w'=y.val):=Lib.hid fun x=>by
        refine (rng_any (b,b) x.val).mono ?_
        rintro e x2 ⟨rfl,hb⟩
        exact ⟨rfl,⟨x2,x.ok.below hb⟩,rfl⟩
       go_wp2_with fail
       refine wp_region_kept_tail 4 (by kernel_rfl) (by kernel_rfl) (HJ2.out.below (Below.refl _ _).drew) ?_
       simp only [List.take_succ_cons,List.take_zero,List.drop_succ_cons,List.drop_zero]
       repeat (go_big_quiet_step ((go_at_call 183;with_reducible exact HRg.out _)))
       refine wpQuiet_nil ?_
       intro w5 hw5
       obtain ⟨x,rfl⟩:=hw5
       have HX:=Lib.hid x.ok
       generalize x.val=x5 at HX ⊢
       clear hcl0 hcl1 hcl2 hcl3 HRg instK HJ2 x
       have K2:Hid ((Tryz.prog.info? 43).map (·.size)=some (cw (orL [clsW R,rgW (b,b)])).size):=cw_info.1
       go_wp2_with (first
        | (go_at_call 182;refine (or2 _ _ (clsW R) (rgW (b,b)) (hrow.new _ _ _) (clsW_words R) (rgW_words _)).mono ?_;rintro e w2 ⟨rfl,hb2⟩;have HX2:=Lib.hid (HX.out.below (((Below.refl _ _).alloc (Nat.le_refl _) _).trans (hb2.mono (by simp))));have HC2:=Lib.hid HX2.out.1;clear hb2)
        | (with_reducible refine wpList_store_row rfl 43 (.tmp 4) (.tmp 86) rfl B (cw (orL [clsW R,rgW (b,b)])) rfl rfl 43 _ HC2.out.h K2.out rfl (cw_one _) ?_))
       have HX3:=Lib.hid (HX2.out.step (b,b) (n+m) HN2.out)
       go_roundw
       case rel=>exact ⟨(n+m),R ++ [(b,b)],by have:=HK1.out;omega,by have:=HN3.out;omega,by go_num,HX3.out⟩
       case measure=>have:=HRL.out.1;simp [intOf];omega
   ·have hnI:¬ (n:Int) < s.size:=by omega
    have HE:Hid (stR (s.data.toList.drop k)=none):=by
     have:=HJ.out.2.2.2.2.2.2
     unfold Hid
     rw [this,List.drop_eq_nil_of_le (by rw [ba_len];omega)];rfl
    have HJ2:=HJ
    clear hn HJ
    have HR:=Lib.hid HJ2.out.2.2.2.1
    have HB:=Lib.hid HJ2.out.2.1
    clear HJ2
    go_wp2_with (with_reducible refine store_word rfl (.tmp 2) (.tmp 88) rfl w.heap.size _ _ _ _ _ _ _ _ _ rfl rfl HR.out ?_)
    refine bodyPost_ret (results_word rfl _ _ w.heap.size _ _ rfl rfl HR.out ?_) rfl ?_
    next=>rfl
    next=>first | exact ⟨rfl,below_setRow HB.out (Nat.le_refl _) _⟩ | exact ⟨by rw [HE.out];rfl,below_setRow HB.out (Nat.le_refl _) _⟩
 ·have hqb:((s.data.toList.drop k).head? == some 91)=false:=by rw [Bool.eq_false_iff];simpa using hq
  have HE:Hid (stR (s.data.toList.drop k)=none):=by
   unfold Hid stR
   split
   next c t h=>
    rw [h] at hq
    rw [if_neg (by simpa using hq)]
   next=>rfl
  clear hq
  go_enter Tryz.func151,Tryz.ntmps151
  go_wp2_with fail
  have HB:=Lib.hid ((Below.refl w.heap.size w).alloc (Nat.le_refl _) (.cells #[.int .i64 0,.int .i64 0,.int .i64 0,.string ⟨#[]⟩,.int .i64 0,.int .u64 0,.int .u64 0,.int .u64 0,.int .u64 0] 82))
  have HR:=Lib.hid (show hrow (w.alloc (.cells #[.int .i64 0,.int .i64 0,.int .i64 0,.string ⟨#[]⟩,.int .i64 0,.int .u64 0,.int .u64 0,.int .u64 0,.int .u64 0] 82)) w.heap.size wd0 82 from hrow.new _ _ _)
  replace HRD:=Lib.hid (Rdr.below HRD.out HB.out)
  revert HB HR HRD
  generalize w.alloc (.cells #[.int .i64 0,.int .i64 0,.int .i64 0,.string ⟨#[]⟩,.int .i64 0,.int .u64 0,.int .u64 0,.int .u64 0,.int .u64 0] 82)=wb
  intro HB HR HRD
  have HRN:Hid (∀ n,hrow (wb.drewN n) w.heap.size wd0 82):=Lib.hid (fun _=>HR.out)
  clear HRN
  go_wp2_with fail
  refine (hHH.out _ HRD.out).mono ?_
  rintro e x ⟨rfl,hb⟩
  replace HR:=Lib.hid (HR.out.below hb)
  replace HRD:=Lib.hid (Rdr.below HRD.out hb)
  replace HB:=Lib.hid (HB.out.trans (hb.mono HB.out.size))
  clear hb
  rw [hqb]
  clear hqb hHH
  go_wp2_with (with_reducible refine store_word rfl (.tmp 2) (.tmp 15) rfl w.heap.size _ _ _ _ _ _ _ _ _ rfl rfl HR.out ?_)
  refine bodyPost_ret (results_word rfl _ _ w.heap.size _ _ rfl rfl HR.out ?_) rfl ?_
  next=>rfl
  next=>first | exact ⟨rfl,below_setRow HB.out (Nat.le_refl _) _⟩ | exact ⟨by rw [HE.out];rfl,below_setRow HB.out (Nat.le_refl _) _⟩
end Go.Proofs.YtgjhepblpdnkcaaGreatDoor
namespace Go.Proofs.YtgjhepblpdnkcaaGreatDoor
open Go.RowKit
set_option maxRecDepth 100000
set_option maxHeartbeats 1000000

theorem nm_letter {c:UInt8} {t:List UInt8} (h:isLt c=true):nmR (c :: t)=some (nameW (c :: t)):=by
 unfold nmR;rw [List.takeWhile_cons,if_pos h,if_neg (by simp)]
theorem nm_other {c:UInt8} {t:List UInt8} (h:isLt c=false):nmR (c :: t)=none:=by
 unfold nmR;rw [List.takeWhile_cons,h];rfl
theorem word_alt (l:List UInt8):wordR l=(endR l).or ((nmR l).or ((txR l).or ((stR l).or ((arrR l).or (sgnR l))))):=by
 match l with
 | []=>rfl
 | c :: t=>
  unfold wordR
  simp only []
  have he:endR (c :: t)=none:=rfl
  rw [he,Option.none_or]
  by_cases h1:isLt c=true
  ·rw [if_pos h1,nm_letter h1];rfl
  rw [if_neg h1,nm_other (by simpa using h1),Option.none_or]
  by_cases h2:c=34
  ·subst h2
   have e1:stR (34 :: t)=none:=rfl
   have e2:arrR (34 :: t)=none:=by cases t <;> rfl
   have e3:sgnR (34 :: t)=none:=rfl
   rw [if_pos (by decide),e1,e2,e3]
   unfold txR qdS
   simp only []
   rw [if_pos (by decide)]
   simp
  have e2:txR (c :: t)=none:=by unfold txR;simp only [];rw [if_neg (by simpa using h2)]
  rw [if_neg (by simpa using h2),e2,Option.none_or]
  by_cases h3:c=91
  ·subst h3
   have e4:arrR (91 :: t)=none:=by cases t <;> rfl
   have e5:sgnR (91 :: t)=none:=rfl
   rw [if_pos (by decide),e4,e5]
   unfold stR cdS
   simp only []
   rw [if_pos (by decide)]
   simp
  have e3:stR (c :: t)=none:=by unfold stR;simp only [];rw [if_neg (by simpa using h3)]
  rw [if_neg (by simpa using h3),e3,Option.none_or]
  have ea:arrR (c :: t)=if c == 60 && t.head? == some 45 then some ⟨5,2,[60,45],0,[]⟩ else none:=by
   cases t with
   | nil=>simp [arrR]
   | cons d u=>simp [arrR]
  rw [ea]
  by_cases h4:(c == 60 && t.head? == some 45)=true
  ·rw [if_pos h4,if_pos h4];rfl
  rw [if_neg h4,if_neg h4,Option.none_or]
  rfl
theorem ix6_0 (x0 x1 x2 x3 x4 x5:Value) (w:World):(Instr.index 235 (.agg #[x0,x1,x2,x3,x4,x5]) (.int .i64 0)).run Tryz.prog w=.ok x0 w:=by kernel_rfl
theorem ix6_1 (x0 x1 x2 x3 x4 x5:Value) (w:World):(Instr.index 235 (.agg #[x0,x1,x2,x3,x4,x5]) (.int .i64 1)).run Tryz.prog w=.ok x1 w:=by kernel_rfl
theorem ix6_2 (x0 x1 x2 x3 x4 x5:Value) (w:World):(Instr.index 235 (.agg #[x0,x1,x2,x3,x4,x5]) (.int .i64 2)).run Tryz.prog w=.ok x2 w:=by kernel_rfl
theorem ix6_3 (x0 x1 x2 x3 x4 x5:Value) (w:World):(Instr.index 235 (.agg #[x0,x1,x2,x3,x4,x5]) (.int .i64 3)).run Tryz.prog w=.ok x3 w:=by kernel_rfl
theorem ix6_4 (x0 x1 x2 x3 x4 x5:Value) (w:World):(Instr.index 235 (.agg #[x0,x1,x2,x3,x4,x5]) (.int .i64 4)).run Tryz.prog w=.ok x4 w:=by kernel_rfl
theorem ix6_5 (x0 x1 x2 x3 x4 x5:Value) (w:World):(Instr.index 235 (.agg #[x0,x1,x2,x3,x4,x5]) (.int .i64 5)).run Tryz.prog w=.ok x5 w:=by kernel_rfl
/-- The readers, by number. -/
def rdN (l:List UInt8):Nat->Option Wr
 | 0=>endR l | 1=>nmR l | 2=>txR l | 3=>stR l | 4=>arrR l | _=>sgnR l
/-- How far the loop over the readers has come. -/
structure NxI (s:ByteArray) (K g:Nat) (w:World) (j:Nat) (wr:World):Prop where
 no:∀ m,m < j->rdN (s.data.toList.drop K) m=none
 bl:Below w.heap.size w wr
 rd:Rdr wr g s K
 rs:hrow wr w.heap.size wd0 82
theorem NxI.next {s:ByteArray} {K g j:Nat} {w wr x:World} (h:NxI s K g w j wr) (hn:rdN (s.data.toList.drop K) j=none) (hb:Below wr.heap.size wr x):NxI s K g w (j+1) x:=
 ⟨fun m hm=>(Nat.lt_or_ge m j).elim (h.no m) (fun h1=>(show m=j from Nat.le_antisymm (Nat.lt_succ_iff.1 hm) h1) ▸ hn),h.bl.trans (hb.mono h.bl.size),h.rd.below hb,h.rs.below hb⟩
/-- A word, and that there is one; or none. -/
def wdD (d:Wd):Array Value:=wdA d.kind d.at_ d.nx (tx d.tx) d.lv (clsW d.cl 0) (clsW d.cl 1) (clsW d.cl 2) (clsW d.cl 3)
def nxV:Option Wd->Value
 | some d=>.tuple #[.agg (wdD d),.bool true]
 | none=>.tuple #[.agg wd0,.bool false]
theorem rdO_nx (o:Option Wr) (k:Nat):rdO o k=nxV (o.map fun r=>r.at k):=by cases o <;> rfl
theorem next_any (s:ByteArray) (k:Nat) (w:World) (hs:s.size<=1000000) (hk:k<=s.size):
  Calls Tryz.prog 118 #[.string s,.int .i64 k] w fun e w'=>e=.returned (nxV (nextW s.data.toList k))/\Below w.heap.size w w':=by
 have hk0:¬ (k:Int) < 0:=by omega
 have hk1:¬ (s.size:Int) < k:=by omega
 have HSk:=Lib.hid (fun x=>skip_in s k x hs hk)
 obtain ⟨K,hK⟩:∃ K,K=k+skp false (s.data.toList.drop k):=⟨_,rfl⟩
 have hKs:K<=s.size:=by have:=skp_le (s.data.toList.drop k) false;rw [List.length_drop,ba_len] at this;omega
 have HNX:Hid (nxV (nextW s.data.toList k)=rdO (wordR (s.data.toList.drop K)) K):=by unfold Hid nextW;rw [rdO_nx,← hK]
 rw [HNX.out]
 have HKE:Hid ((k:Int)+skp false (s.data.toList.drop k)=K):=by unfold Hid;omega
 have HS:=Lib.hid hs
 have HKS:=Lib.hid hKs
 have HWA:=Lib.hid (word_alt (s.data.toList.drop K))
 clear hK hs hk hKs
 have i0:=ix6_0
 have i1:=ix6_1
 have i2:=ix6_2
 have i3:=ix6_3
 have i4:=ix6_4
 have i5:=ix6_5
 go_enter Tryz.func118,Tryz.ntmps118
 go_wp2_with fail
 have HB:=Lib.hid ((Below.refl w.heap.size w).alloc (Nat.le_refl _) (.cells #[.int .i64 0,.int .i64 0,.int .i64 0,.string ⟨#[]⟩,.int .i64 0,.int .u64 0,.int .u64 0,.int .u64 0,.int .u64 0] 82))
 have HR:=Lib.hid (show hrow (w.alloc (.cells #[.int .i64 0,.int .i64 0,.int .i64 0,.string ⟨#[]⟩,.int .i64 0,.int .u64 0,.int .u64 0,.int .u64 0,.int .u64 0] 82)) w.heap.size wd0 82 from hrow.new _ _ _)
 go_wp2_with fail
 refine (HSk.out _).mono ?_
 rintro e x ⟨rfl,hb⟩
 replace HR:=Lib.hid (HR.out.below hb)
 replace HB:=Lib.hid (HB.out.trans (hb.mono HB.out.size))
 clear hb HSk
 rw [HKE.out]
 go_wp2_with fail
 have HI:Hid (NxI s K x.heap.size w 0 (x.alloc (.cells #[.string s,.int .i64 K] 233))):=
  ⟨fun m hm=>absurd hm (by omega),HB.out.alloc HB.out.size _,hrow.new _ _ _,HR.out.below ((Below.refl _ _).alloc (Nat.le_refl _) _)⟩
 clear HR HB
 generalize x.heap.size=g at *
 go_loopw [40] (fun i wr=>∃ j:Nat,j<=6/\i=.int .i64 j/\Hid (NxI s K g w j wr)) (fun i _=>6 - (intOf i).toNat)
 case atStart=>exact ⟨0,by omega,by go_num,HI.out⟩
 case round=>
  clear HI
  obtain ⟨j,hj,rfl,HJ⟩:=hrel
  by_cases h0:j=0
  ·subst h0
   have HO:=Lib.hid (end_any s K g wr HJ.out.rd HS.out HKS.out)
   clear hj
   cases hq:endR (s.data.toList.drop K) with
   | none=>
    have HQ:=Lib.hid hq
    rw [hq] at HO
    unfold rdO wd0 wdA at HO
    clear hq
    go_wp2_with fail
    refine HO.out.mono ?_
    rintro e y ⟨rfl,hb⟩
    have HJ2:Hid (NxI s K g w 1 (y.alloc (.cells #[.int .i64 0,.int .i64 0,.int .i64 0,.string ⟨#[]⟩,.int .i64 0,.int .u64 0,.int .u64 0,.int .u64 0,.int .u64 0] 82))):=HJ.out.next HQ.out (hb.alloc hb.size _)
    clear hb HJ HO
    go_wp2_with fail
    go_roundw
    case rel=>exact ⟨1,by omega,by go_num,HJ2.out⟩
    case measure=>simp [intOf]
   | some r=>
    have HE:Hid (wordR (s.data.toList.drop K)=some r):=by unfold Hid;rw [HWA.out,hq,Option.some_or]
    rw [hq] at HO
    unfold rdO wdv wdA at HO
    clear hq
    go_wp2_with fail
    refine HO.out.mono ?_
    rintro e y ⟨rfl,hb⟩
    have HR:=Lib.hid (HJ.out.rs.below (hb.alloc hb.size (.cells #[.int .i64 r.kind,.int .i64 K,.int .i64 (K+r.n),.string (tx r.tx),.int .i64 r.lv,.int .u64 (clsW r.cl 0),.int .u64 (clsW r.cl 1),.int .u64 (clsW r.cl 2),.int .u64 (clsW r.cl 3)] 82)))
    have HB:=Lib.hid (HJ.out.bl.trans ((hb.alloc hb.size (.cells #[.int .i64 r.kind,.int .i64 K,.int .i64 (K+r.n),.string (tx r.tx),.int .i64 r.lv,.int .u64 (clsW r.cl 0),.int .u64 (clsW r.cl 1),.int .u64 (clsW r.cl 2),.int .u64 (clsW r.cl 3)] 82)).mono HJ.out.bl.size))
    have HW:=Lib.hid (hrow.new y #[.int .i64 r.kind,.int .i64 K,.int .i64 (K+r.n),.string (tx r.tx),.int .i64 r.lv,.int .u64 (clsW r.cl 0),.int .u64 (clsW r.cl 1),.int .u64 (clsW r.cl 2),.int .u64 (clsW r.cl 3)] 82)
    clear hb HJ HO
    go_wp2_with (first
     | (with_reducible refine load_word rfl (.tmp 9) rfl _ rfl _ _ _ _ _ _ _ _ _ HW.out ?_)
     | (with_reducible refine store_word rfl (.tmp 4) (.tmp 49) rfl w.heap.size _ _ _ _ _ _ _ _ _ rfl rfl HR.out ?_))
    refine bodyPost_ret (results_word rfl _ _ w.heap.size _ _ rfl rfl HR.out ?_) rfl ?_
    next=>rfl
    next=>first | exact ⟨rfl,below_setRow HB.out (Nat.le_refl _) _⟩ | exact ⟨by rw [HE.out];rfl,below_setRow HB.out (Nat.le_refl _) _⟩
  by_cases h1:j=1
  ·subst h1
   have HO:=Lib.hid (name_any s K g wr HJ.out.rd HS.out HKS.out)
   clear hj
   cases hq:nmR (s.data.toList.drop K) with
   | none=>
    have HQ:=Lib.hid hq
    rw [hq] at HO
    unfold rdO wd0 wdA at HO
    clear hq
    go_wp2_with fail
    refine HO.out.mono ?_
    rintro e y ⟨rfl,hb⟩
    have HJ2:Hid (NxI s K g w 2 (y.alloc (.cells #[.int .i64 0,.int .i64 0,.int .i64 0,.string ⟨#[]⟩,.int .i64 0,.int .u64 0,.int .u64 0,.int .u64 0,.int .u64 0] 82))):=HJ.out.next HQ.out (hb.alloc hb.size _)
    clear hb HJ HO
    go_wp2_with fail
    go_roundw
    case rel=>exact ⟨2,by omega,by go_num,HJ2.out⟩
    case measure=>simp [intOf]
   | some r=>
    have HE:Hid (wordR (s.data.toList.drop K)=some r):=by unfold Hid;rw [HWA.out,show endR _=none from HJ.out.no 0 (by omega),Option.none_or,hq,Option.some_or]
    rw [hq] at HO
    unfold rdO wdv wdA at HO
    clear hq
    go_wp2_with fail
    refine HO.out.mono ?_
    rintro e y ⟨rfl,hb⟩
    have HR:=Lib.hid (HJ.out.rs.below (hb.alloc hb.size (.cells #[.int .i64 r.kind,.int .i64 K,.int .i64 (K+r.n),.string (tx r.tx),.int .i64 r.lv,.int .u64 (clsW r.cl 0),.int .u64 (clsW r.cl 1),.int .u64 (clsW r.cl 2),.int .u64 (clsW r.cl 3)] 82)))
    have HB:=Lib.hid (HJ.out.bl.trans ((hb.alloc hb.size (.cells #[.int .i64 r.kind,.int .i64 K,.int .i64 (K+r.n),.string (tx r.tx),.int .i64 r.lv,.int .u64 (clsW r.cl 0),.int .u64 (clsW r.cl 1),.int .u64 (clsW r.cl 2),.int .u64 (clsW r.cl 3)] 82)).mono HJ.out.bl.size))
    have HW:=Lib.hid (hrow.new y #[.int .i64 r.kind,.int .i64 K,.int .i64 (K+r.n),.string (tx r.tx),.int .i64 r.lv,.int .u64 (clsW r.cl 0),.int .u64 (clsW r.cl 1),.int .u64 (clsW r.cl 2),.int .u64 (clsW r.cl 3)] 82)
    clear hb HJ HO
    go_wp2_with (first
     | (with_reducible refine load_word rfl (.tmp 9) rfl _ rfl _ _ _ _ _ _ _ _ _ HW.out ?_)
     | (with_reducible refine store_word rfl (.tmp 4) (.tmp 49) rfl w.heap.size _ _ _ _ _ _ _ _ _ rfl rfl HR.out ?_))
    refine bodyPost_ret (results_word rfl _ _ w.heap.size _ _ rfl rfl HR.out ?_) rfl ?_
    next=>rfl
    next=>first | exact ⟨rfl,below_setRow HB.out (Nat.le_refl _) _⟩ | exact ⟨by rw [HE.out];rfl,below_setRow HB.out (Nat.le_refl _) _⟩
  by_cases h2:j=2
  ·subst h2
   have HO:=Lib.hid (text_any s K g wr HJ.out.rd HS.out HKS.out)
   clear hj
   cases hq:txR (s.data.toList.drop K) with
   | none=>
    have HQ:=Lib.hid hq
    rw [hq] at HO
    unfold rdO wd0 wdA at HO
    clear hq
    go_wp2_with fail
    refine HO.out.mono ?_
    rintro e y ⟨rfl,hb⟩
    have HJ2:Hid (NxI s K g w 3 (y.alloc (.cells #[.int .i64 0,.int .i64 0,.int .i64 0,.string ⟨#[]⟩,.int .i64 0,.int .u64 0,.int .u64 0,.int .u64 0,.int .u64 0] 82))):=HJ.out.next HQ.out (hb.alloc hb.size _)
    clear hb HJ HO
    go_wp2_with fail
    go_roundw
    case rel=>exact ⟨3,by omega,by go_num,HJ2.out⟩
    case measure=>simp [intOf]
   | some r=>
    have HE:Hid (wordR (s.data.toList.drop K)=some r):=by unfold Hid;rw [HWA.out,show endR _=none from HJ.out.no 0 (by omega),Option.none_or,show nmR _=none from HJ.out.no 1 (by omega),Option.none_or,hq,Option.some_or]
    rw [hq] at HO
    unfold rdO wdv wdA at HO
    clear hq
    go_wp2_with fail
    refine HO.out.mono ?_
    rintro e y ⟨rfl,hb⟩
    have HR:=Lib.hid (HJ.out.rs.below (hb.alloc hb.size (.cells #[.int .i64 r.kind,.int .i64 K,.int .i64 (K+r.n),.string (tx r.tx),.int .i64 r.lv,.int .u64 (clsW r.cl 0),.int .u64 (clsW r.cl 1),.int .u64 (clsW r.cl 2),.int .u64 (clsW r.cl 3)] 82)))
    have HB:=Lib.hid (HJ.out.bl.trans ((hb.alloc hb.size (.cells #[.int .i64 r.kind,.int .i64 K,.int .i64 (K+r.n),.string (tx r.tx),.int .i64 r.lv,.int .u64 (clsW r.cl 0),.int .u64 (clsW r.cl 1),.int .u64 (clsW r.cl 2),.int .u64 (clsW r.cl 3)] 82)).mono HJ.out.bl.size))
    have HW:=Lib.hid (hrow.new y #[.int .i64 r.kind,.int .i64 K,.int .i64 (K+r.n),.string (tx r.tx),.int .i64 r.lv,.int .u64 (clsW r.cl 0),.int .u64 (clsW r.cl 1),.int .u64 (clsW r.cl 2),.int .u64 (clsW r.cl 3)] 82)
    clear hb HJ HO
    go_wp2_with (first
     | (with_reducible refine load_word rfl (.tmp 9) rfl _ rfl _ _ _ _ _ _ _ _ _ HW.out ?_)
     | (with_reducible refine store_word rfl (.tmp 4) (.tmp 49) rfl w.heap.size _ _ _ _ _ _ _ _ _ rfl rfl HR.out ?_))
    refine bodyPost_ret (results_word rfl _ _ w.heap.size _ _ rfl rfl HR.out ?_) rfl ?_
    next=>rfl
    next=>first | exact ⟨rfl,below_setRow HB.out (Nat.le_refl _) _⟩ | exact ⟨by rw [HE.out];rfl,below_setRow HB.out (Nat.le_refl _) _⟩
  by_cases h3:j=3
  ·subst h3
   have HO:=Lib.hid (set_any s K g wr HJ.out.rd HS.out HKS.out)
   clear hj
   cases hq:stR (s.data.toList.drop K) with
   | none=>
    have HQ:=Lib.hid hq
    rw [hq] at HO
    unfold rdO wd0 wdA at HO
    clear hq
    go_wp2_with fail
    refine HO.out.mono ?_
    rintro e y ⟨rfl,hb⟩
    have HJ2:Hid (NxI s K g w 4 (y.alloc (.cells #[.int .i64 0,.int .i64 0,.int .i64 0,.string ⟨#[]⟩,.int .i64 0,.int .u64 0,.int .u64 0,.int .u64 0,.int .u64 0] 82))):=HJ.out.next HQ.out (hb.alloc hb.size _)
    clear hb HJ HO
    go_wp2_with fail
    go_roundw
    case rel=>exact ⟨4,by omega,by go_num,HJ2.out⟩
    case measure=>simp [intOf]
   | some r=>
    have HE:Hid (wordR (s.data.toList.drop K)=some r):=by unfold Hid;rw [HWA.out,show endR _=none from HJ.out.no 0 (by omega),Option.none_or,show nmR _=none from HJ.out.no 1 (by omega),Option.none_or,show txR _=none from HJ.out.no 2 (by omega),Option.none_or,hq,Option.some_or]
    rw [hq] at HO
    unfold rdO wdv wdA at HO
    clear hq
    go_wp2_with fail
    refine HO.out.mono ?_
    rintro e y ⟨rfl,hb⟩
    have HR:=Lib.hid (HJ.out.rs.below (hb.alloc hb.size (.cells #[.int .i64 r.kind,.int .i64 K,.int .i64 (K+r.n),.string (tx r.tx),.int .i64 r.lv,.int .u64 (clsW r.cl 0),.int .u64 (clsW r.cl 1),.int .u64 (clsW r.cl 2),.int .u64 (clsW r.cl 3)] 82)))
    have HB:=Lib.hid (HJ.out.bl.trans ((hb.alloc hb.size (.cells #[.int .i64 r.kind,.int .i64 K,.int .i64 (K+r.n),.string (tx r.tx),.int .i64 r.lv,.int .u64 (clsW r.cl 0),.int .u64 (clsW r.cl 1),.int .u64 (clsW r.cl 2),.int .u64 (clsW r.cl 3)] 82)).mono HJ.out.bl.size))
    have HW:=Lib.hid (hrow.new y #[.int .i64 r.kind,.int .i64 K,.int .i64 (K+r.n),.string (tx r.tx),.int .i64 r.lv,.int .u64 (clsW r.cl 0),.int .u64 (clsW r.cl 1),.int .u64 (clsW r.cl 2),.int .u64 (clsW r.cl 3)] 82)
    clear hb HJ HO
    go_wp2_with (first
     | (with_reducible refine load_word rfl (.tmp 9) rfl _ rfl _ _ _ _ _ _ _ _ _ HW.out ?_)
     | (with_reducible refine store_word rfl (.tmp 4) (.tmp 49) rfl w.heap.size _ _ _ _ _ _ _ _ _ rfl rfl HR.out ?_))
    refine bodyPost_ret (results_word rfl _ _ w.heap.size _ _ rfl rfl HR.out ?_) rfl ?_
    next=>rfl
    next=>first | exact ⟨rfl,below_setRow HB.out (Nat.le_refl _) _⟩ | exact ⟨by rw [HE.out];rfl,below_setRow HB.out (Nat.le_refl _) _⟩
  by_cases h4:j=4
  ·subst h4
   have HO:=Lib.hid (arrow_any s K g wr HJ.out.rd HS.out HKS.out)
   clear hj
   cases hq:arrR (s.data.toList.drop K) with
   | none=>
    have HQ:=Lib.hid hq
    rw [hq] at HO
    unfold rdO wd0 wdA at HO
    clear hq
    go_wp2_with fail
    refine HO.out.mono ?_
    rintro e y ⟨rfl,hb⟩
    have HJ2:Hid (NxI s K g w 5 (y.alloc (.cells #[.int .i64 0,.int .i64 0,.int .i64 0,.string ⟨#[]⟩,.int .i64 0,.int .u64 0,.int .u64 0,.int .u64 0,.int .u64 0] 82))):=HJ.out.next HQ.out (hb.alloc hb.size _)
    clear hb HJ HO
    go_wp2_with fail
    go_roundw
    case rel=>exact ⟨5,by omega,by go_num,HJ2.out⟩
    case measure=>simp [intOf]
   | some r=>
    have HE:Hid (wordR (s.data.toList.drop K)=some r):=by unfold Hid;rw [HWA.out,show endR _=none from HJ.out.no 0 (by omega),Option.none_or,show nmR _=none from HJ.out.no 1 (by omega),Option.none_or,show txR _=none from HJ.out.no 2 (by omega),Option.none_or,show stR _=none from HJ.out.no 3 (by omega),Option.none_or,hq,Option.some_or]
    rw [hq] at HO
    unfold rdO wdv wdA at HO
    clear hq
    go_wp2_with fail
    refine HO.out.mono ?_
    rintro e y ⟨rfl,hb⟩
    have HR:=Lib.hid (HJ.out.rs.below (hb.alloc hb.size (.cells #[.int .i64 r.kind,.int .i64 K,.int .i64 (K+r.n),.string (tx r.tx),.int .i64 r.lv,.int .u64 (clsW r.cl 0),.int .u64 (clsW r.cl 1),.int .u64 (clsW r.cl 2),.int .u64 (clsW r.cl 3)] 82)))
    have HB:=Lib.hid (HJ.out.bl.trans ((hb.alloc hb.size (.cells #[.int .i64 r.kind,.int .i64 K,.int .i64 (K+r.n),.string (tx r.tx),.int .i64 r.lv,.int .u64 (clsW r.cl 0),.int .u64 (clsW r.cl 1),.int .u64 (clsW r.cl 2),.int .u64 (clsW r.cl 3)] 82)).mono HJ.out.bl.size))
    have HW:=Lib.hid (hrow.new y #[.int .i64 r.kind,.int .i64 K,.int .i64 (K+r.n),.string (tx r.tx),.int .i64 r.lv,.int .u64 (clsW r.cl 0),.int .u64 (clsW r.cl 1),.int .u64 (clsW r.cl 2),.int .u64 (clsW r.cl 3)] 82)
    clear hb HJ HO
    go_wp2_with (first
     | (with_reducible refine load_word rfl (.tmp 9) rfl _ rfl _ _ _ _ _ _ _ _ _ HW.out ?_)
     | (with_reducible refine store_word rfl (.tmp 4) (.tmp 49) rfl w.heap.size _ _ _ _ _ _ _ _ _ rfl rfl HR.out ?_))
    refine bodyPost_ret (results_word rfl _ _ w.heap.size _ _ rfl rfl HR.out ?_) rfl ?_
    next=>rfl
    next=>first | exact ⟨rfl,below_setRow HB.out (Nat.le_refl _) _⟩ | exact ⟨by rw [HE.out];rfl,below_setRow HB.out (Nat.le_refl _) _⟩
  by_cases h5:j=5
  ·subst h5
   have hlt:K < s.size:=by
    rcases Nat.lt_or_ge K s.size with h | h
    ·exact h
    ·have:=HJ.out.no 0 (by omega)
     rw [List.drop_eq_nil_of_le (by rw [ba_len];exact h)] at this;cases this
   have HO:=Lib.hid (sign_any s K g wr HJ.out.rd HS.out hlt)
   clear hlt
   clear hj
   cases hq:sgnR (s.data.toList.drop K) with
   | none=>
    have HQ:=Lib.hid hq
    rw [hq] at HO
    unfold rdO wd0 wdA at HO
    clear hq
    go_wp2_with fail
    refine HO.out.mono ?_
    rintro e y ⟨rfl,hb⟩
    have HJ2:Hid (NxI s K g w 6 (y.alloc (.cells #[.int .i64 0,.int .i64 0,.int .i64 0,.string ⟨#[]⟩,.int .i64 0,.int .u64 0,.int .u64 0,.int .u64 0,.int .u64 0] 82))):=HJ.out.next HQ.out (hb.alloc hb.size _)
    clear hb HJ HO
    go_wp2_with fail
    go_roundw
    case rel=>exact ⟨6,by omega,by go_num,HJ2.out⟩
    case measure=>simp [intOf]
   | some r=>
    have HE:Hid (wordR (s.data.toList.drop K)=some r):=by unfold Hid;rw [HWA.out,show endR _=none from HJ.out.no 0 (by omega),Option.none_or,show nmR _=none from HJ.out.no 1 (by omega),Option.none_or,show txR _=none from HJ.out.no 2 (by omega),Option.none_or,show stR _=none from HJ.out.no 3 (by omega),Option.none_or,show arrR _=none from HJ.out.no 4 (by omega),Option.none_or,hq]
    rw [hq] at HO
    unfold rdO wdv wdA at HO
    clear hq
    go_wp2_with fail
    refine HO.out.mono ?_
    rintro e y ⟨rfl,hb⟩
    have HR:=Lib.hid (HJ.out.rs.below (hb.alloc hb.size (.cells #[.int .i64 r.kind,.int .i64 K,.int .i64 (K+r.n),.string (tx r.tx),.int .i64 r.lv,.int .u64 (clsW r.cl 0),.int .u64 (clsW r.cl 1),.int .u64 (clsW r.cl 2),.int .u64 (clsW r.cl 3)] 82)))
    have HB:=Lib.hid (HJ.out.bl.trans ((hb.alloc hb.size (.cells #[.int .i64 r.kind,.int .i64 K,.int .i64 (K+r.n),.string (tx r.tx),.int .i64 r.lv,.int .u64 (clsW r.cl 0),.int .u64 (clsW r.cl 1),.int .u64 (clsW r.cl 2),.int .u64 (clsW r.cl 3)] 82)).mono HJ.out.bl.size))
    have HW:=Lib.hid (hrow.new y #[.int .i64 r.kind,.int .i64 K,.int .i64 (K+r.n),.string (tx r.tx),.int .i64 r.lv,.int .u64 (clsW r.cl 0),.int .u64 (clsW r.cl 1),.int .u64 (clsW r.cl 2),.int .u64 (clsW r.cl 3)] 82)
    clear hb HJ HO
    go_wp2_with (first
     | (with_reducible refine load_word rfl (.tmp 9) rfl _ rfl _ _ _ _ _ _ _ _ _ HW.out ?_)
     | (with_reducible refine store_word rfl (.tmp 4) (.tmp 49) rfl w.heap.size _ _ _ _ _ _ _ _ _ rfl rfl HR.out ?_))
    refine bodyPost_ret (results_word rfl _ _ w.heap.size _ _ rfl rfl HR.out ?_) rfl ?_
    next=>rfl
    next=>first | exact ⟨rfl,below_setRow HB.out (Nat.le_refl _) _⟩ | exact ⟨by rw [HE.out];rfl,below_setRow HB.out (Nat.le_refl _) _⟩
  ·obtain rfl:j=6:=by omega
   have HE:Hid (wordR (s.data.toList.drop K)=none):=by unfold Hid;rw [HWA.out,show endR _=none from HJ.out.no 0 (by omega),Option.none_or,show nmR _=none from HJ.out.no 1 (by omega),Option.none_or,show txR _=none from HJ.out.no 2 (by omega),Option.none_or,show stR _=none from HJ.out.no 3 (by omega),Option.none_or,show arrR _=none from HJ.out.no 4 (by omega),Option.none_or,show sgnR _=none from HJ.out.no 5 (by omega)]
   have HR:=Lib.hid HJ.out.rs
   have HB:=Lib.hid HJ.out.bl
   clear hj HJ
   go_wp2_with (with_reducible refine store_word rfl (.tmp 4) (.tmp 51) rfl w.heap.size _ _ _ _ _ _ _ _ _ rfl rfl HR.out ?_)
   refine bodyPost_ret (results_word rfl _ _ w.heap.size _ _ rfl rfl HR.out ?_) rfl ?_
   next=>rfl
   next=>first | exact ⟨rfl,below_setRow HB.out (Nat.le_refl _) _⟩ | exact ⟨by rw [HE.out];rfl,below_setRow HB.out (Nat.le_refl _) _⟩
end Go.Proofs.YtgjhepblpdnkcaaGreatDoor
namespace Go.Proofs.YtgjhepblpdnkcaaGreatDoor

/-- The place where there is no word, as it is yielded. -/
def badW (e:Nat):Wd:=⟨0,e,0,[],0,[]⟩
/-- What is yielded from a place on. -/
def yieldsF (l:List UInt8):Nat->Nat->List (Wd×Bool)
 | 0,_=>[]
 | f+1,k=>match nextW l k with
  | none=>[(badW (k+skp false (l.drop k)),false)]
  | some w=>if w.kind=1 then [(w,true)] else (w,true) :: yieldsF l f w.nx
theorem yields_words (l:List UInt8):∀ (f k:Nat),yieldsF l f k=(wordsF l f k).1.map (·,true) ++ (match (wordsF l f k).2 with | some e=>[(badW e,false)] | none=>[])
 | 0,_=>rfl
 | f+1,k=>by
  unfold yieldsF wordsF
  cases nextW l k with
  | none=>rfl
  | some w=>
   simp only []
   split
   ·rfl
   ·rw [yields_words l f w.nx];rfl
/-- The step: what is yielded from a place on, and what then. -/
theorem yields_none {l:List UInt8} {f k:Nat} (hf:l.length < f+k) (hk:k<=l.length) (h:nextW l k=none):yieldsF l f k=[(badW (k+skp false (l.drop k)),false)]:=by
 cases f with
 | zero=>omega
 | succ f=>unfold yieldsF;rw [h]
theorem yields_end {l:List UInt8} {f k:Nat} {w:Wd} (hf:l.length < f+k) (hk:k<=l.length) (h:nextW l k=some w) (hc:w.kind=1):yieldsF l f k=[(w,true)]:=by
 cases f with
 | zero=>omega
 | succ f=>unfold yieldsF;rw [h];simp only [];rw [if_pos hc]
theorem yields_more {l:List UInt8} {f k:Nat} {w:Wd} (hf:l.length < f+k) (hk:k<=l.length) (h:nextW l k=some w) (hc:w.kind ≠ 1):
  ∃ g,yieldsF l f k=(w,true) :: yieldsF l g w.nx/\k < w.nx/\w.nx<=l.length/\l.length < g+w.nx:=by
 obtain ⟨h1,h2,h3,h4,h5,h6,h7,h8⟩:=nextW_some h hk
 have h9:w.at_ ≠ w.nx:=fun e=>hc (h7.1 e.symm)
 cases f with
 | zero=>omega
 | succ f=>
  refine ⟨f,?_,by omega,h4,by omega⟩
  conv=>lhs;unfold yieldsF
  rw [h];simp only [];rw [if_neg hc]
/-- All that a text yields. -/
def yieldsOf (l:List UInt8):List (Wd×Bool):=yieldsF l (l.length+1) 0
end Go.Proofs.YtgjhepblpdnkcaaGreatDoor
namespace Go.Proofs.YtgjhepblpdnkcaaGreatDoor
open Go.RowKit Go.Shelf
attribute [local go_sem] Oper.semAt_some
set_option maxRecDepth 100000
set_option maxHeartbeats 1000000

/-- The variable in block b holds nothing, or a row that was laid since the loop began. -/
def BoxOk (b n₀:Nat) (W:World):Prop:=∃ ao n c,W.cell? ⟨b,0,none⟩=some (.slice ao n c)/\∀ a,ao=some a->n₀<=a.block/\a.block < W.heap.size
/-- Is k the block of the row that the variable holds? -/
def RowAt (b:Nat) (W:World) (k:Nat):Prop:=∃ (a:Addr) (n c:Nat),W.cell? ⟨b,0,none⟩=some (.slice (some a) n c)/\a.block=k
/-- What a round keeps: all that was laid since the loop began, and the blocks of H, but the row that grows. -/
def KpW (b n₀:Nat) (H:Nat->Prop) (W W':World):Prop:=
 BoxOk b n₀ W->BoxOk b n₀ W'/\W.heap.size<=W'.heap.size/\(∀ k,RowAt b W' k->RowAt b W k∨W.heap.size<=k)/\
  ∀ (k:Nat) (cs:Array Value) (t:TypeId) (fr:Nat×Nat),W.heap[k]?=some (Obj.cells cs t fr)->(H k∨n₀<=k)->¬ RowAt b W k->W'.heap[k]?=W.heap[k]?
theorem kpW_t {b n₀:Nat} {H:Nat->Prop} {A B C:World} (h:KpW b n₀ H A B) (k:KpW b n₀ H B C):KpW b n₀ H A C:=fun hA=>by
 obtain ⟨h1,h2,h3,h4⟩:=h hA
 obtain ⟨k1,k2,k3,k4⟩:=k h1
 refine ⟨k1,Nat.le_trans h2 k2,fun j hj=>?_,fun j cs t fr hj hH hn=>?_⟩
 ·rcases k3 j hj with h | h
  ·exact h3 j h
  ·exact .inr (Nat.le_trans h2 h)
 ·have e1:=h4 j cs t fr hj hH hn
  have hlt:j < A.heap.size:=(Array.getElem?_eq_some_iff.1 hj).1
  rw [k4 j cs t fr (e1.trans hj) hH (fun hr=>by
   rcases h3 j hr with h | h
   ·exact hn h
   ·omega),e1]
theorem cell_cells {W:World} {k o:Nat} {v:Value} (h:W.cell? ⟨k,o,none⟩=some v):∃ (cs:Array Value) (t:TypeId) (fr:Nat×Nat),W.heap[k]?=some (Obj.cells cs t fr):=by
 unfold World.cell? at h
 cases hk:W.heap[k]? with
 | none=>simp [hk] at h
 | some ob=>cases ob <;> simp_all
theorem kpW_b {b n₀:Nat} {H:Nat->Prop} (W:World) (l:Nat) (o o':Obj) (h:W.heap[l]?=some o) (hc:o.isCells=false):KpW b n₀ H W (W.putObj l o'):=fun hb=>by
 have hg:=grownBy_putObj' W l o'
 have hk:∀ (k:Nat) (cs:Array Value) (t:TypeId) (fr:Nat×Nat),W.heap[k]?=some (Obj.cells cs t fr)->(W.putObj l o').heap[k]?=W.heap[k]?:=fun k cs t fr hk=>
  hg.block k (Array.getElem?_eq_some_iff.1 hk).1 (fun e=>by cases e;rw [hk] at h;cases h;cases hc)
 obtain ⟨ao,n,c,h1,h2⟩:=hb
 obtain ⟨cs,t,fr,hh⟩:=cell_cells h1
 have e:=hk _ _ _ _ hh
 have ec:(W.putObj l o').cell? ⟨b,0,none⟩=W.cell? ⟨b,0,none⟩:=by unfold World.cell?;simp only [e]
 refine ⟨⟨ao,n,c,ec.trans h1,fun a ha=>⟨(h2 a ha).1,Nat.lt_of_lt_of_le (h2 a ha).2 hg.size⟩⟩,hg.size,fun k ⟨a,n,c,hr,hk⟩=>.inl ⟨a,n,c,ec.symm.trans hr,hk⟩,fun k cs t fr hk' _ _=>hk k cs t fr hk'⟩
end Go.Proofs.YtgjhepblpdnkcaaGreatDoor
