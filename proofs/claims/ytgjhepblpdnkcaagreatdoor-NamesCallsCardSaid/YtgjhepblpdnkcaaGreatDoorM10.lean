/- Walks and plain laws: FW8 FW9 Ia Ib Ic. -/
import Derived.Test.YtgjhepblpdnkcaaGreatDoorM08
import Derived.Test.YtgjhepblpdnkcaaGreatDoorM09
import Derived.BigRegion
import Derived.Test.YtgjhepblpdnkcaaGreatDoorM06
namespace Go.Proofs.YtgjhepblpdnkcaaGreatDoor
open Go.RowKit
set_option maxRecDepth 100000
set_option maxHeartbeats 4000000

/-- The sizes, as they lie. -/
def WhoS (G:Gr) (p:Option Addr) (n:Nat) (w':World):Prop:=n=G.nodes.length/\∃ (a1:Nat) (S:Nat->Nat) (T:List (Nat×Nat)),p=some ⟨a1,0,none⟩/\hrow w' a1 (rngs n S) 3/\tabs G.nodes G.nodes.length=some T/\∀ j,j < n->S j=(T.getD j (0,0)).1
/-- What 'whole' tells. -/
def WholeOut (w:World) (G:Gr) (b:Bool) (e:Ending) (w':World):Prop:=∃ (p q:Option Addr) (n:Nat),e=.returned (.tuple #[.agg #[.slice p n n,.slice q n n],.bool b])/\Below w.heap.size w w'/\(b=true->WhoS G p n w')

theorem rightP_siz {G:Gr} (h:¬ (1<=G.rules.length/\G.rules.length<=32/\G.nodes.length<=2048)):rightP G=false:=by
 have h0:sizB G=false:=by
  unfold sizB
  rw [Bool.eq_false_iff]
  intro h'
  simp only [Bool.and_eq_true,decide_eq_true_eq] at h'
  omega
 unfold rightP
 rw [h0];simp
theorem rightP_nod {G:Gr} (h:G.nodes.all (nodeB G.rules.length)=false):rightP G=false:=by
 unfold rightP
 rw [h];simp
theorem rightP_tab {G:Gr} (h:tabs G.nodes G.nodes.length=none):rightP G=false:=by
 unfold rightP
 rw [h];simp
theorem rightP_run {G:Gr} {T:List (Nat×Nat)} (h1:1<=G.rules.length/\G.rules.length<=32/\G.nodes.length<=2048) (h2:G.nodes.all (nodeB G.rules.length)=true) (h3:tabs G.nodes G.nodes.length=some T):
  rightP G=(rulPf G T G.rules 0 0 == some G.nodes.length):=by
 unfold rightP sizB
 rw [h2,h3]
 simp [h1.1,h1.2.1,h1.2.2]

theorem whole_small (w:World) (ro:Option Addr) (rn rc:Nat) (no:Option Addr) (nn nc:Nat) (G:Gr) (hr:rn<=rc/\rc<=9223372036854775807) (hn:nn<=nc/\nc<=9223372036854775807) (e1:G.rules.length=rn) (e2:G.nodes.length=nn)
  (hsz:¬ (1<=rn/\rn<=32/\nn<=2048)):
  Calls Tryz.prog 55 #[grv ro rn rc no nn nc] w (WholeOut w G (rightP G)):=by
 obtain ⟨b1,b2⟩:=hr
 obtain ⟨b3,b4⟩:=hn
 rw [rightP_siz (by rw [e1,e2];exact hsz)]
 have HB:=Lib.hid (fun x:Value=>al2 (Below.refl w.heap.size w) (.cells #[.slice ro rn rc,.slice no nn nc] 25) (.cells #[x,x] 104))
 unfold grv
 clear e1 e2
 by_cases h1:rn=0
 ·subst h1
  clear hsz
  go_enter Tryz.func55,Tryz.ntmps55
  go_wp2_with fail
  exact bodyPost_ret (v:=.tuple #[.agg #[.slice none 0 0,.slice none 0 0],.bool false]) (by simp [results,Tryz.results55,go_sem]) rfl ⟨_,_,_,rfl,HB.out _,nofun⟩
 ·have t1:((rn:Int) == 0)=false:=by simp;omega
  by_cases h2:rn<=32
  ·have h2':(rn:Int)<=32:=by omega
   have h3:(2048:Int) < nn:=by omega
   clear hsz
   go_enter Tryz.func55,Tryz.ntmps55
   go_wp2_with fail
   exact bodyPost_ret (v:=.tuple #[.agg #[.slice none 0 0,.slice none 0 0],.bool false]) (by simp [results,Tryz.results55,go_sem]) rfl ⟨_,_,_,rfl,HB.out _,nofun⟩
  ·have h2':(32:Int) < rn:=by omega
   clear hsz
   go_enter Tryz.func55,Tryz.ntmps55
   go_wp2_with fail
   exact bodyPost_ret (v:=.tuple #[.agg #[.slice none 0 0,.slice none 0 0],.bool false]) (by simp [results,Tryz.results55,go_sem]) rfl ⟨_,_,_,rfl,HB.out _,nofun⟩

theorem same2 {w:World} {g:Nat} {a b:Value} {t:TypeId} (x y:Value) (h:hrow w g #[a,b] t):hrow ((w.setCell ⟨g,0,none⟩ x).setCell ⟨g,1,none⟩ y) g #[x,y] t:=by
 have h1:hrow (w.setCell ⟨g,0,none⟩ x) g #[x,b] t:=heap_setCell_same _ _ _ _ _ _ h.h
 exact heap_setCell_same _ _ _ _ _ _ h1.h
theorem other2 {w:World} {g k:Nat} {cs:Array Value} {t:TypeId} (x y:Value) (h:hrow w k cs t) (hne:k ≠ g):hrow ((w.setCell ⟨g,0,none⟩ x).setCell ⟨g,1,none⟩ y) k cs t:=
 (h.fr (Fr.setCell w ⟨g,0,none⟩ x) hne).fr (Fr.setCell _ ⟨g,1,none⟩ y) hne
theorem ne_row {w:World} {g k:Nat} {cs cs':Array Value} {t t':TypeId} (h:hrow w k cs t) (h':hrow w g cs' t') (ht:t ≠ t'):k ≠ g:=by
 rintro rfl
 have:=h.h.symm.trans h'.h
 simp only [Option.some.injEq,Obj.cells.injEq] at this
 exact ht this.2.1
theorem rulP_cons {G:Gr} {T:List (Nat×Nat)} {l:List Ru} {i n:Nat} (h:i < l.length):rulPf G T (l.drop i) i n=if nameB (l[i]'h).name=true/\ruleIx G.rules (l[i]'h).name=i/\(l[i]'h).body=n/\n < G.nodes.length/\(T.getD n (0,0)).2<=16 then rulPf G T (l.drop (i+1)) (i+1) (n+(T.getD n (0,0)).1) else none:=by
 rw [List.drop_eq_getElem_cons h]
 rfl

theorem bad_of {C:Prop} [Decidable C] {x y:Option Nat} {z:Nat} {b:Bool} (h:(if C then x else none)=y) (hC:¬ C) (hp:b=(y == some z)):b=false:=by
 rw [if_neg hC] at h
 rw [hp,← h];rfl

theorem whole_any (w:World) (ro:Option Addr) (rn rc:Nat) (no:Option Addr) (nn nc:Nat) (NK:List (Nd×(Option Addr×Nat))) (G:Gr) (hG:GrW w ro rn rc no nn nc NK G):
  Calls Tryz.prog 55 #[grv ro rn rc no nn nc] w (WholeOut w G (rightP G)):=by
 have hrl:=hG.rul.n_eq ruc_len (by decide)
 have hnl:G.nodes.length=nn:=by rw [← hG.eq,List.length_map];exact hG.nod.sv.n_eq ndc_len (by decide)
 by_cases hsz:¬ (1<=rn/\rn<=32/\nn<=2048)
 ·exact whole_small w ro rn rc no nn nc G hG.rul.bound hG.nod.sv.bound hrl hnl hsz
 have hsz':1<=rn/\rn<=32/\nn<=2048:=by omega
 obtain ⟨h1,h2,h3⟩:=hsz'
 obtain ⟨b1,b2⟩:=hG.rul.bound
 obtain ⟨b3,b4⟩:=hG.nod.sv.bound
 have t1:((rn:Int) == 0)=false:=by simp;omega
 have h2':(rn:Int)<=32:=by omega
 have h3':(nn:Int)<=2048:=by omega
 have HG:=Lib.hid hG
 have HRl:=Lib.hid hrl
 have HNl:=Lib.hid hnl
 have HB:=Lib.hid (al2 (Below.refl w.heap.size w) (.cells #[.slice ro rn rc,.slice no nn nc] 25) (.cells #[.slice none 0 0,.slice none 0 0] 104))
 have HR0:Hid (hrow ((w.alloc (.cells #[.slice ro rn rc,.slice no nn nc] 25)).alloc (.cells #[.slice none 0 0,.slice none 0 0] 104)) w.heap.size #[.slice ro rn rc,.slice no nn nc] 25):=
  (hrow.new w #[.slice ro rn rc,.slice no nn nc] 25).below ((Below.refl _ _).alloc (Nat.le_refl _) _)
 have HR1:Hid (hrow ((w.alloc (.cells #[.slice ro rn rc,.slice no nn nc] 25)).alloc (.cells #[.slice none 0 0,.slice none 0 0] 104)) (w.heap.size+1) #[.slice none 0 0,.slice none 0 0] 104):=by
  have:=hrow.new (w.alloc (.cells #[.slice ro rn rc,.slice no nn nc] 25)) #[.slice none 0 0,.slice none 0 0] 104
  rw [World.size_alloc] at this
  exact this
 unfold grv
 clear hG hrl hnl hsz
 go_enter Tryz.func55,Tryz.ntmps55
 go_wp2_with fail
 have HGe:=Lib.hid (show (NK.map (·.1)).all (nodeB rn)=G.nodes.all (nodeB G.rules.length) by rw [HG.out.eq,HRl.out])
 revert HB HR0 HR1
 generalize (w.alloc (.cells #[.slice ro rn rc,.slice no nn nc] 25)).alloc (.cells #[.slice none 0 0,.slice none 0 0] 104)=W0
 intro HB HR0 HR1
 refine (contN_any W0 no nn nc NK (HG.out.below HB.out).nod ⟨w.heap.size,0,none⟩ ro rn rc (HR0.out.cell 0)).mono ?_
 rintro e w2 ⟨rfl,hb⟩
 have HB2:=Lib.hid (HB.out.trans (hb.mono HB.out.size))
 have HR02:=Lib.hid (HR0.out.below hb)
 have HR12:=Lib.hid (HR1.out.below hb)
 clear hb HB HR0 HR1
 obtain ⟨bg0,bg1⟩:=(HR02.out).c2
 obtain ⟨bt0,bt1⟩:=(HR12.out).c2
 obtain ⟨bf0,bf1⟩:=(HR12.out).f2
 cases hall:(NK.map (·.1)).all (nodeB rn)
 ·have HF:=Lib.hid (rightP_nod (HGe.out ▸ hall))
  clear hall
  go_wp2_with fail
  have HRz:=Lib.hid (same2 (.slice none 0 0) (.slice none 0 0) HR12.out)
  have HBz:=Lib.hid (((HB2.out.setCell (p:=⟨w.heap.size+1,0,none⟩) (by simp) (.slice none 0 0))).setCell (p:=⟨w.heap.size+1,1,none⟩) (by simp) (.slice none 0 0))
  revert HRz HBz
  generalize (w2.setCell ⟨w.heap.size+1,0,none⟩ (.slice none 0 0)).setCell ⟨w.heap.size+1,1,none⟩ (.slice none 0 0)=wz
  intro HRz HBz
  obtain ⟨bz0,bz1⟩:=(HRz.out).c2
  rw [HF.out]
  exact bodyPost_ret (v:=.tuple #[.agg #[.slice none 0 0,.slice none 0 0],.bool false]) (by simp [results,Tryz.results55,go_sem,bz0,bz1]) rfl ⟨_,_,_,rfl,HBz.out,nofun⟩
 ·have HAll:=Lib.hid (HGe.out ▸ hall)
  clear hall
  go_wp2_with fail
  refine (of_any w2 no nn nc NK (HG.out.below HB2.out).nod h3).mono ?_
  rintro e w3 ⟨a1,a2,S,H,b,rfl,hb3,hs,hh,hy,hno⟩
  have HB3:=Lib.hid (HB2.out.trans (hb3.mono HB2.out.size))
  have HR03:=Lib.hid (HR02.out.below hb3)
  have HR13:=Lib.hid (HR12.out.below hb3)
  have HSs:=Lib.hid hs
  have HHs:=Lib.hid hh
  have HY:=Lib.hid hy
  have HNo:=Lib.hid hno
  clear hb3 hs hh hy hno bg0 bg1 bt0 bt1 bf0 bf1 HR02 HR12 HB2
  obtain ⟨bt0,bt1⟩:=(HR13.out).c2
  obtain ⟨bf0,bf1⟩:=(HR13.out).f2
  go_upto_region 6 with (fail)
  have HRz:=Lib.hid (same2 (.slice (some ⟨a1,0,none⟩) nn nn) (.slice (some ⟨a2,0,none⟩) nn nn) HR13.out)
  have HR0z:=Lib.hid (other2 (g:=w.heap.size+1) (.slice (some ⟨a1,0,none⟩) nn nn) (.slice (some ⟨a2,0,none⟩) nn nn) HR03.out (by omega))
  have HSz:=Lib.hid (other2 (g:=w.heap.size+1) (.slice (some ⟨a1,0,none⟩) nn nn) (.slice (some ⟨a2,0,none⟩) nn nn) HSs.out (ne_row HSs.out HR13.out (by decide)))
  have HHz:=Lib.hid (other2 (g:=w.heap.size+1) (.slice (some ⟨a1,0,none⟩) nn nn) (.slice (some ⟨a2,0,none⟩) nn nn) HHs.out (ne_row HHs.out HR13.out (by decide)))
  have HBz:=Lib.hid (((HB3.out.setCell (p:=⟨w.heap.size+1,0,none⟩) (by simp) (.slice (some ⟨a1,0,none⟩) nn nn))).setCell (p:=⟨w.heap.size+1,1,none⟩) (by simp) (.slice (some ⟨a2,0,none⟩) nn nn))
  revert HRz HR0z HSz HHz HBz
  generalize (w3.setCell ⟨w.heap.size+1,0,none⟩ (.slice (some ⟨a1,0,none⟩) nn nn)).setCell ⟨w.heap.size+1,1,none⟩ (.slice (some ⟨a2,0,none⟩) nn nn)=W4
  intro HRz HR0z HSz HHz HBz
  clear HR03 HR13 HSs HHs HB3 bt0 bt1 bf0 bf1
  have bg0:W4.cell? ⟨w.heap.size,0,none⟩=some (.slice ro rn rc):=HR0z.out.cell 0
  cases b
  ·have HF:=Lib.hid (rightP_tab (G:=G) (by rw [HNl.out,← HG.out.eq];exact HNo.out rfl))
   go_wp2_with fail
   go_loopw [3,4,38] (fun t3 nx k wr=>t3=.bool false/\k=.int .i64 0/\nx=.int .i64 0/\Hid (Below W4.heap.size W4 wr)) (fun _ _ _ _=>0)
   case atStart=>exact ⟨rfl,rfl,rfl,Below.refl _ _⟩
   case round=>
    obtain ⟨rfl,rfl,rfl,HI⟩:=hrel
    have hi0:(0:Int) < rn:=by omega
    have hi0n:0 < rn:=by omega
    obtain ⟨i,hi⟩:∃ i:Nat,i=0:=⟨0,rfl⟩
    have hil:0 < G.rules.length:=by have:=HRl.out;omega
    obtain ⟨ra,rfl,hc⟩:=Sv.at ruc_len ((HG.out.below (HBz.out.trans (HI.out.mono HBz.out.size))).rul) (by decide) 0 hil
    have c0:wr.cell? ra=some (.string (G.rules[0]'hil).name):=by have:=hc 0 _ rfl;simpa [Addr.add] using this
    have c1:wr.cell? ⟨ra.block,ra.off+1,none⟩=some (.int .i64 (G.rules[0]'hil).body):=by
     have:=hc 1 _ rfl
     rw [add_off _ _ _ (by decide)] at this
     simpa [Addr.add] using this
    clear hc hi
    generalize G.rules[0]'hil=r at *
    have HRt:=Lib.hid (HRz.out.below HI.out)
    have HBt:=Lib.hid (HBz.out.trans (HI.out.mono HBz.out.size))
    have HN2:Hid (Below wr.heap.size wr (wr.alloc (.cells #[.string r.name,.int .i64 r.body] 49))):=(Below.refl _ _).alloc (Nat.le_refl _) _
    have HRt2:=Lib.hid (HRt.out.below HN2.out)
    have HBt2:=Lib.hid (HBt.out.trans (HN2.out.mono HBt.out.size))
    have bt0:=HRt2.out.cell 0
    have bt1:=HRt2.out.cell 1
    obtain ⟨bf0,bf1⟩:=(HRt2.out).f2
    go_wp2_with fail
    have HRy:=Lib.hid (same2 (.slice (some ⟨a1,0,none⟩) nn nn) (.slice (some ⟨a2,0,none⟩) nn nn) HRt2.out)
    have HBy:=Lib.hid (((HBt2.out.setCell (p:=⟨w.heap.size+1,0,none⟩) (by simp) (.slice (some ⟨a1,0,none⟩) nn nn))).setCell (p:=⟨w.heap.size+1,1,none⟩) (by simp) (.slice (some ⟨a2,0,none⟩) nn nn))
    revert HRy HBy
    generalize ((wr.alloc (.cells #[.string r.name,.int .i64 r.body] 49)).setCell ⟨w.heap.size+1,0,none⟩ (.slice (some ⟨a1,0,none⟩) nn nn)).setCell ⟨w.heap.size+1,1,none⟩ (.slice (some ⟨a2,0,none⟩) nn nn)=wy
    intro HRy HBy
    obtain ⟨bz0,bz1⟩:=(HRy.out).c2
    rw [HF.out]
    exact bodyPost_ret (v:=.tuple #[.agg #[.slice (some ⟨a1,0,none⟩) nn nn,.slice (some ⟨a2,0,none⟩) nn nn],.bool false]) (by simp [results,Tryz.results55,go_sem,bz0,bz1]) rfl ⟨_,_,_,rfl,HBy.out,nofun⟩
  ·obtain ⟨T,hT,hA⟩:=HY.out rfl
   have HT:=Lib.hid (show tabs G.nodes G.nodes.length=some T by rw [HNl.out,← HG.out.eq];exact hT)
   have HA:=Lib.hid hA
   have HP:=Lib.hid (rightP_run (G:=G) (by rw [HRl.out,HNl.out];exact ⟨h1,h2,h3⟩) HAll.out HT.out)
   clear hT hA HY HNo
   go_wp2_with fail
   go_loopw [3,4,38] (fun t3 nx k wr=>∃ i n:Nat,t3=.bool true/\k=.int .i64 i/\nx=.int .i64 n/\i<=rn/\n<=nn/\Hid (Below W4.heap.size W4 wr)/\Hid (rulPf G T (G.rules.drop i) i n=rulPf G T G.rules 0 0)) (fun _ _ k _=>rn - match k with | .int _ i=>i.toNat | _=>0)
   case atStart=>exact ⟨0,0,rfl,rfl,rfl,Nat.zero_le _,Nat.zero_le _,Below.refl _ _,rfl⟩
   case round=>
    obtain ⟨i,n,rfl,rfl,rfl,hi,hn,HI,HQ⟩:=hrel
    by_cases hit:i < rn
    ·have hit':(i:Int) < rn:=by omega
     have hil:i < G.rules.length:=by have:=HRl.out;omega
     obtain ⟨ra,rfl,hc⟩:=Sv.at ruc_len ((HG.out.below (HBz.out.trans (HI.out.mono HBz.out.size))).rul) (by decide) i hil
     have c0:wr.cell? (ra.add (i * 2))=some (.string (G.rules[i]'hil).name):=by have:=hc 0 _ rfl;simpa [Addr.add] using this
     have c1:wr.cell? ⟨(ra.add (i * 2)).block,(ra.add (i * 2)).off+1,none⟩=some (.int .i64 (G.rules[i]'hil).body):=by
      have:=hc 1 _ rfl
      rw [add_off _ _ _ (by decide)] at this
      simpa [Addr.add] using this
     have hns:(G.rules[i]'hil).name.size<=9223372036854775807:=HG.out.nam _ (List.getElem_mem hil)
     have HQ2:=Lib.hid ((rulP_cons (G:=G) (T:=T) (n:=n) hil).symm.trans HQ.out)
     clear hc HQ
     generalize G.rules[i]'hil=r at *
     have HNs:=Lib.hid hns
     have HRt:=Lib.hid (HRz.out.below HI.out)
     have HR0t:=Lib.hid (HR0z.out.below HI.out)
     have HSt:=Lib.hid (HSz.out.below HI.out)
     have HHt:=Lib.hid (HHz.out.below HI.out)
     have HN2:Hid (Below wr.heap.size wr (wr.alloc (.cells #[.string r.name,.int .i64 r.body] 49))):=(Below.refl _ _).alloc (Nat.le_refl _) _
     have HNr:=Lib.hid (hrow.new wr #[.string r.name,.int .i64 r.body] 49)
     have HRt2:=Lib.hid (HRt.out.below HN2.out)
     have HR0t2:=Lib.hid (HR0t.out.below HN2.out)
     have HSt2:=Lib.hid (HSt.out.below HN2.out)
     have HHt2:=Lib.hid (HHt.out.below HN2.out)
     have HBt2:=Lib.hid (HI.out.trans (HN2.out.mono HI.out.size))
     clear hns HRt HR0t HSt HHt HN2 hil
     have hiz:(0:Int)<=i:=by omega
     have bn0:(wr.alloc (.cells #[.string r.name,.int .i64 r.body] 49)).cell? ⟨wr.heap.size,0,none⟩=_:=HNr.out.cell 0
     go_wp2_with fail
     clear bg0
     have HR2:=HRt2
     have HG2:=HR0t2
     have HN2:=HNr
     have HS2:=HSt2
     have HH2:=HHt2
     have HB2:=Lib.hid (HBz.out.trans (HBt2.out.mono HBz.out.size))
     have HI2:=HBt2
     clear HRt2 HR0t2 HNr HSt2 HHt2 HBt2
     refine (fname_any _ r.name HNs.out).mono ?_
     rintro e w5 ⟨rfl,hb⟩
     have HR5:=Lib.hid (HR2.out.below hb)
     have HG5:=Lib.hid (HG2.out.below hb)
     have HN5:=Lib.hid (HN2.out.below hb)
     have HS5:=Lib.hid (HS2.out.below hb)
     have HH5:=Lib.hid (HH2.out.below hb)
     have HB5:=Lib.hid (HB2.out.trans (hb.mono HB2.out.size))
     have HI5:=Lib.hid (HI2.out.trans (hb.mono HI2.out.size))
     clear hb HR2 HG2 HN2 HS2 HH2 HB2
     clear bn0
     obtain ⟨bt0,bt1⟩:=(HR5.out).c2
     obtain ⟨bf0,bf1⟩:=(HR5.out).f2
     obtain ⟨bg0,bg1⟩:=(HG5.out).c2
     obtain ⟨bn0,bn1⟩:=(HN5.out).c2
     cases hnb:nameB r.name
     ·have HF:=Lib.hid (bad_of HQ2.out (fun h=>absurd (hnb.symm.trans h.1) (by decide)) HP.out)
      go_wp2_with fail
      have HRy:=Lib.hid (same2 (.slice (some ⟨a1,0,none⟩) nn nn) (.slice (some ⟨a2,0,none⟩) nn nn) HR5.out)
      have HBy:=Lib.hid (((HB5.out.setCell (p:=⟨w.heap.size+1,0,none⟩) (by simp) (.slice (some ⟨a1,0,none⟩) nn nn))).setCell (p:=⟨w.heap.size+1,1,none⟩) (by simp) (.slice (some ⟨a2,0,none⟩) nn nn))
      revert HRy HBy
      generalize (w5.setCell ⟨w.heap.size+1,0,none⟩ (.slice (some ⟨a1,0,none⟩) nn nn)).setCell ⟨w.heap.size+1,1,none⟩ (.slice (some ⟨a2,0,none⟩) nn nn)=wy
      intro HRy HBy
      obtain ⟨bz0,bz1⟩:=(HRy.out).c2
      rw [HF.out]
      exact bodyPost_ret (v:=.tuple #[.agg #[.slice (some ⟨a1,0,none⟩) nn nn,.slice (some ⟨a2,0,none⟩) nn nn],.bool false]) (by simp [results,Tryz.results55,go_sem,bz0,bz1]) rfl ⟨_,_,_,rfl,HBy.out,nofun⟩
     ·go_wp2_with fail
      refine (rule_any w5 (some ra) rn rc (.slice no nn nc) G.rules (HG.out.below HB5.out).rul r.name no nn nc rfl).mono ?_
      rintro e w6 ⟨rfl,hb⟩
      have HR6:=Lib.hid (HR5.out.below hb)
      have HG6:=Lib.hid (HG5.out.below hb)
      have HN6:=Lib.hid (HN5.out.below hb)
      have HS6:=Lib.hid (HS5.out.below hb)
      have HH6:=Lib.hid (HH5.out.below hb)
      have HB6:=Lib.hid (HB5.out.trans (hb.mono HB5.out.size))
      have HI6:=Lib.hid (HI5.out.trans (hb.mono HI5.out.size))
      clear hb HR5 HG5 HN5 HS5 HH5 HB5
      clear bn0 bt0 bt1 bf0 bf1 bg0 bg1 bn1
      obtain ⟨bt0,bt1⟩:=(HR6.out).c2
      obtain ⟨bf0,bf1⟩:=(HR6.out).f2
      obtain ⟨bg0,bg1⟩:=(HG6.out).c2
      obtain ⟨bn0,bn1⟩:=(HN6.out).c2
      by_cases hri:ruleIx G.rules r.name=(i:Int)
      case neg=>
       have HF:=Lib.hid (bad_of HQ2.out (fun h=>hri h.2.1) HP.out)
       have hri2:(ruleIx G.rules r.name != (i:Int))=true:=by simpa using hri
       generalize ruleIx G.rules r.name=rx at *
       go_wp2_with fail
       have HRy:=Lib.hid (same2 (.slice (some ⟨a1,0,none⟩) nn nn) (.slice (some ⟨a2,0,none⟩) nn nn) HR6.out)
       have HBy:=Lib.hid (((HB6.out.setCell (p:=⟨w.heap.size+1,0,none⟩) (by simp) (.slice (some ⟨a1,0,none⟩) nn nn))).setCell (p:=⟨w.heap.size+1,1,none⟩) (by simp) (.slice (some ⟨a2,0,none⟩) nn nn))
       revert HRy HBy
       generalize (w6.setCell ⟨w.heap.size+1,0,none⟩ (.slice (some ⟨a1,0,none⟩) nn nn)).setCell ⟨w.heap.size+1,1,none⟩ (.slice (some ⟨a2,0,none⟩) nn nn)=wy
       intro HRy HBy
       obtain ⟨bz0,bz1⟩:=(HRy.out).c2
       rw [HF.out]
       exact bodyPost_ret (v:=.tuple #[.agg #[.slice (some ⟨a1,0,none⟩) nn nn,.slice (some ⟨a2,0,none⟩) nn nn],.bool false]) (by simp [results,Tryz.results55,go_sem,bz0,bz1]) rfl ⟨_,_,_,rfl,HBy.out,nofun⟩
      case pos=>
       have hri2:(ruleIx G.rules r.name != (i:Int))=false:=by simp [hri]
       by_cases hbo:r.body=(n:Int)
       case neg=>
        have HF:=Lib.hid (bad_of HQ2.out (fun h=>hbo h.2.2.1) HP.out)
        have hbo2:(r.body != (n:Int))=true:=by simpa using hbo
        generalize ruleIx G.rules r.name=rx at *
        go_wp2_with fail
        have HRy:=Lib.hid (same2 (.slice (some ⟨a1,0,none⟩) nn nn) (.slice (some ⟨a2,0,none⟩) nn nn) HR6.out)
        have HBy:=Lib.hid (((HB6.out.setCell (p:=⟨w.heap.size+1,0,none⟩) (by simp) (.slice (some ⟨a1,0,none⟩) nn nn))).setCell (p:=⟨w.heap.size+1,1,none⟩) (by simp) (.slice (some ⟨a2,0,none⟩) nn nn))
        revert HRy HBy
        generalize (w6.setCell ⟨w.heap.size+1,0,none⟩ (.slice (some ⟨a1,0,none⟩) nn nn)).setCell ⟨w.heap.size+1,1,none⟩ (.slice (some ⟨a2,0,none⟩) nn nn)=wy
        intro HRy HBy
        obtain ⟨bz0,bz1⟩:=(HRy.out).c2
        rw [HF.out]
        exact bodyPost_ret (v:=.tuple #[.agg #[.slice (some ⟨a1,0,none⟩) nn nn,.slice (some ⟨a2,0,none⟩) nn nn],.bool false]) (by simp [results,Tryz.results55,go_sem,bz0,bz1]) rfl ⟨_,_,_,rfl,HBy.out,nofun⟩
       case pos=>
        have hbo2:(r.body != (n:Int))=false:=by simp [hbo]
        by_cases hlt:n < nn
        case neg=>
         have HF:=Lib.hid (bad_of HQ2.out (fun h=>hlt (by have:=h.2.2.2.1;have:=HNl.out;omega)) HP.out)
         have hlt2:(nn:Int)<=n:=by omega
         generalize ruleIx G.rules r.name=rx at *
         go_wp2_with fail
         have HRy:=Lib.hid (same2 (.slice (some ⟨a1,0,none⟩) nn nn) (.slice (some ⟨a2,0,none⟩) nn nn) HR6.out)
         have HBy:=Lib.hid (((HB6.out.setCell (p:=⟨w.heap.size+1,0,none⟩) (by simp) (.slice (some ⟨a1,0,none⟩) nn nn))).setCell (p:=⟨w.heap.size+1,1,none⟩) (by simp) (.slice (some ⟨a2,0,none⟩) nn nn))
         revert HRy HBy
         generalize (w6.setCell ⟨w.heap.size+1,0,none⟩ (.slice (some ⟨a1,0,none⟩) nn nn)).setCell ⟨w.heap.size+1,1,none⟩ (.slice (some ⟨a2,0,none⟩) nn nn)=wy
         intro HRy HBy
         obtain ⟨bz0,bz1⟩:=(HRy.out).c2
         rw [HF.out]
         exact bodyPost_ret (v:=.tuple #[.agg #[.slice (some ⟨a1,0,none⟩) nn nn,.slice (some ⟨a2,0,none⟩) nn nn],.bool false]) (by simp [results,Tryz.results55,go_sem,bz0,bz1]) rfl ⟨_,_,_,rfl,HBy.out,nofun⟩
        case pos=>
         have hlt2:(n:Int) < nn:=by omega
         have hnz:(0:Int)<=n:=by omega
         have hag:=HA.out n (Nat.zero_le _) hlt
         have htb:TabOk G.nodes 0 T:=by have:=(tabs_ok G.nodes.length (Nat.le_refl _)).1 T HT.out;rwa [Nat.sub_self] at this
         have hab:=tab_at htb (Nat.zero_le n) (by have:=HNl.out;omega)
         rw [Nat.sub_zero] at hag hab
         have hs1:w6.cell? ⟨a1,n,none⟩=some (.int .i64 (S n)):=(HS6.out.cell n).trans (rngs_get _ _ _ hlt)
         have hs2:w6.cell? ⟨a2,n,none⟩=some (.int .i64 (H n)):=(HH6.out.cell n).trans (rngs_get _ _ _ hlt)
         have HQ3:=HQ2.out
         rw [← hag.1,← hag.2] at HQ3 hab
         clear HQ2
         have HQ2:=Lib.hid HQ3
         have hab1:n+S n<=nn:=by have:=HNl.out;omega
         clear HQ3 hag hab
         by_cases hhi:H n<=16
         case neg=>
          have HF:=Lib.hid (bad_of HQ2.out (fun h=>hhi h.2.2.2.2) HP.out)
          have hhi2:(16:Int) < H n:=by omega
          generalize ruleIx G.rules r.name=rx at *
          go_wp2_with fail
          have HRy:=Lib.hid (same2 (.slice (some ⟨a1,0,none⟩) nn nn) (.slice (some ⟨a2,0,none⟩) nn nn) HR6.out)
          have HBy:=Lib.hid (((HB6.out.setCell (p:=⟨w.heap.size+1,0,none⟩) (by simp) (.slice (some ⟨a1,0,none⟩) nn nn))).setCell (p:=⟨w.heap.size+1,1,none⟩) (by simp) (.slice (some ⟨a2,0,none⟩) nn nn))
          revert HRy HBy
          generalize (w6.setCell ⟨w.heap.size+1,0,none⟩ (.slice (some ⟨a1,0,none⟩) nn nn)).setCell ⟨w.heap.size+1,1,none⟩ (.slice (some ⟨a2,0,none⟩) nn nn)=wy
          intro HRy HBy
          obtain ⟨bz0,bz1⟩:=(HRy.out).c2
          rw [HF.out]
          exact bodyPost_ret (v:=.tuple #[.agg #[.slice (some ⟨a1,0,none⟩) nn nn,.slice (some ⟨a2,0,none⟩) nn nn],.bool false]) (by simp [results,Tryz.results55,go_sem,bz0,bz1]) rfl ⟨_,_,_,rfl,HBy.out,nofun⟩
         case pos=>
          have hhi2:¬ ((16:Int) < H n):=by omega
          have HQ4:=HQ2.out
          rw [if_pos ⟨hnb,hri,hbo,by rw [HNl.out];exact hlt,hhi⟩] at HQ4
          have HQ5:=Lib.hid HQ4
          clear HQ4 HQ2
          generalize ruleIx G.rules r.name=rx at *
          go_wp2_with fail
          exact ⟨⟨i+1,n+S n,rfl,by go_num,by go_num,by omega,hab1,HI6.out,HQ5.out⟩,by show rn - ((i:Int)+1).toNat < rn - ((i:Int)).toNat;omega⟩
    ·have hi2:i=rn:=by omega
     subst hi2
     have hQ:=HQ.out
     rw [List.drop_eq_nil_of_le (by have:=HRl.out;omega)] at hQ
     have HR:=Lib.hid (HP.out.trans (by rw [← hQ,HNl.out];rfl:_=(some n == some nn)))
     have hdec:((some n == some nn):Bool)=((n:Int) == (nn:Int)):=by
      rw [Bool.eq_iff_iff];simp;omega
     have HR2:=Lib.hid (HR.out.trans hdec)
     have HRt:=Lib.hid (HRz.out.below HI.out)
     have HR0t:=Lib.hid (HR0z.out.below HI.out)
     have HBt:=Lib.hid (HBz.out.trans (HI.out.mono HBz.out.size))
     obtain ⟨bt0,bt1⟩:=(HRt.out).c2
     obtain ⟨bf0,bf1⟩:=(HRt.out).f2
     have bg1:wr.cell? ⟨w.heap.size,1,none⟩=some (.slice no nn nc):=HR0t.out.cell 1
     have HSt:=Lib.hid (HSz.out.below HI.out)
     clear hQ hdec HR HQ bg0 HR0t
     go_upto_region 14 with (fail)
     go_region
     have HRy:=Lib.hid (same2 (.slice (some ⟨a1,0,none⟩) nn nn) (.slice (some ⟨a2,0,none⟩) nn nn) HRt.out)
     have HBy:=Lib.hid (((HBt.out.setCell (p:=⟨w.heap.size+1,0,none⟩) (by simp) (.slice (some ⟨a1,0,none⟩) nn nn))).setCell (p:=⟨w.heap.size+1,1,none⟩) (by simp) (.slice (some ⟨a2,0,none⟩) nn nn))
     have HSy:=Lib.hid (other2 (g:=w.heap.size+1) (.slice (some ⟨a1,0,none⟩) nn nn) (.slice (some ⟨a2,0,none⟩) nn nn) HSt.out (ne_row HSt.out HRt.out (by decide)))
     revert HRy HBy HSy
     generalize (wr.setCell ⟨w.heap.size+1,0,none⟩ (.slice (some ⟨a1,0,none⟩) nn nn)).setCell ⟨w.heap.size+1,1,none⟩ (.slice (some ⟨a2,0,none⟩) nn nn)=wy
     intro HRy HBy HSy
     obtain ⟨bz0,bz1⟩:=(HRy.out).c2
     go_wp2_with fail
     rw [HR2.out]
     exact bodyPost_ret (v:=.tuple #[.agg #[(.slice (some ⟨a1,0,none⟩) nn nn),(.slice (some ⟨a2,0,none⟩) nn nn)],.bool ((n:Int) == (nn:Int))]) (by simp [results,Tryz.results55,go_sem,bz0,bz1]) rfl ⟨_,_,_,rfl,HBy.out.drew,fun _=>⟨HNl.out.symm,a1,S,T,rfl,HSy.out.below ((Below.refl _ _).drew),HT.out,fun j hj=>by have:=(HA.out j (Nat.zero_le _) hj).1;rwa [Nat.sub_zero] at this⟩⟩
end Go.Proofs.YtgjhepblpdnkcaaGreatDoor
namespace Go.Proofs.YtgjhepblpdnkcaaGreatDoor
open Go.RowKit
set_option maxRecDepth 100000
set_option maxHeartbeats 4000000

theorem gright_any (w:World) (ro:Option Addr) (rn rc:Nat) (no:Option Addr) (nn nc:Nat) (NK:List (Nd×(Option Addr×Nat))) (G:Gr) (hG:GrW w ro rn rc no nn nc NK G):
  Calls Tryz.prog 19 #[grv ro rn rc no nn nc] w fun e w'=>e=.returned (.bool (rightP G))/\Below w.heap.size w w':=by
 have HG:=Lib.hid hG
 have HB:=Lib.hid (al1 (Below.refl w.heap.size w) (.cells #[.slice ro rn rc,.slice no nn nc] 25))
 have bg0:(w.alloc (.cells #[.slice ro rn rc,.slice no nn nc] 25)).cell? ⟨w.heap.size,0,none⟩=some (.slice ro rn rc):=(hrow.new w #[.slice ro rn rc,.slice no nn nc] 25).cell 0
 have bg1:(w.alloc (.cells #[.slice ro rn rc,.slice no nn nc] 25)).cell? ⟨w.heap.size,1,none⟩=some (.slice no nn nc):=(hrow.new w #[.slice ro rn rc,.slice no nn nc] 25).cell 1
 clear hG
 unfold grv
 go_enter Tryz.func19,Tryz.ntmps19
 go_wp2_with fail
 refine (whole_any _ ro rn rc no nn nc NK G (HG.out.below HB.out)).mono ?_
 rintro e w2 ⟨px,py,m,rfl,hb,-⟩
 have HB2:=Lib.hid (HB.out.trans (hb.mono HB.out.size))
 clear hb bg0 bg1
 have HB4:=Lib.hid (al1 HB2.out (.cells #[.slice px m m,.slice py m m] 104))
 go_wp2_with fail
 exact bodyPost_ret (v:=.bool (rightP G)) (by simp [results,Tryz.results19,go_sem]) rfl ⟨rfl,HB4.out⟩
end Go.Proofs.YtgjhepblpdnkcaaGreatDoor
namespace Go.Proofs.YtgjhepblpdnkcaaGreatDoor

/-- A node as it is read. -/
inductive Pt where
  | mk (kind:Nat) (cl:List (UInt8×UInt8)) (tx:List UInt8) (lv:Int) (at_:Nat) (nm:List UInt8) (kids:List Pt)
def Pt.at_:Pt->Nat | .mk _ _ _ _ a _ _=>a
/-- What comes of reading: something, and which word comes next; or why not, and where. -/
inductive Rs (α:Type) where
  | ok (x:α) (j:Nat)
  | err (e:Nat) (at_:Nat)
/-- The word at a place (an end behind all). -/
def wdAt (L:List Wd) (i:Nat):Wd:=L.getD i ⟨1,0,0,[],0,[]⟩
/-- Is it that sign? -/
def hereW (L:List Wd) (i:Nat) (s:List UInt8):Bool:=(wdAt L i).kind == 5 && (wdAt L i).tx == s
/-- Does a row of parts go on? -/
def goesW (L:List Wd) (i:Nat):Bool:=(wdAt L i).kind != 1 && !(hereW L i [47] || hereW L i [41] || hereW L i [59] || hereW L i [60,45] || hereW L i [42] || hereW L i [43] || hereW L i [63])
/-- Parts as one. -/
def grp (k:Nat):List Pt->Pt
  | [p]=>p
  | l=>.mk k [] [] 0 ((l.head?.map Pt.at_).getD 0) [] l
def ovr (k at_:Nat) (p:Pt):Pt:=.mk k [] [] 0 at_ [] [p]
/-- The signs behind a part. -/
def sufF (L:List Wd):Nat->Pt->Nat->Pt×Nat
  | 0,p,i=>(p,i)
  | f+1,p,i=>
    if hereW L i [42] then sufF L f (ovr 8 (wdAt L i).at_ p) (i+1)
    else if hereW L i [43] then sufF L f (ovr 9 (wdAt L i).at_ p) (i+1)
    else if hereW L i [63] then sufF L f (ovr 10 (wdAt L i).at_ p) (i+1)
    else (p,i)
inductive Md where | alt | altM | seq | seqM | item | prim
/-- The parser: none, if the fuel runs out. -/
def prs (L:List Wd):Nat->Md->List Pt->Nat->Nat->Option (Rs Pt)
  | 0,_,_,_,_=>none
  | f+1,.alt,_,i,d=>match prs L f .seq [] i d with
    | some (.ok p j)=>prs L f .altM [p] j d
    | r=>r
  | f+1,.altM,acc,i,d=>if hereW L i [47] then (match prs L f .seq [] (i+1) d with
      | some (.ok p j)=>prs L f .altM (acc ++ [p]) j d
      | r=>r)
    else some (.ok (grp 7 acc) i)
  | f+1,.seq,_,i,d=>match prs L f .item [] i d with
    | some (.ok p j)=>prs L f .seqM [p] j d
    | r=>r
  | f+1,.seqM,acc,i,d=>if goesW L i then (match prs L f .item [] i d with
      | some (.ok p j)=>prs L f .seqM (acc ++ [p]) j d
      | r=>r)
    else some (.ok (grp 6 acc) i)
  | f+1,.item,_,i,d=>
    if hereW L i [33] then (match prs L f .item [] (i+1) d with
      | some (.ok p j)=>some (.ok (ovr 11 (wdAt L i).at_ p) j)
      | r=>r)
    else if hereW L i [38] then (match prs L f .item [] (i+1) d with
      | some (.ok p j)=>some (.ok (ovr 12 (wdAt L i).at_ p) j)
      | r=>r)
    else (match prs L f .prim [] i d with
      | some (.ok p j)=>some (.ok (sufF L L.length p j).1 (sufF L L.length p j).2)
      | r=>r)
  | f+1,.prim,_,i,d=>
    let w:=wdAt L i
    if w.kind=2 then some (.ok (.mk 5 [] [] (max w.lv 0) w.at_ w.tx []) (i+1))
    else if w.kind=3 then some (.ok (.mk 4 [] w.tx 0 w.at_ [] []) (i+1))
    else if w.kind=4 then some (.ok (.mk 3 w.cl [] 0 w.at_ [] []) (i+1))
    else if hereW L i [46] then some (.ok (.mk 2 [] [] 0 w.at_ [] []) (i+1))
    else if hereW L i [40] then
      (if 500<=d then some (.err 3 w.at_)
       else if hereW L (i+1) [41] then some (.ok (.mk 1 [] [] 0 w.at_ [] []) (i+2))
       else match prs L f .alt [] (i+1) (d+1) with
         | some (.ok p j)=>if hereW L j [41] then some (.ok p (j+1)) else some (.err 7 (wdAt L j).at_)
         | r=>r)
    else some (.err 7 w.at_)
/-- A rule. -/
def rulP (L:List Wd) (f:Nat) (i:Nat):Option (Rs (Wd×Pt)):=
  let w:=wdAt L i
  if w.kind ≠ 2∨0<=w.lv then some (.err 7 w.at_)
  else if hereW L (i+1) [60,45] then (match prs L f .alt [] (i+2) 0 with
    | some (.ok p j)=>if hereW L j [59] then some (.ok (w,p) (j+1)) else some (.err 7 (wdAt L j).at_)
    | some (.err e a)=>some (.err e a)
    | none=>none)
  else some (.err 7 (wdAt L (i+1)).at_)
/-- All rules, from a word on. -/
def rulsP (L:List Wd) (f:Nat):Nat->List (Wd×Pt)->Nat->Option (Rs (List (Wd×Pt)))
  | 0,_,_=>none
  | g+1,acc,i=>match rulP L f i with
    | some (.ok x j)=>if (wdAt L j).kind=1 then some (.ok (acc ++ [x]) j) else rulsP L f g (acc ++ [x]) j
    | some (.err e a)=>some (.err e a)
    | none=>none
/-- What holds of words: an end at the end alone; signs are signs. -/
structure WsOk (L:List Wd):Prop where
  pos:0 < L.length
  en:∀ i,i < L.length->((wdAt L i).kind=1 ↔ i+1=L.length)
  kd:∀ i,i < L.length->1<=(wdAt L i).kind/\(wdAt L i).kind<=5
  sg:∀ i,i < L.length->(wdAt L i).kind=5->(wdAt L i).tx=[60,45]∨∃ c ∈ sgs,(wdAt L i).tx=[c]
theorem WsOk.next {L:List Wd} (h:WsOk L) {i:Nat} (hi:i < L.length) (hk:(wdAt L i).kind ≠ 1):i+1 < L.length:=by
  rcases Nat.lt_or_ge (i+1) L.length with h1 | h1
  · exact h1
  · exact absurd ((h.en i hi).2 (by omega)) hk
theorem here_kind {L:List Wd} {i:Nat} {s:List UInt8} (h:hereW L i s=true):(wdAt L i).kind=5/\(wdAt L i).tx=s:=by
  unfold hereW at h
  simp only [Bool.and_eq_true,beq_iff_eq] at h
  exact h
theorem WsOk.after {L:List Wd} (h:WsOk L) {i:Nat} (hi:i < L.length) {s:List UInt8} (hh:hereW L i s=true):i+1 < L.length:=
  h.next hi (by rw [(here_kind hh).1];decide)
/-- Signs are taken one by one. -/
theorem sufF_le {L:List Wd} (h:WsOk L):∀ (f:Nat) (p:Pt) (i:Nat),i < L.length->i<=(sufF L f p i).2/\(sufF L f p i).2 < L.length
  | 0,p,i,hi=>⟨Nat.le_refl _,hi⟩
  | f+1,p,i,hi=>by
    unfold sufF
    split
    · rename_i hh;have:=sufF_le h f (ovr 8 (wdAt L i).at_ p) (i+1) (h.after hi hh);omega
    · split
      · rename_i hh;have:=sufF_le h f (ovr 9 (wdAt L i).at_ p) (i+1) (h.after hi hh);omega
      · split
        · rename_i hh;have:=sufF_le h f (ovr 10 (wdAt L i).at_ p) (i+1) (h.after hi hh);omega
        · exact ⟨Nat.le_refl _,hi⟩
/-- How far it goes: something is taken, and the end is not passed. -/
theorem prs_bd {L:List Wd} (h:WsOk L):∀ (f:Nat) (m:Md) (acc:List Pt) (i d:Nat) (p:Pt) (j:Nat),i < L.length->prs L f m acc i d=some (.ok p j)->
    j < L.length/\i<=j/\(match m with | .altM=>True | .seqM=>True | _=>i < j)
  | 0,m,acc,i,d,p,j,hi,e=>by simp [prs] at e
  | f+1,.alt,acc,i,d,p,j,hi,e=>by
    simp only [prs] at e
    cases hq:prs L f .seq [] i d with
    | none=>rw [hq] at e;cases e
    | some r=>
      rw [hq] at e
      cases r with
      | err a b=>cases e
      | ok q k=>
        simp only [] at e
        obtain ⟨h1,h2,h3⟩:=prs_bd h f .seq [] i d q k hi hq
        obtain ⟨h4,h5,_⟩:=prs_bd h f .altM [q] k d p j h1 e
        simp only [] at h3
        exact ⟨h4,by omega,by show i < j;omega⟩
  | f+1,.altM,acc,i,d,p,j,hi,e=>by
    simp only [prs] at e
    by_cases hh:hereW L i [47]=true
    · rw [if_pos hh] at e
      cases hq:prs L f .seq [] (i+1) d with
      | none=>rw [hq] at e;cases e
      | some r=>
        rw [hq] at e
        cases r with
        | err a b=>cases e
        | ok q k=>
          simp only [] at e
          obtain ⟨h1,h2,h3⟩:=prs_bd h f .seq [] (i+1) d q k (h.after hi hh) hq
          obtain ⟨h4,h5,_⟩:=prs_bd h f .altM (acc ++ [q]) k d p j h1 e
          exact ⟨h4,by omega,trivial⟩
    · rw [if_neg hh] at e
      simp only [Option.some.injEq,Rs.ok.injEq] at e
      exact ⟨by omega,by omega,trivial⟩
  | f+1,.seq,acc,i,d,p,j,hi,e=>by
    simp only [prs] at e
    cases hq:prs L f .item [] i d with
    | none=>rw [hq] at e;cases e
    | some r=>
      rw [hq] at e
      cases r with
      | err a b=>cases e
      | ok q k=>
        simp only [] at e
        obtain ⟨h1,h2,h3⟩:=prs_bd h f .item [] i d q k hi hq
        obtain ⟨h4,h5,_⟩:=prs_bd h f .seqM [q] k d p j h1 e
        simp only [] at h3
        exact ⟨h4,by omega,by show i < j;omega⟩
  | f+1,.seqM,acc,i,d,p,j,hi,e=>by
    simp only [prs] at e
    by_cases hh:goesW L i=true
    · rw [if_pos hh] at e
      cases hq:prs L f .item [] i d with
      | none=>rw [hq] at e;cases e
      | some r=>
        rw [hq] at e
        cases r with
        | err a b=>cases e
        | ok q k=>
          simp only [] at e
          obtain ⟨h1,h2,h3⟩:=prs_bd h f .item [] i d q k hi hq
          obtain ⟨h4,h5,_⟩:=prs_bd h f .seqM (acc ++ [q]) k d p j h1 e
          exact ⟨h4,by omega,trivial⟩
    · rw [if_neg hh] at e
      simp only [Option.some.injEq,Rs.ok.injEq] at e
      exact ⟨by omega,by omega,trivial⟩
  | f+1,.item,acc,i,d,p,j,hi,e=>by
    simp only [prs] at e
    by_cases hh:hereW L i [33]=true
    · rw [if_pos hh] at e
      cases hq:prs L f .item [] (i+1) d with
      | none=>rw [hq] at e;cases e
      | some r=>
        rw [hq] at e
        cases r with
        | err a b=>cases e
        | ok q k=>
          simp only [Option.some.injEq,Rs.ok.injEq] at e
          obtain ⟨h1,h2,h3⟩:=prs_bd h f .item [] (i+1) d q k (h.after hi hh) hq
          exact ⟨by omega,by omega,by show i < j;omega⟩
    · rw [if_neg hh] at e
      by_cases hh2:hereW L i [38]=true
      · rw [if_pos hh2] at e
        cases hq:prs L f .item [] (i+1) d with
        | none=>rw [hq] at e;cases e
        | some r=>
          rw [hq] at e
          cases r with
          | err a b=>cases e
          | ok q k=>
            simp only [Option.some.injEq,Rs.ok.injEq] at e
            obtain ⟨h1,h2,h3⟩:=prs_bd h f .item [] (i+1) d q k (h.after hi hh2) hq
            exact ⟨by omega,by omega,by show i < j;omega⟩
      · rw [if_neg hh2] at e
        cases hq:prs L f .prim [] i d with
        | none=>rw [hq] at e;cases e
        | some r=>
          rw [hq] at e
          cases r with
          | err a b=>cases e
          | ok q k=>
            simp only [Option.some.injEq,Rs.ok.injEq] at e
            obtain ⟨h1,h2,h3⟩:=prs_bd h f .prim [] i d q k hi hq
            have:=sufF_le h L.length q k h1
            simp only [] at h3
            exact ⟨by omega,by omega,by show i < j;omega⟩
  | f+1,.prim,acc,i,d,p,j,hi,e=>by
    simp only [prs] at e
    have one:(wdAt L i).kind ≠ 1->i+1=j->j < L.length/\i<=j/\i < j:=fun hk ej=>⟨by have:=h.next hi hk;omega,by omega,by omega⟩
    split at e
    · rename_i hk;simp only [Option.some.injEq,Rs.ok.injEq] at e;exact one (by omega) e.2
    split at e
    · rename_i hk;simp only [Option.some.injEq,Rs.ok.injEq] at e;exact one (by omega) e.2
    split at e
    · rename_i hk;simp only [Option.some.injEq,Rs.ok.injEq] at e;exact one (by omega) e.2
    split at e
    · rename_i hh;simp only [Option.some.injEq,Rs.ok.injEq] at e;exact one (by rw [(here_kind hh).1];decide) e.2
    split at e
    · rename_i hh
      split at e
      · cases e
      · split at e
        · rename_i hh2
          simp only [Option.some.injEq,Rs.ok.injEq] at e
          have h1:=h.after hi hh
          have h2:=h.after h1 hh2
          exact ⟨by omega,by omega,by show i < j;omega⟩
        · cases hq:prs L f .alt [] (i+1) (d+1) with
          | none=>rw [hq] at e;cases e
          | some r=>
            rw [hq] at e
            cases r with
            | err a b=>cases e
            | ok q k=>
              simp only [] at e
              obtain ⟨h1,h2,h3⟩:=prs_bd h f .alt [] (i+1) (d+1) q k (h.after hi hh) hq
              split at e
              · rename_i hh2
                simp only [Option.some.injEq,Rs.ok.injEq] at e
                have:=h.after h1 hh2
                exact ⟨by omega,by omega,by show i < j;omega⟩
              · cases e
    · cases e
end Go.Proofs.YtgjhepblpdnkcaaGreatDoor
namespace Go.Proofs.YtgjhepblpdnkcaaGreatDoor

/-- How much fuel is enough. -/
def need:Md->Nat->Nat
 | .prim,k=>6 * k+1
 | .item,k=>6 * k+2
 | .seq,k=>6 * k+3
 | .seqM,k=>6 * k+3
 | .alt,k=>6 * k+4
 | .altM,k=>6 * k+4
theorem prs_tot {L:List Wd} (h:WsOk L):∀ (f:Nat) (m:Md) (acc:List Pt) (i d:Nat),i < L.length->need m (L.length - i)<=f->prs L f m acc i d ≠ none
 | 0,m,acc,i,d,hi,hn=>by cases m <;> (simp only [need] at hn;omega)
 | f+1,.alt,acc,i,d,hi,hn=>by
  simp only [need] at hn
  simp only [prs]
  have h1:=prs_tot h f .seq [] i d hi (by simp only [need];omega)
  cases hq:prs L f .seq [] i d with
  | none=>exact absurd hq h1
  | some r=>
   cases r with
   | err a b=>simp
   | ok q k=>
    obtain ⟨h2,h3,h4⟩:=prs_bd h f .seq [] i d q k hi hq
    simp only [] at h4 ⊢
    exact prs_tot h f .altM [q] k d h2 (by simp only [need];omega)
 | f+1,.altM,acc,i,d,hi,hn=>by
  simp only [need] at hn
  simp only [prs]
  by_cases hh:hereW L i [47]=true
  ·rw [if_pos hh]
   have hi1:=h.after hi hh
   have h1:=prs_tot h f .seq [] (i+1) d hi1 (by simp only [need];omega)
   cases hq:prs L f .seq [] (i+1) d with
   | none=>exact absurd hq h1
   | some r=>
    cases r with
    | err a b=>simp
    | ok q k=>
     obtain ⟨h2,h3,h4⟩:=prs_bd h f .seq [] (i+1) d q k hi1 hq
     simp only [] at h4 ⊢
     exact prs_tot h f .altM (acc ++ [q]) k d h2 (by simp only [need];omega)
  ·rw [if_neg hh];simp
 | f+1,.seq,acc,i,d,hi,hn=>by
  simp only [need] at hn
  simp only [prs]
  have h1:=prs_tot h f .item [] i d hi (by simp only [need];omega)
  cases hq:prs L f .item [] i d with
  | none=>exact absurd hq h1
  | some r=>
   cases r with
   | err a b=>simp
   | ok q k=>
    obtain ⟨h2,h3,h4⟩:=prs_bd h f .item [] i d q k hi hq
    simp only [] at h4 ⊢
    exact prs_tot h f .seqM [q] k d h2 (by simp only [need];omega)
 | f+1,.seqM,acc,i,d,hi,hn=>by
  simp only [need] at hn
  simp only [prs]
  by_cases hh:goesW L i=true
  ·rw [if_pos hh]
   have h1:=prs_tot h f .item [] i d hi (by simp only [need];omega)
   cases hq:prs L f .item [] i d with
   | none=>exact absurd hq h1
   | some r=>
    cases r with
    | err a b=>simp
    | ok q k=>
     obtain ⟨h2,h3,h4⟩:=prs_bd h f .item [] i d q k hi hq
     simp only [] at h4 ⊢
     exact prs_tot h f .seqM (acc ++ [q]) k d h2 (by simp only [need];omega)
  ·rw [if_neg hh];simp
 | f+1,.item,acc,i,d,hi,hn=>by
  simp only [need] at hn
  simp only [prs]
  by_cases hh:hereW L i [33]=true
  ·rw [if_pos hh]
   have h1:=prs_tot h f .item [] (i+1) d (h.after hi hh) (by simp only [need];omega)
   cases hq:prs L f .item [] (i+1) d with
   | none=>exact absurd hq h1
   | some r=>cases r <;> simp
  ·rw [if_neg hh]
   by_cases hh2:hereW L i [38]=true
   ·rw [if_pos hh2]
    have h1:=prs_tot h f .item [] (i+1) d (h.after hi hh2) (by simp only [need];omega)
    cases hq:prs L f .item [] (i+1) d with
    | none=>exact absurd hq h1
    | some r=>cases r <;> simp
   ·rw [if_neg hh2]
    have h1:=prs_tot h f .prim [] i d hi (by simp only [need];omega)
    cases hq:prs L f .prim [] i d with
    | none=>exact absurd hq h1
    | some r=>cases r <;> simp
 | f+1,.prim,acc,i,d,hi,hn=>by
  simp only [need] at hn
  simp only [prs]
  split
  ·simp
  split
  ·simp
  split
  ·simp
  split
  ·simp
  split
  ·rename_i hh
   split
   ·simp
   ·split
    ·simp
    ·have h1:=prs_tot h f .alt [] (i+1) (d+1) (h.after hi hh) (by simp only [need];omega)
     cases hq:prs L f .alt [] (i+1) (d+1) with
     | none=>exact absurd hq h1
     | some r=>
      cases r with
      | err a b=>simp
      | ok q k=>simp only [];split <;> simp
  ·simp
/-- A rule is read, or not; how far it goes. -/
theorem rulP_tot {L:List Wd} (h:WsOk L) (f i:Nat) (hi:i < L.length) (hf:6 * L.length+4<=f):(∃ w p j,rulP L f i=some (.ok (w,p) j)/\i < j/\j < L.length)∨∃ e a,rulP L f i=some (.err e a):=by
 unfold rulP
 simp only []
 by_cases hk:(wdAt L i).kind ≠ 2∨0<=(wdAt L i).lv
 ·rw [if_pos hk];exact .inr ⟨_,_,rfl⟩
 ·rw [if_neg hk]
  have hk2:(wdAt L i).kind=2:=by
   rcases Nat.decEq (wdAt L i).kind 2 with h1 | h1
   ·exact absurd (.inl h1) hk
   ·exact h1
  have h1:=h.next hi (by omega)
  by_cases hh:hereW L (i+1) [60,45]=true
  ·rw [if_pos hh]
   have h2:=h.after h1 hh
   have h3:=prs_tot h f .alt [] (i+2) 0 h2 (by simp only [need];omega)
   cases hq:prs L f .alt [] (i+2) 0 with
   | none=>exact absurd hq h3
   | some r=>
    cases r with
    | err a b=>exact .inr ⟨_,_,rfl⟩
    | ok p j=>
     obtain ⟨h4,h5,_⟩:=prs_bd h f .alt [] (i+2) 0 p j h2 hq
     simp only []
     by_cases hs:hereW L j [59]=true
     ·rw [if_pos hs]
      exact .inl ⟨_,_,_,rfl,by omega,h.after h4 hs⟩
     ·rw [if_neg hs];exact .inr ⟨_,_,rfl⟩
  ·rw [if_neg hh];exact .inr ⟨_,_,rfl⟩
theorem rulsP_tot {L:List Wd} (h:WsOk L) (f:Nat) (hf:6 * L.length+4<=f):∀ (g:Nat) (acc:List (Wd×Pt)) (i:Nat),i < L.length->L.length - i < g->rulsP L f g acc i ≠ none
 | 0,acc,i,hi,hg=>by omega
 | g+1,acc,i,hi,hg=>by
  unfold rulsP
  rcases rulP_tot h f i hi hf with ⟨w,p,j,e,h1,h2⟩ | ⟨a,b,e⟩
  ·rw [e]
   simp only []
   split
   ·simp
   ·exact rulsP_tot h f hf g _ j h2 (by omega)
  ·rw [e];simp
/-- Rules of words, or why there are none. -/
def readW (L:List Wd):Rs (List (Wd×Pt)):=match rulsP L (6 * L.length+4) (L.length+1) [] 0 with
 | some r=>r
 | none=>.err 0 0

/-! ### The nodes in a row -/
structure Rn where
 kind:Nat
 cl:List (UInt8×UInt8)
 tx:List UInt8
 lv:Int
 kids:List Nat
 at_:Nat
 nm:List UInt8
 deriving DecidableEq
mutual
def Pt.sz:Pt->Nat
 | .mk _ _ _ _ _ _ ks=>1+szL ks
def szL:List Pt->Nat
 | []=>0
 | k :: ks=>k.sz+szL ks
end
def kidsAt:Nat->List Pt->List Nat
 | _,[]=>[]
 | n,k :: ks=>n :: kidsAt (n+k.sz) ks
mutual
def flat:Nat->Pt->List Rn
 | n,.mk k cl tx lv a nm ks=>⟨k,cl,tx,lv,kidsAt (n+1) ks,a,nm⟩ :: flatL (n+1) ks
def flatL:Nat->List Pt->List Rn
 | _,[]=>[]
 | n,k :: ks=>flat n k ++ flatL (n+k.sz) ks
end
mutual
theorem flat_len:∀ (n:Nat) (p:Pt),(flat n p).length=p.sz
 | n,.mk k cl tx lv a nm ks=>by
  unfold flat Pt.sz
  rw [List.length_cons,flatL_len (n+1) ks];omega
theorem flatL_len:∀ (n:Nat) (ks:List Pt),(flatL n ks).length=szL ks
 | n,[]=>by unfold flatL szL;rfl
 | n,k :: ks=>by
  unfold flatL szL
  rw [List.length_append,flat_len n k,flatL_len (n+k.sz) ks]
end
theorem sz_pos:∀ p:Pt,1<=p.sz
 | .mk ..=>by unfold Pt.sz;omega
/-- A rule of a tree that was read: its name, its body, its place. -/
structure Rr where
 nm:List UInt8
 body:Nat
 at_:Nat
 deriving DecidableEq
/-- The rules and nodes from number n on. -/
def treeF:Nat->List (Wd×Pt)->List Rr×List Rn
 | _,[]=>([],[])
 | n,(w,p) :: r=>(⟨w.tx,n,w.at_⟩ :: (treeF (n+p.sz) r).1,flat n p ++ (treeF (n+p.sz) r).2)
/-- What a text is read as: rules and nodes; or why not, and where. -/
def readT (l:List UInt8):(List Rr×List Rn)×Nat×Nat:=match (wordsOf l).2 with
 | some p=>(([],[]),7,p)
 | none=>match readW (wordsOf l).1 with
  | .ok x _=>(treeF 0 x,0,0)
  | .err e a=>(([],[]),e,a)
end Go.Proofs.YtgjhepblpdnkcaaGreatDoor
namespace Go.Proofs.YtgjhepblpdnkcaaGreatDoor

theorem wordR_sign {l:List UInt8} {r:Wr} (h:wordR l=some r) (hk:r.kind=5):r.tx=[60,45]∨∃ c ∈ sgs,r.tx=[c]:=by
 cases l with
 | nil=>simp only [wordR,Option.some.injEq] at h;subst h;cases hk
 | cons c t=>
  simp only [wordR] at h
  split at h
  ·simp only [Option.some.injEq] at h;subst h
   unfold nameW at hk
   split at hk
   ·split at hk <;> cases hk
   ·cases hk
  ·split at h
   ·cases hq:qd t.length t with
    | none=>rw [hq] at h;cases h
    | some q=>rw [hq] at h;simp only [Option.map_some,Option.some.injEq] at h;subst h;cases hk
   ·split at h
    ·cases hq:cd t.length t with
     | none=>rw [hq] at h;cases h
     | some q=>rw [hq] at h;simp only [Option.map_some,Option.some.injEq] at h;subst h;cases hk
    ·split at h
     ·simp only [Option.some.injEq] at h;subst h;exact .inl rfl
     ·split at h
      ·rename_i hc
       simp only [Option.some.injEq] at h;subst h
       exact .inr ⟨c,by simpa using hc,rfl⟩
      ·cases h
theorem nextW_sign {l:List UInt8} {k:Nat} {w:Wd} (h:nextW l k=some w) (hk:w.kind=5):w.tx=[60,45]∨∃ c ∈ sgs,w.tx=[c]:=by
 unfold nextW at h
 cases hr:wordR (l.drop (k+skp false (l.drop k))) with
 | none=>rw [hr] at h;cases h
 | some r=>
  rw [hr] at h
  simp only [Option.map_some,Option.some.injEq] at h
  subst h
  exact wordR_sign hr hk
/-- From where it stands on, a word is found where it stands. -/
theorem nextW_self {l:List UInt8} {k:Nat} {w:Wd} (h:nextW l k=some w) (hk:k<=l.length):nextW l w.at_=some w:=by
 obtain ⟨h1,_⟩:=nextW_some h hk
 have h2:=skp_idem (l.drop k) false
 rw [List.drop_drop] at h2
 rw [h1]
 unfold nextW at h ⊢
 rw [h2]
 exact h
/-- What holds of the words of a text. -/
structure WsAt (l:List UInt8) (k:Nat) (ws:List Wd):Prop where
 pos:0 < ws.length
 at_:∀ i (hi:i < ws.length),k<=ws[i].at_/\ws[i].at_<=l.length/\nextW l ws[i].at_=some ws[i]/\(ws[i].kind=1 ↔ i+1=ws.length)/\1<=ws[i].kind/\ws[i].kind<=5/\(ws[i].kind=5->ws[i].tx=[60,45]∨∃ c ∈ sgs,ws[i].tx=[c])/\(ws[i].kind=1 ↔ ws[i].at_=l.length)
 up:∀ i (hi:i+1 < ws.length),ws[i].at_ < ws[i].nx/\ws[i].nx<=ws[i+1].at_
theorem chain_at {l:List UInt8}:∀ (ws:List Wd) (k:Nat),k<=l.length->Chain l k ws->WsAt l k ws
 | [],k,hk,h=>h.elim
 | w :: ws,k,hk,⟨hw,hc⟩=>by
  obtain ⟨h1,h2,h3,h4,h5,h6,h7,h8⟩:=nextW_some hw hk
  have h0:=nextW_self hw hk
  rcases hc with ⟨hc,rfl⟩ | ⟨hc,hr⟩
  ·refine ⟨by simp,fun i hi=>?_,fun i hi=>by simp at hi⟩
   have:i=0:=by simpa using hi
   subst this
   exact ⟨h2,by show w.at_<=l.length;omega,h0,⟨fun _=>rfl,fun _=>hc⟩,h5,h6,fun e=>nextW_sign hw e,h8⟩
  ·have ih:=chain_at ws w.nx h4 hr
   have hne:w.at_ ≠ w.nx:=fun e=>hc (h7.1 e.symm)
   refine ⟨by simp,fun i hi=>?_,fun i hi=>?_⟩
   ·cases i with
    | zero=>
     have:=ih.pos
     exact ⟨h2,by show w.at_<=l.length;omega,h0,⟨fun e=>absurd e hc,fun e=>by rw [List.length_cons] at e;omega⟩,h5,h6,fun e=>nextW_sign hw e,h8⟩
    | succ i=>
     have hi':i < ws.length:=by simpa using hi
     obtain ⟨g1,g2,g3,g4,g5⟩:=ih.at_ i hi'
     simp only [List.getElem_cons_succ,List.length_cons]
     exact ⟨by omega,g2,g3,g4.trans (by omega),g5⟩
   ·cases i with
    | zero=>
     have hi':0 < ws.length:=by simpa using hi
     have:=(ih.at_ 0 hi').1
     exact ⟨by show w.at_ < w.nx;omega,by simp only [List.getElem_cons_zero,List.getElem_cons_succ];exact this⟩
    | succ i=>
     have:=ih.up i (by simpa using hi)
     simp only [List.getElem_cons_succ]
     exact this
theorem words_at {l:List UInt8} (h:(wordsOf l).2=none):WsAt l 0 (wordsOf l).1:=
 chain_at _ _ (Nat.zero_le _) (wordsF_ok _ _ (Nat.zero_le _) (by omega) h)
theorem wdAt_in {L:List Wd} {i:Nat} (hi:i < L.length):wdAt L i=L[i]:=by
 unfold wdAt;rw [List.getD_eq_getElem?_getD,List.getElem?_eq_getElem hi];rfl
theorem WsAt.ok {l:List UInt8} {k:Nat} {L:List Wd} (h:WsAt l k L):WsOk L where
 pos:=h.pos
 en i hi:=by rw [wdAt_in hi];exact (h.at_ i hi).2.2.2.1
 kd i hi:=by rw [wdAt_in hi];exact ⟨(h.at_ i hi).2.2.2.2.1,(h.at_ i hi).2.2.2.2.2.1⟩
 sg i hi:=by rw [wdAt_in hi];exact (h.at_ i hi).2.2.2.2.2.2.1

/-! ### An item: signs, a part, and what is behind it -/
/-- The kind that a sign ahead makes. -/
def aheadK (w:Wd):Nat:=if w.tx=[33] then 11 else 12
def wrapB (L:List Wd) (i:Nat):Nat->Pt->Pt
 | 0,p=>p
 | n+1,p=>ovr (aheadK (wdAt L i)) (wdAt L i).at_ (wrapB L (i+1) n p)
/-- What comes of a part, with what stands about it. -/
def itmR (L:List Wd) (i n:Nat):Rs Pt->Rs Pt
 | .ok p j=>.ok (wrapB L i n (sufF L L.length p j).1) (sufF L L.length p j).2
 | .err e a=>.err e a
theorem item_sgn {L:List Wd} (h:WsOk L) {d:Nat}:∀ (f i:Nat) (acc:List Pt) (r:Rs Pt),i < L.length->prs L f .item acc i d=some r->
  ∃ (n f':Nat) (q:Rs Pt),f' < f/\i+n < L.length/\(∀ k,k < n->(hereW L (i+k) [33] || hereW L (i+k) [38])=true)/\(hereW L (i+n) [33] || hereW L (i+n) [38])=false/\prs L f' .prim [] (i+n) d=some q/\r=itmR L i n q
 | 0,i,acc,r,hi,e=>by simp [prs] at e
 | f+1,i,acc,r,hi,e=>by
  simp only [prs] at e
  have rec_:∀ (K:Nat),(hereW L i [33] || hereW L i [38])=true->aheadK (wdAt L i)=K->∀ r',prs L f .item [] (i+1) d=some r'->i+1 < L.length->
    r=(match r' with | .ok p j=>.ok (ovr K (wdAt L i).at_ p) j | .err a b=>.err a b)->
    ∃ (n f':Nat) (q:Rs Pt),f' < f+1/\i+n < L.length/\(∀ k,k < n->(hereW L (i+k) [33] || hereW L (i+k) [38])=true)/\(hereW L (i+n) [33] || hereW L (i+n) [38])=false/\prs L f' .prim [] (i+n) d=some q/\r=itmR L i n q:=by
   intro K hh hK r' er hi1 hr
   obtain ⟨n,f',q,h1,h2,h3,h4,h5,h6⟩:=item_sgn h f (i+1) [] r' hi1 er
   refine ⟨n+1,f',q,by omega,by omega,fun k hk=>?_,by rw [← h4];congr 2 <;> omega,by rw [← h5];congr 1;omega,?_⟩
   ·cases k with
    | zero=>exact hh
    | succ k=>have:=h3 k (by omega);rw [show i+(k+1)=i+1+k by omega];exact this
   ·rw [hr,h6]
    cases q with
    | err a b=>rfl
    | ok p j=>simp only [itmR,wrapB,hK]
  by_cases hh:hereW L i [33]=true
  ·rw [if_pos hh] at e
   have hi1:=h.after hi hh
   cases hq:prs L f .item [] (i+1) d with
   | none=>rw [hq] at e;cases e
   | some r'=>
    rw [hq] at e
    refine rec_ 11 (by rw [hh];rfl) (by unfold aheadK;rw [(here_kind hh).2];rfl) r' hq hi1 ?_
    cases r' <;> simpa using e.symm
  ·rw [if_neg hh] at e
   by_cases hh2:hereW L i [38]=true
   ·rw [if_pos hh2] at e
    have hi1:=h.after hi hh2
    cases hq:prs L f .item [] (i+1) d with
    | none=>rw [hq] at e;cases e
    | some r'=>
     rw [hq] at e
     refine rec_ 12 (by rw [hh2];simp) (by unfold aheadK;rw [(here_kind hh2).2];rfl) r' hq hi1 ?_
     cases r' <;> simpa using e.symm
   ·rw [if_neg hh2] at e
    cases hq:prs L f .prim [] i d with
    | none=>rw [hq] at e;cases e
    | some q=>
     rw [hq] at e
     refine ⟨0,f,q,by omega,by omega,fun k hk=>absurd hk (by omega),by simp at hh hh2;simp [hh,hh2],by simpa using hq,?_⟩
     cases q <;> simpa [itmR,wrapB] using e.symm
end Go.Proofs.YtgjhepblpdnkcaaGreatDoor
