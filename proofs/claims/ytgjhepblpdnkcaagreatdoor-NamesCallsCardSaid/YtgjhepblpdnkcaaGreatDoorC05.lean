/- Walks and plain laws: YI2 YI3 YI4 YI5 Zd Ze. -/
import Derived.Test.YtgjhepblpdnkcaaGreatDoorC04
import Derived.Deep.CutBlock
import Derived.Test.YtgjhepblpdnkcaaGreatDoorM18
namespace Go.Proofs.YtgjhepblpdnkcaaGreatDoor
open Go.RowKit
set_option maxRecDepth 100000
set_option maxHeartbeats 4000000

theorem blkI5 (Q0:Exit->Act->World->Prop) (w:World) (B k lg lc gg:Nat) (hK:k<=1000) (hlc1:k<=lc) (hlc2:lc<=9223372036854775807) (R G:Nat->Value) (n:Nat->Nat) (Z:Nat->List Int) (L:List Value) {c1 c2 c3 c4 c6 c7 c8 c10 c11 c12 c13 c14 c15 c16 c17 c18 c19 c20 c21 c22 c23 c24 c25 c26 c27 c28 c29 c30 c31 c32 c33 c34 c35 c36 c37 c38 c39 c40 c41 c42 c43 c44 c45 c46 c47 c48 c49 c50 c51 c52 c53 c54 c55 c56 c57 c58 c59 c60 c61 c62 c63 c64 c65 c66 c67 c68 c69 c70 c71 c72 c73 c74 c75 c76 c77 c78 c79 c80 c81 c82 c83 c84 c85 c86 c87 c88 c89 c90 c91 c92 c93 c94 c95 c96 c97 c98 c99 c100 c101 c102 c103 c104 c105 c106 c107 c108 c109 c110 c111 c112 c113 c114 c115 c116 c117 c118 c119 c120 c121 c122 c123 c124 c125 c126 c127 c128 c129 c130 c131 c132 c133 c134 c135 c136 c137 c138 c139 c140 c141 c142 c143 c144 c145 c146 c147 c148 c149 c150 c151 c152 c153 c154 c155 c156 c157 c158 c159 c160 c161 c162 c163 c164 c165 c166 c167 c168 c169 c170 c171 c172 c173 c174 c175 c176 c177 c178 c179 c180 c181 c182 c183 c184 c185 c186 c187 c188 c189 c190 c191 c192:Value} (wo:World) (μ:Int->Int->Int) (HMk:Hid (MiB μ)) (HN:Hid (∀ k',k' < k->n k'<=5000)) (HS:Hid (Fg icf 3 26 1 w wo B k lg lc gg R n (fun k'=>mrowI μ k' (n k')) k G Z k L/\∀ j',j' < k->Z j'=mrowI μ j' (n j'+64)))
  (hexit:∀ (u2 u9 u10 u73 u74 u75 u76 u77 u78 u79 u80 u81 u82 u83 u84 u85 u86 u87 u88 u89 u90 u91 u92 u93 u94 u95 u96 u97 u98 u99 u100 u101 u102 u103 u104 u105 u106 u107 u108 u109 u110 u111 u112 u113 u114 u115 u116 u117 u118 u119 u120 u121 u122:Value) (w':World),Hid (Below wo.heap.size wo w')->Q0 .normal ⟨#[.slice (some ⟨lg,0,none⟩) k lc,c1,u2,c3,c4,.slice (some ⟨gg,0,none⟩) k k,c6,c7,c8,u9,u10,c11,c12,c13,c14,c15,c16,c17,c18,c19,c20,c21,c22,c23,c24,c25,c26,c27,c28,c29,c30,c31,c32,c33,c34,c35,c36,c37,c38,c39,c40,c41,c42,c43,c44,c45,c46,c47,c48,c49,c50,c51,c52,c53,c54,c55,c56,c57,c58,c59,c60,c61,c62,c63,c64,c65,c66,c67,c68,c69,c70,c71,c72,u73,u74,u75,u76,u77,u78,u79,u80,u81,u82,u83,u84,u85,u86,u87,u88,u89,u90,u91,u92,u93,u94,u95,u96,u97,u98,u99,u100,u101,u102,u103,u104,u105,u106,u107,u108,u109,u110,u111,u112,u113,u114,u115,u116,u117,u118,u119,u120,u121,u122,c123,c124,c125,c126,c127,c128,c129,c130,c131,c132,c133,c134,c135,c136,c137,c138,c139,c140,c141,c142,c143,c144,c145,c146,c147,c148,c149,c150,c151,c152,c153,c154,c155,c156,c157,c158,c159,c160,c161,c162,c163,c164,c165,c166,c167,c168,c169,c170,c171,c172,c173,c174,c175,c176,c177,c178,c179,c180,c181,c182,c183,c184,c185,c186,c187,c188,c189,c190,c191,c192],[]⟩ w'):
  Code.wp Tryz.prog (blkI 8) Q0 ⟨#[.slice (some ⟨lg,0,none⟩) k lc,c1,c2,c3,c4,.slice (some ⟨gg,0,none⟩) k k,c6,c7,c8,.int .i64 0,c10,c11,c12,c13,c14,c15,c16,c17,c18,c19,c20,c21,c22,c23,c24,c25,c26,c27,c28,c29,c30,c31,c32,c33,c34,c35,c36,c37,c38,c39,c40,c41,c42,c43,c44,c45,c46,c47,c48,c49,c50,c51,c52,c53,c54,c55,c56,c57,c58,c59,c60,c61,c62,c63,c64,c65,c66,c67,c68,c69,c70,c71,c72,c73,c74,c75,c76,c77,c78,c79,c80,c81,c82,c83,c84,c85,c86,c87,c88,c89,c90,c91,c92,c93,c94,c95,c96,c97,c98,c99,c100,c101,c102,c103,c104,c105,c106,c107,c108,c109,c110,c111,c112,c113,c114,c115,c116,c117,c118,c119,c120,c121,c122,c123,c124,c125,c126,c127,c128,c129,c130,c131,c132,c133,c134,c135,c136,c137,c138,c139,c140,c141,c142,c143,c144,c145,c146,c147,c148,c149,c150,c151,c152,c153,c154,c155,c156,c157,c158,c159,c160,c161,c162,c163,c164,c165,c166,c167,c168,c169,c170,c171,c172,c173,c174,c175,c176,c177,c178,c179,c180,c181,c182,c183,c184,c185,c186,c187,c188,c189,c190,c191,c192],[]⟩ wo:=by
 conv=>arg 2;whnf
 have HSB:=Lib.hid (fun w' (hb:Below wo.heap.size wo w')=>HS.out.1.below hb)
 have HZ:=Lib.hid HS.out.2
 clear HS
 go_wp2_with fail
 go_loopw [9] (fun i wr=>∃ a:Nat,a<=k/\i=.int .i64 a/\Hid (Below wo.heap.size wo wr)) (fun i _=>k - (intOf i).toNat)
 case atStart=>exact ⟨0,by omega,rfl,Below.refl _ _⟩
 case round=>
  obtain ⟨a,ha,rfl,HBa⟩:=hrel
  obtain ⟨wo3,rfl⟩:∃ wo3:World,wo3=wr:=⟨_,rfl⟩
  by_cases hat:a < k
  ·have hat':(a:Int) < k:=by omega
   have hna:=HN.out a hat
   have hZl:(Z a).length=n a+64:=by rw [HZ.out a hat,mrowI_len]
   obtain ⟨go,gcap,hGv,hgb1,hgb2⟩:=(HSB.out wo3 HBa.out).val (k:=a) hat
   rw [hZl] at hGv hgb1
   have HGv:=Lib.hid hGv;clear hGv
   have HZa:=Lib.hid (HZ.out a hat)
   have HZl:=Lib.hid hZl;clear hZl
   obtain ⟨ra,rcap,hRv,_,hrb1,hrb2⟩:=(HSB.out wo3 HBa.out).fl.row hat
   have HRv:=Lib.hid hRv;clear hRv
   generalize hnn:n a=na at *
   have HNN:=Lib.hid hnn;clear hnn
   have HCg:Hid (∀ w',Below wo.heap.size wo w'->w'.cell? ⟨gg,a,none⟩=some (.slice go (na+64) gcap)):=fun w' hb=>by
    obtain ⟨go',gcap',h1,h2,_⟩:=(HSB.out w' hb).grow (k:=a) hat
    rw [h2,← h1,HGv.out]
   have HCl:Hid (∀ w',Below wo.heap.size wo w'->w'.cell? ⟨lg,a,none⟩=some (.slice ra na rcap)):=fun w' hb=>by
    obtain ⟨ra',rcap',h1,h2,_⟩:=(HSB.out w' hb).fl.row hat
    rw [h2,← h1,HRv.out]
   go_wp2_with fail
   go_loopw [10] (fun c wi=>∃ i:Nat,i<=na+64/\c=.int .i64 i/\Hid (Below wo.heap.size wo wi)) (fun c _=>na+64 - (intOf c).toNat)
   case atStart=>exact ⟨0,by omega,rfl,HBa⟩
   case round=>
    obtain ⟨i,hi,rfl,HBi⟩:=hrel
    have hcg:=HCg.out wr HBi.out
    by_cases hit:i < na+64
    ·have hit':(i:Int) < (na:Int)+64:=by omega
     obtain ⟨g1,c1,hG1,hE1,_⟩:=(HSB.out wr HBi.out).growElem icf_len (k:=a) (i:=i) hat (by rw [HZl.out];exact hit) (x:=μ a i) (by rw [HZa.out];exact mrowI_get μ a _ i hit)
     rw [HZl.out,HGv.out] at hG1
     simp only [Value.slice.injEq] at hG1
     obtain ⟨rfl,_,rfl⟩:=hG1
     have HE1:=Lib.hid hE1;clear hE1
     have later:∀ (p:Addr) (v:Value),wr.cell? p=some v->∀ y:Later wr,y.val.cell? p=some v:=fun p v h y=>(y.ok.cell (World.block_lt_of_cell? wr _ h)).trans h
     have y0:=later _ _ hcg
     have e0:∀ y:Later wr,y.val.cell? ⟨g1,i,none⟩=some (.int .i64 (μ a i)):=later _ _ (by have h:=HE1.out 0 (by decide);rw [Nat.mul_one,Nat.add_zero] at h;exact h)
     have HM:=Lib.hid (fun y:Later wr=>HMk.out y.val a i (by omega) (by omega) (by omega) (by omega))
     have hcl:=HCl.out wr HBi.out
     have y1:=later _ _ hcl
     by_cases hin:i < na
     ·as_aux_lemma=>
      have hin':(i:Int) < na:=by omega
      have t1:decide (i < na)=true:=decide_eq_true hin
      obtain ⟨g2,c2,hR2,hE2,_⟩:=(HSB.out wr HBi.out).fl.elemX icf_len hat (i:=i) (by rw [HNN.out];exact hin) (x:=μ a i) (mrowI_get μ a _ i (by rw [HNN.out];exact hin))
      rw [HNN.out,HRv.out] at hR2
      simp only [Value.slice.injEq] at hR2
      obtain ⟨rfl,_,rfl⟩:=hR2
      have HE2:=Lib.hid hE2;clear hE2
      have k0:∀ y:Later wr,y.val.cell? ⟨g2,i,none⟩=some (.int .i64 (μ a i)):=later _ _ (by have h:=HE2.out 0 (by decide);rw [Nat.mul_one,Nat.add_zero] at h;exact h)
      clear later
      go_wp2_with fail
      refine wp_region_later (by kernel_rfl) (by kernel_rfl) ?_
      repeat (go_big_quiet_step ((go_at_call 100;exact Calls.later (HM.out _))))
      refine wpQuiet_nil ?_
      intro w5 hw5
      obtain ⟨y,rfl⟩:=hw5
      have HB5:=Lib.hid (HBi.out.trans (y.ok.mono HBi.out.size))
      clear y0 y1 e0 k0 HM
      generalize y.val=w5 at *
      go_wp2_with fail
      go_roundw
      case rel=>exact ⟨i+1,by omega,by go_num,HB5⟩
      case measure=>simp [intOf];omega
     ·as_aux_lemma=>
      have t1:decide (i < na)=false:=decide_eq_false hin
      clear later
      go_wp2_with fail
      refine wp_region_later (by kernel_rfl) (by kernel_rfl) ?_
      repeat (go_big_quiet_step ((go_at_call 100;exact Calls.later (HM.out _))))
      refine wpQuiet_nil ?_
      intro w5 hw5
      obtain ⟨y,rfl⟩:=hw5
      have HB5:=Lib.hid (HBi.out.trans (y.ok.mono HBi.out.size))
      clear y0 y1 e0 HM
      generalize y.val=w5 at *
      go_wp2_with fail
      go_roundw
      case rel=>exact ⟨i+1,by omega,by go_num,HB5⟩
      case measure=>simp [intOf];omega
    ·have hge:(na:Int)+64<=i:=by omega
     go_wp2_with fail
     go_roundw
     case rel=>exact ⟨a+1,by omega,by go_num,HBi⟩
     case measure=>simp [intOf];omega
  ·obtain rfl:k=a:=by omega
   clear HSB HZ
   go_wp2_with fail
   exact HBa
end Go.Proofs.YtgjhepblpdnkcaaGreatDoor
namespace Go.Proofs.YtgjhepblpdnkcaaGreatDoor
open Go.RowKit
set_option maxRecDepth 100000
set_option maxHeartbeats 4000000

theorem blkI12 (Q0:Exit->Act->World->Prop) (w:World) (B k lg lc gg:Nat) (hK:k<=1000) (hlc1:k<=lc) (hlc2:lc<=9223372036854775807) (R G0:Nat->Value) (n:Nat->Nat) (Z0:Nat->List Int) (L0:List Value) {c1 c2 c3 c4 c6 c7 c8 c9 c10 c12 c13 c14 c15 c16 c17 c18 c19 c20 c21 c22 c23 c24 c25 c26 c27 c28 c29 c30 c31 c32 c33 c34 c35 c36 c37 c38 c39 c40 c41 c42 c43 c44 c45 c46 c47 c48 c49 c50 c51 c52 c53 c54 c55 c56 c57 c58 c59 c60 c61 c62 c63 c64 c65 c66 c67 c68 c69 c70 c71 c72 c73 c74 c75 c76 c77 c78 c79 c80 c81 c82 c83 c84 c85 c86 c87 c88 c89 c90 c91 c92 c93 c94 c95 c96 c97 c98 c99 c100 c101 c102 c103 c104 c105 c106 c107 c108 c109 c110 c111 c112 c113 c114 c115 c116 c117 c118 c119 c120 c121 c122 c123 c124 c125 c126 c127 c128 c129 c130 c131 c132 c133 c134 c135 c136 c137 c138 c139 c140 c141 c142 c143 c144 c145 c146 c147 c148 c149 c150 c151 c152 c153 c154 c155 c156 c157 c158 c159 c160 c161 c162 c163 c164 c165 c166 c167 c168 c169 c170 c171 c172 c173 c174 c175 c176 c177 c178 c179 c180 c181 c182 c183 c184 c185 c186 c187 c188 c189 c190 c191 c192:Value} (wo:World) (μ:Int->Int->Int) (HMk:Hid (MiB μ)) (HN:Hid (∀ k',k' < k->n k'<=5000)) (HS0:Hid (Fg icf 3 26 1 w wo B k lg lc gg R n (fun k'=>mrowI μ k' (n k')) 0 G0 Z0 0 L0))
  (hexit:∀ (u11 u12 u13 u123 u124 u125 u126 u127 u128 u129 u130 u131 u132 u133 u134 u135 u136 u137 u138 u139 u140 u141 u142 u143 u144 u145 u146 u147 u148 u149 u150 u151:Value) (w':World),Hid (∃ (G:Nat->Value) (Z:Nat->List Int) (L:List Value),Fg icf 3 26 1 w w' B k lg lc gg R n (fun k'=>mrowI μ k' (n k')) k G Z k L/\∀ a,a < k->Z a=mrowI μ a (n a) ++ mrowI μ (a+k) 64)->Q0 .normal ⟨#[.slice (some ⟨lg,0,none⟩) k lc,c1,c2,c3,c4,.slice (some ⟨gg,0,none⟩) k k,c6,c7,c8,c9,c10,u11,u12,u13,c14,c15,c16,c17,c18,c19,c20,c21,c22,c23,c24,c25,c26,c27,c28,c29,c30,c31,c32,c33,c34,c35,c36,c37,c38,c39,c40,c41,c42,c43,c44,c45,c46,c47,c48,c49,c50,c51,c52,c53,c54,c55,c56,c57,c58,c59,c60,c61,c62,c63,c64,c65,c66,c67,c68,c69,c70,c71,c72,c73,c74,c75,c76,c77,c78,c79,c80,c81,c82,c83,c84,c85,c86,c87,c88,c89,c90,c91,c92,c93,c94,c95,c96,c97,c98,c99,c100,c101,c102,c103,c104,c105,c106,c107,c108,c109,c110,c111,c112,c113,c114,c115,c116,c117,c118,c119,c120,c121,c122,u123,u124,u125,u126,u127,u128,u129,u130,u131,u132,u133,u134,u135,u136,u137,u138,u139,u140,u141,u142,u143,u144,u145,u146,u147,u148,u149,u150,u151,c152,c153,c154,c155,c156,c157,c158,c159,c160,c161,c162,c163,c164,c165,c166,c167,c168,c169,c170,c171,c172,c173,c174,c175,c176,c177,c178,c179,c180,c181,c182,c183,c184,c185,c186,c187,c188,c189,c190,c191,c192],[]⟩ w'):
  Code.wp Tryz.prog (blkI 12) Q0 ⟨#[.slice (some ⟨lg,0,none⟩) k lc,c1,c2,c3,c4,.slice (some ⟨gg,0,none⟩) k k,c6,c7,c8,c9,c10,.int .i64 0,c12,c13,c14,c15,c16,c17,c18,c19,c20,c21,c22,c23,c24,c25,c26,c27,c28,c29,c30,c31,c32,c33,c34,c35,c36,c37,c38,c39,c40,c41,c42,c43,c44,c45,c46,c47,c48,c49,c50,c51,c52,c53,c54,c55,c56,c57,c58,c59,c60,c61,c62,c63,c64,c65,c66,c67,c68,c69,c70,c71,c72,c73,c74,c75,c76,c77,c78,c79,c80,c81,c82,c83,c84,c85,c86,c87,c88,c89,c90,c91,c92,c93,c94,c95,c96,c97,c98,c99,c100,c101,c102,c103,c104,c105,c106,c107,c108,c109,c110,c111,c112,c113,c114,c115,c116,c117,c118,c119,c120,c121,c122,c123,c124,c125,c126,c127,c128,c129,c130,c131,c132,c133,c134,c135,c136,c137,c138,c139,c140,c141,c142,c143,c144,c145,c146,c147,c148,c149,c150,c151,c152,c153,c154,c155,c156,c157,c158,c159,c160,c161,c162,c163,c164,c165,c166,c167,c168,c169,c170,c171,c172,c173,c174,c175,c176,c177,c178,c179,c180,c181,c182,c183,c184,c185,c186,c187,c188,c189,c190,c191,c192],[]⟩ wo:=by
 conv=>arg 2;whnf
 go_wp2_with fail
 go_loopw [11] (fun i wr=>∃ (a:Nat) (G:Nat->Value) (Z:Nat->List Int) (L:List Value),a<=k/\i=.int .i64 a/\Hid (Fg icf 3 26 1 w wr B k lg lc gg R n (fun k'=>mrowI μ k' (n k')) a G Z a L/\∀ a',a' < a->Z a'=mrowI μ a' (n a') ++ mrowI μ (a'+k) 64)) (fun i _=>k - (intOf i).toNat)
 case atStart=>exact ⟨0,G0,Z0,L0,by omega,rfl,HS0.out,fun a' ha'=>absurd ha' (by omega)⟩
 case round=>
  clear HS0
  obtain ⟨a,G,Z,L,ha,rfl,HS⟩:=hrel
  by_cases hat:a < k
  ·have hat':(a:Int) < k:=by omega
   obtain ⟨i0,hi,hz0,hz1,hz2⟩:=info_parts infoIn
   have Hi:=Lib.hid hi;have Hz0:=Lib.hid hz0;have Hz1:=Lib.hid hz1;have HBy:Hid (i0.bytes * 64<=281474976710656):=by unfold Hid;rw [hz2];omega
   clear hi hz0 hz1 hz2
   go_wp2_with (first
    | (at_make;refine wpList_make_full _ rfl _ _ 26 rfl wr.heap.size 3 i0 _ 1 Tryz.underlying26 Hi.out Hz0.out Hz1.out _ _ _ _ 64 rfl rfl rfl rfl HBy.out (by decide) (Nat.le_refl _) ?_;intro w6 hown6 hg6;have HO6:Hid (Own wr w6 3 1 (.slice (some ⟨wr.heap.size,0,none⟩) 64 64) 64 ((List.replicate 64 (0:Int)).flatMap icf)):=⟨zerosI ▸ hown6,((Below.refl wr.heap.size wr).grown hg6 (Nat.le_refl _) (by simp))⟩;clear hown6 hg6))
   clear Hi Hz0 Hz1 HBy
   obtain ⟨wa,rfl⟩:∃ wa:World,wa=wr:=⟨_,rfl⟩
   generalize wa.heap.size=gm at HO6
   go_loopw [13] (fun c wi=>∃ (i:Nat) (M:List Int),i<=64/\c=.int .i64 i/\Hid (Own wa wi 3 1 (.slice (some ⟨gm,0,none⟩) 64 64) 64 (M.flatMap icf)/\M.length=64/\∀ i',i' < i->M[i']?=some (μ ((a:Int)+k) i'))) (fun c _=>64 - (intOf c).toNat)
   case atStart=>exact ⟨0,_,by omega,rfl,HO6.out,by simp,fun i' hi'=>absurd hi' (by omega)⟩
   case round=>
    clear HO6
    obtain ⟨i,M,hi,rfl,HI⟩:=hrel
    by_cases hit:i < 64
    ·have hit':(i:Int) < 64:=by omega
     have HM:=Lib.hid (HMk.out wr ((a:Int)+k) i (by omega) (by omega) (by omega) (by omega))
     go_wp2_with fail
     refine HM.out.mono ?_
     rintro e w7 ⟨rfl,hb7⟩
     have HI7:=Lib.hid (HI.out.1.below hb7)
     clear HM hb7
     obtain ⟨x0,hx0⟩:∃ x,M[i]?=some x:=⟨M[i]'(by have:=HI.out.2.1;omega),List.getElem?_eq_getElem _⟩
     have hce:∀ j,j < 1->w7.cell? ⟨gm,i * 1+j,none⟩=(icf x0)[j]?/\w7.frozen? ⟨gm,i * 1+j,none⟩=false:=fun j hj=>by
      refine ⟨?_,HI7.out.1.frozenAt _⟩
      rw [HI7.out.1.cellAt (i * 1+j) (by omega),fl_get icf_len M i j (by have:=HI.out.2.1;omega) hj]
      have:=(List.getElem?_eq_some_iff.1 hx0).2
      rw [this]
     have HCe:=Lib.hid hce;clear hce
     have e0:w7.cell? ⟨gm,i,none⟩=some (.int .i64 x0):=(by have h:=(HCe.out 0 (by decide)).1;rw [Nat.mul_one,Nat.add_zero] at h;exact h)
     have f0:w7.frozen? ⟨gm,i,none⟩=false:=(by have h:=(HCe.out 0 (by decide)).2;rw [Nat.mul_one,Nat.add_zero] at h;exact h)
     have HP:=Lib.hid (HI7.out.putI HI.out.2.1 hit (μ ((a:Int)+k) i))
     clear HCe HI7 hx0
     go_wp2_with fail
     go_roundw
     case rel=>
      refine ⟨i+1,M.set i (μ ((a:Int)+k) i),by omega,by go_num,HP.out,by rw [List.length_set];exact HI.out.2.1,fun i' hi'=>?_⟩
      rw [List.getElem?_set]
      by_cases e:i=i'
      ·subst e;rw [if_pos rfl,if_pos (by have:=HI.out.2.1;omega)]
      ·rw [if_neg e];exact HI.out.2.2 i' (by omega)
     case measure=>simp [intOf];omega
    ·have hie:i=64:=by omega
     have hMe:M=mrowI μ (a+k) 64:=mrowI_of HI.out.2.1 (fun j hj=>by have:=HI.out.2.2 j (by omega);rw [this];simp)
     have HO7:=Lib.hid (hMe ▸ HI.out.1)
     have HG7:=Lib.hid ((HS.out.1.below HI.out.1.2).next hat)
     have HZ:=Lib.hid HS.out.2
     clear hie hMe
     obtain ⟨ra,rcap,hR,hc0,hrc1,hrc2⟩:=HG7.out.fl.row hat
     have hna:=HN.out a hat
     have HSv:Hid (Sv wr (some ⟨gm,0,none⟩) 64 64 1 ((mrowI μ (a+k) 64).flatMap icf)):=by
      obtain ⟨ao,cap,hv,hs⟩:=HO7.out.sv
      cases hv;exact hs
     have HOc:=Lib.hid (icf_one (mrowI μ (a+k) 64))
     have HOw:Hid (wr.ownsRow B 3 1 (.slice ra (n a) rcap) (mrowI μ a (n a)).length ((mrowI μ a (n a)).flatMap icf)):=by
      have:=HG7.out.fl.two.own1 a hat
      rw [hR] at this;exact this
     have HLn:Hid (((mrowI μ a (n a)).length+64) * 8<=140737488355328/\(mrowI μ a (n a)).length+64<=maxLen):=by unfold Hid maxLen;rw [mrowI_len];omega
     have HR:=Lib.hid hR;clear hR
     have HAp:Hid (∀ v8 w8,AppTo wr B 3 1 (.slice ra (n a) rcap) (mrowI μ a (n a)).length ((mrowI μ a (n a)).flatMap icf) 64 ((mrowI μ (a+k) 64).flatMap icf) v8 w8->
       ∃ go gcap,v8=.slice go (n a+64) gcap/\Fg icf 3 26 1 w w8 B k lg lc gg R n (fun k'=>mrowI μ k' (n k')) (a+1) (upd G a v8) (upd Z a (mrowI μ a (n a) ++ mrowI μ (a+k) 64)) a L/\(∃ u,w8.cell? ⟨gg,a,none⟩=some u)/\w8.frozen? ⟨gg,a,none⟩=false):=fun v8 w8 hA=>by
      have h1:=(HG7.out.app (by decide) icf_len (by decide) (ys:=mrowI μ (a+k) 64) (v':=v8) (w':=w8) (by rw [upd_same,upd_same,HR.out,mrowI_len μ (a+k)];exact hA)).1
      rw [upd_upd,upd_upd,upd_same] at h1
      obtain ⟨go,gcap,hv,_⟩:=h1.val (k:=a) (by omega)
      rw [upd_same,upd_same,List.length_append,mrowI_len,mrowI_len] at hv
      refine ⟨go,gcap,hv,h1,⟨L[a]'(by have:=h1.gs.1;omega),?_⟩,h1.gs.frozenAt a⟩
      rw [h1.gs.cellAt a (by omega),List.getElem?_eq_getElem]
     clear HG7
     generalize hnn:n a=na at *
     have HNN:=Lib.hid hnn;clear hnn
     go_wp2_with (first
      | (at_builtin;refine wpList_appf _ B rfl (.tmp 148) (.tmp 149) 26 3 rfl elemI _ _ _ rfl HOw.out _ 64 64 _ rfl HSv.out HOc.out (by decide) HLn.out ?_;intro v8 w8 hA;obtain ⟨go,gcap,hv8,hfg,⟨u0,hu0⟩,hf0⟩:=HAp.out v8 w8 hA;have HF:=Lib.hid hfg;subst hv8;clear hA hfg))
     have HSt:=Lib.hid (HF.out.set (by decide)).1
     rw [upd_same] at HSt
     go_roundw
     case rel=>
      refine ⟨a+1,_,_,_,by omega,by go_num,HSt.out,fun a' ha'=>?_⟩
      by_cases e:a'=a
      ·subst e;rw [upd_same,HNN.out]
      ·rw [upd_other _ _ e];exact HZ.out a' (by omega)
     case measure=>simp [intOf];omega
  ·obtain rfl:k=a:=by omega
   have HE:Hid (∃ (G:Nat->Value) (Z:Nat->List Int) (L:List Value),Fg icf 3 26 1 w wr B k lg lc gg R n (fun k'=>mrowI μ k' (n k')) k G Z k L/\∀ a,a < k->Z a=mrowI μ a (n a) ++ mrowI μ (a+k) 64):=⟨G,Z,L,HS.out⟩
   clear HS
   go_wp2_with fail
   exact HE
end Go.Proofs.YtgjhepblpdnkcaaGreatDoor
namespace Go.Proofs.YtgjhepblpdnkcaaGreatDoor
open Go.RowKit
set_option maxRecDepth 100000
set_option maxHeartbeats 4000000

theorem blkI16 (Q0:Exit->Act->World->Prop) (w:World) (B k lg lc gg:Nat) (hK:k<=1000) (hlc1:k<=lc) (hlc2:lc<=9223372036854775807) (R G:Nat->Value) (n:Nat->Nat) (Z:Nat->List Int) (L:List Value) {c1 c2 c3 c4 c6 c7 c8 c9 c10 c11 c12 c13 c15 c16 c17 c18 c19 c20 c21 c22 c23 c24 c25 c26 c27 c28 c29 c30 c31 c32 c33 c34 c35 c36 c37 c38 c39 c40 c41 c42 c43 c44 c45 c46 c47 c48 c49 c50 c51 c52 c53 c54 c55 c56 c57 c58 c59 c60 c61 c62 c63 c64 c65 c66 c67 c68 c69 c70 c71 c72 c73 c74 c75 c76 c77 c78 c79 c80 c81 c82 c83 c84 c85 c86 c87 c88 c89 c90 c91 c92 c93 c94 c95 c96 c97 c98 c99 c100 c101 c102 c103 c104 c105 c106 c107 c108 c109 c110 c111 c112 c113 c114 c115 c116 c117 c118 c119 c120 c121 c122 c123 c124 c125 c126 c127 c128 c129 c130 c131 c132 c133 c134 c135 c136 c137 c138 c139 c140 c141 c142 c143 c144 c145 c146 c147 c148 c149 c150 c151 c152 c153 c154 c155 c156 c157 c158 c159 c160 c161 c162 c163 c164 c165 c166 c167 c168 c169 c170 c171 c172 c173 c174 c175 c176 c177 c178 c179 c180 c181 c182 c183 c184 c185 c186 c187 c188 c189 c190 c191 c192:Value} (wo:World) (μ:Int->Int->Int) (HMk:Hid (MiB μ)) (HN:Hid (∀ k',k' < k->n k'<=5000)) (HS:Hid (Fg icf 3 26 1 w wo B k lg lc gg R n (fun k'=>mrowI μ k' (n k')) k G Z k L/\∀ a,a < k->Z a=mrowI μ a (n a) ++ mrowI μ (a+k) 64))
  (hexit:∀ (u2 u14 u15 u152 u153 u154 u155 u156 u157 u158 u159 u160 u161 u162 u163 u164 u165 u166 u167 u168 u169 u170 u171 u172 u173 u174 u175 u176 u177 u178 u179 u180 u181 u182 u183 u184 u185 u186 u187 u188 u189 u190 u191 u192:Value) (w':World),Hid (Below wo.heap.size wo w')->Q0 .normal ⟨#[.slice (some ⟨lg,0,none⟩) k lc,c1,u2,c3,c4,.slice (some ⟨gg,0,none⟩) k k,c6,c7,c8,c9,c10,c11,c12,c13,u14,u15,c16,c17,c18,c19,c20,c21,c22,c23,c24,c25,c26,c27,c28,c29,c30,c31,c32,c33,c34,c35,c36,c37,c38,c39,c40,c41,c42,c43,c44,c45,c46,c47,c48,c49,c50,c51,c52,c53,c54,c55,c56,c57,c58,c59,c60,c61,c62,c63,c64,c65,c66,c67,c68,c69,c70,c71,c72,c73,c74,c75,c76,c77,c78,c79,c80,c81,c82,c83,c84,c85,c86,c87,c88,c89,c90,c91,c92,c93,c94,c95,c96,c97,c98,c99,c100,c101,c102,c103,c104,c105,c106,c107,c108,c109,c110,c111,c112,c113,c114,c115,c116,c117,c118,c119,c120,c121,c122,c123,c124,c125,c126,c127,c128,c129,c130,c131,c132,c133,c134,c135,c136,c137,c138,c139,c140,c141,c142,c143,c144,c145,c146,c147,c148,c149,c150,c151,u152,u153,u154,u155,u156,u157,u158,u159,u160,u161,u162,u163,u164,u165,u166,u167,u168,u169,u170,u171,u172,u173,u174,u175,u176,u177,u178,u179,u180,u181,u182,u183,u184,u185,u186,u187,u188,u189,u190,u191,u192],[]⟩ w'):
  Code.wp Tryz.prog (blkI 16) Q0 ⟨#[.slice (some ⟨lg,0,none⟩) k lc,c1,c2,c3,c4,.slice (some ⟨gg,0,none⟩) k k,c6,c7,c8,c9,c10,c11,c12,c13,.int .i64 0,c15,c16,c17,c18,c19,c20,c21,c22,c23,c24,c25,c26,c27,c28,c29,c30,c31,c32,c33,c34,c35,c36,c37,c38,c39,c40,c41,c42,c43,c44,c45,c46,c47,c48,c49,c50,c51,c52,c53,c54,c55,c56,c57,c58,c59,c60,c61,c62,c63,c64,c65,c66,c67,c68,c69,c70,c71,c72,c73,c74,c75,c76,c77,c78,c79,c80,c81,c82,c83,c84,c85,c86,c87,c88,c89,c90,c91,c92,c93,c94,c95,c96,c97,c98,c99,c100,c101,c102,c103,c104,c105,c106,c107,c108,c109,c110,c111,c112,c113,c114,c115,c116,c117,c118,c119,c120,c121,c122,c123,c124,c125,c126,c127,c128,c129,c130,c131,c132,c133,c134,c135,c136,c137,c138,c139,c140,c141,c142,c143,c144,c145,c146,c147,c148,c149,c150,c151,c152,c153,c154,c155,c156,c157,c158,c159,c160,c161,c162,c163,c164,c165,c166,c167,c168,c169,c170,c171,c172,c173,c174,c175,c176,c177,c178,c179,c180,c181,c182,c183,c184,c185,c186,c187,c188,c189,c190,c191,c192],[]⟩ wo:=by
 conv=>arg 2;whnf
 have HSB:=Lib.hid (fun w' (hb:Below wo.heap.size wo w')=>HS.out.1.below hb)
 have HZ:=Lib.hid HS.out.2
 clear HS
 go_wp2_with fail
 go_loopw [14] (fun i wr=>∃ a:Nat,a<=k/\i=.int .i64 a/\Hid (Below wo.heap.size wo wr)) (fun i _=>k - (intOf i).toNat)
 case atStart=>exact ⟨0,by omega,rfl,Below.refl _ _⟩
 case round=>
  obtain ⟨a,ha,rfl,HBa⟩:=hrel
  obtain ⟨wo3,rfl⟩:∃ wo3:World,wo3=wr:=⟨_,rfl⟩
  by_cases hat:a < k
  ·have hat':(a:Int) < k:=by omega
   have hna:=HN.out a hat
   have hZl:(Z a).length=n a+64:=by rw [HZ.out a hat,List.length_append,mrowI_len,mrowI_len]
   obtain ⟨go,gcap,hGv,hgb1,hgb2⟩:=(HSB.out wo3 HBa.out).val (k:=a) hat
   rw [hZl] at hGv hgb1
   have HGv:=Lib.hid hGv;clear hGv
   have HZa:=Lib.hid (HZ.out a hat)
   have HZl:=Lib.hid hZl;clear hZl
   obtain ⟨ra,rcap,hRv,_,hrb1,hrb2⟩:=(HSB.out wo3 HBa.out).fl.row hat
   have HRv:=Lib.hid hRv;clear hRv
   generalize hnn:n a=na at *
   have HNN:=Lib.hid hnn;clear hnn
   have HCg:Hid (∀ w',Below wo.heap.size wo w'->w'.cell? ⟨gg,a,none⟩=some (.slice go (na+64) gcap)):=fun w' hb=>by
    obtain ⟨go',gcap',h1,h2,_⟩:=(HSB.out w' hb).grow (k:=a) hat
    rw [h2,← h1,HGv.out]
   have HCl:Hid (∀ w',Below wo.heap.size wo w'->w'.cell? ⟨lg,a,none⟩=some (.slice ra na rcap)):=fun w' hb=>by
    obtain ⟨ra',rcap',h1,h2,_⟩:=(HSB.out w' hb).fl.row hat
    rw [h2,← h1,HRv.out]
   go_wp2_with fail
   go_loopw [15] (fun c wi=>∃ i:Nat,i<=na/\c=.int .i64 i/\Hid (Below wo.heap.size wo wi)) (fun c _=>na - (intOf c).toNat)
   case atStart=>exact ⟨0,by omega,rfl,HBa⟩
   case round=>
    obtain ⟨i,hi,rfl,HBi⟩:=hrel
    have hcl:=HCl.out wr HBi.out
    by_cases hin:i < na
    ·have hin':(i:Int) < na:=by omega
     have hit':(i:Int) < (na:Int)+64:=by omega
     obtain ⟨g1,c1,hG1,hE1,_⟩:=(HSB.out wr HBi.out).growElem icf_len (k:=a) (i:=i) hat (by rw [HZl.out];omega) (x:=μ a i) (by rw [HZa.out,List.getElem?_append_left (by rw [mrowI_len μ (a)];exact hin)];exact mrowI_get μ a _ i hin)
     rw [HZl.out,HGv.out] at hG1
     simp only [Value.slice.injEq] at hG1
     obtain ⟨rfl,_,rfl⟩:=hG1
     have HE1:=Lib.hid hE1;clear hE1
     have later:∀ (p:Addr) (v:Value),wr.cell? p=some v->∀ y:Later wr,y.val.cell? p=some v:=fun p v h y=>(y.ok.cell (World.block_lt_of_cell? wr _ h)).trans h
     have y0:=later _ _ (HCg.out wr HBi.out)
     have e0:∀ y:Later wr,y.val.cell? ⟨g1,i,none⟩=some (.int .i64 (μ a i)):=later _ _ (by have h:=HE1.out 0 (by decide);rw [Nat.mul_one,Nat.add_zero] at h;exact h)
     have HM:=Lib.hid (fun y:Later wr=>HMk.out y.val a i (by omega) (by omega) (by omega) (by omega))
     have y1:=later _ _ hcl
     obtain ⟨g2,c2,hR2,hE2,_⟩:=(HSB.out wr HBi.out).fl.elemX icf_len hat (i:=i) (by rw [HNN.out];exact hin) (x:=μ a i) (mrowI_get μ a _ i (by rw [HNN.out];exact hin))
     rw [HNN.out,HRv.out] at hR2
     simp only [Value.slice.injEq] at hR2
     obtain ⟨rfl,_,rfl⟩:=hR2
     have HE2:=Lib.hid hE2;clear hE2
     have k0:∀ y:Later wr,y.val.cell? ⟨g2,i,none⟩=some (.int .i64 (μ a i)):=later _ _ (by have h:=HE2.out 0 (by decide);rw [Nat.mul_one,Nat.add_zero] at h;exact h)
     clear later
     go_wp2_with fail
     refine wp_region_later (by kernel_rfl) (by kernel_rfl) ?_
     repeat (go_big_quiet_step ((go_at_call 100;exact Calls.later (HM.out _))))
     refine wpQuiet_nil ?_
     intro w5 hw5
     obtain ⟨y,rfl⟩:=hw5
     have HB5:=Lib.hid (HBi.out.trans (y.ok.mono HBi.out.size))
     clear y0 y1 e0 k0 HM
     generalize y.val=w5 at *
     go_wp2_with fail
     go_roundw
     case rel=>exact ⟨i+1,by omega,by go_num,HB5⟩
     case measure=>simp [intOf];omega
    ·have hge:(na:Int)<=i:=by omega
     go_wp2_with fail
     go_roundw
     case rel=>exact ⟨a+1,by omega,by go_num,HBi⟩
     case measure=>simp [intOf];omega
  ·obtain rfl:k=a:=by omega
   clear HSB HZ
   go_wp2_with fail
   exact HBa
end Go.Proofs.YtgjhepblpdnkcaaGreatDoor
namespace Go.Proofs.YtgjhepblpdnkcaaGreatDoor
open Go.RowKit
set_option maxRecDepth 100000
set_option maxHeartbeats 4000000

theorem flatI_some (μ:Int->Int->Int) (HMk:Hid (MiB μ)) (w:World) (B K lg lc:Nat) (hK:K<=1000) (hK0:0 < K) (R:Nat->Value) (n:Nat->Nat) (Y:Nat->List Int) (h:Fl icf 3 26 1 w w B K lg lc R n Y 0 R Y) (hn:∀ k,k < K->n k<=5000):
  Calls Tryz.prog 105 #[.slice (some ⟨lg,0,none⟩) K lc] w fun r w'=>r=.returned (.bool true)/\Fr (fun b=>∃ i,i < K/\(R i).ownBlock=some b) w w':=by
 have hlc:K<=lc/\lc<=9223372036854775807:=by
  obtain ⟨ao,cap,hv,hs⟩:=Sv.of_owns h.ls
  cases hv
  exact hs.bound
 obtain ⟨hlc1,hlc2⟩:=hlc
 have H0:=Lib.hid h;have HN:=Lib.hid hn
 clear h hn
 go_enter Tryz.func105,Tryz.ntmps105
 go_wp2_with fail
 go_loopw [3,4] (fun i j wr=>∃ (k:Nat) (Y':Nat->List Int),k<=K/\i=.int .i64 k/\Hid (Fl icf 3 26 1 w wr B K lg lc R n Y' 0 R Y/\∀ k',k' < k->Y' k'=mrowI μ k' (n k'))) (fun i _ _=>K - (intOf i).toNat)
 case atStart=>exact ⟨0,Y,by omega,rfl,H0.out,fun k' hk'=>absurd hk' (by omega)⟩
 case round=>
  obtain ⟨k,Y',hk,rfl,HS⟩:=hrel
  obtain ⟨wo,rfl⟩:∃ wo:World,wo=wr:=⟨_,rfl⟩
  by_cases hlt:k < K
  ·have hlt':(k:Int) < K:=by omega
   go_wp2_with fail
   go_loopw [4] (fun j wi=>∃ (i:Nat) (Y2:Nat->List Int),i<=n k/\j=.int .i64 i/\Hid (Fl icf 3 26 1 w wi B K lg lc R n Y2 0 R Y/\(∀ k',k' < k->Y2 k'=mrowI μ k' (n k'))/\∀ i',i' < i->(Y2 k)[i']?=some (μ k i'))) (fun j _=>n k - (intOf j).toNat)
   case atStart=>exact ⟨0,Y',by omega,rfl,HS.out.1,HS.out.2,fun i' hi'=>absurd hi' (by omega)⟩
   case round=>
    obtain ⟨i,Y2,hi,rfl,HI⟩:=hrel
    have hnk:=HN.out k hlt
    obtain ⟨ra,rcap,hR,hc0,hrc1,hrc2⟩:=HI.out.1.row hlt
    have HR:=Lib.hid hR;clear hR
    by_cases hit:i < n k
    ·have hit':(i:Int) < n k:=by omega
     obtain ⟨g,cap,x0,hR2,hx0,hel,hBg,hgw⟩:=HI.out.1.elem icf_len hlt hit
     clear hx0
     have:=HR.out.symm.trans hR2
     simp only [Value.slice.injEq] at this
     obtain ⟨rfl,_,rfl⟩:=this
     clear hR2
     have HEl:=Lib.hid hel;clear hel
     have HHi:=Lib.hid hnk
     generalize hnn:n k=nk at *
     have HNN:=Lib.hid hnn;clear hnn
     have HB:=Lib.hid HI.out.1.size
     have hcy:∀ y:Later wr,y.val.cell? ⟨lg,k,none⟩=some (.slice (some ⟨g,0,none⟩) nk rcap):=fun y=>(y.ok.cell (World.block_lt_of_cell? wr _ hc0)).trans hc0
     have HM:=Lib.hid (fun y:Later wr=>HMk.out y.val k i (by omega) (by omega) (by omega) (by omega))
     go_wp2_with fail
     refine wp_region_later_tail 9 (by kernel_rfl) (by kernel_rfl) ?_
     simp only [List.take_succ_cons,List.take_zero,List.drop_succ_cons,List.drop_zero]
     repeat (go_big_quiet_step ((go_at_call 100;exact Calls.later (HM.out _))))
     refine wpQuiet_nil ?_
     intro w5 hw5
     obtain ⟨y,rfl⟩:=hw5
     have HI5:=Lib.hid (HI.out.1.below (by omega) y.ok)
     clear hcy HM
     have HEy:=Lib.hid (fun j hj=>(⟨(y.ok.cell (p:=⟨g,i * 1+j,none⟩) hgw).trans (HEl.out j hj).1,(y.ok.frozen (p:=⟨g,i * 1+j,none⟩) hgw).trans (HEl.out j hj).2⟩:_/\_))
     generalize y.val=w5 at *
     have e0:w5.cell? ⟨g,i,none⟩=some (.int .i64 x0):=(by have h:=(HEy.out 0 (by decide)).1;rw [Nat.mul_one,Nat.add_zero] at h;exact h)
     have f0:w5.frozen? ⟨g,i,none⟩=false:=(by have h:=(HEy.out 0 (by decide)).2;rw [Nat.mul_one,Nat.add_zero] at h;exact h)
     have HP:=Lib.hid (HI5.out.putI hlt (i:=i) (by rw [HNN.out];exact hit) (by rw [HNN.out];exact HR.out) (μ k i))
     go_wp2_with fail
     go_roundw
     case rel=>
      refine ⟨i+1,upd Y2 k ((Y2 k).set i (μ k i)),by omega,by go_num,HP.out,fun k' hk'=>?_,fun i' hi'=>?_⟩
      ·rw [upd_other _ _ (by omega)];exact HI.out.2.1 k' hk'
      ·rw [upd_same,List.getElem?_set]
       have hl:=HI.out.1.len k hlt
       rw [HNN.out] at hl
       by_cases e:i=i'
       ·subst e;rw [if_pos rfl,if_pos (by omega)]
       ·rw [if_neg e];exact HI.out.2.2 i' (by omega)
     case measure=>simp [intOf];omega
    ·have hge:(n k:Int)<=i:=by omega
     have hin:i=n k:=by omega
     have HIN:=Lib.hid hin;clear hin
     go_wp2_with fail
     go_roundw
     case rel=>
      refine ⟨k+1,Y2,by omega,by go_num,HI.out.1,fun k' hk'=>?_⟩
      by_cases e:k'=k
      ·subst e
       exact mrowI_of (HI.out.1.len _ hlt) (fun j hj=>HI.out.2.2 j (by have:=HIN.out;omega))
      ·exact HI.out.2.1 k' (by omega)
     case measure=>simp [intOf];omega
  ·obtain rfl:k=K:=by omega
   have HS2:Hid (Fl icf 3 26 1 w wo B k lg lc R n (fun k'=>mrowI μ k' (n k')) 0 R (fun k'=>mrowI μ k' (n k'))):=HS.out.1.congr HS.out.2 _ _
   clear HS H0
   obtain ⟨i0,hi,hz0,hz1,hz2⟩:=info_parts infoLI
   have Hi:=Lib.hid hi;have Hz0:=Lib.hid hz0;have Hz1:=Lib.hid hz1;have HBy:Hid (i0.bytes * k<=281474976710656):=by unfold Hid;rw [hz2];omega
   have HKm:Hid (k<=maxLen):=by unfold Hid maxLen;omega
   clear hi hz0 hz1 hz2
   go_wp2_with (first
    | (at_make;refine wpList_make_full _ rfl _ _ 95 rfl B 26 i0 _ 1 Tryz.underlying95 Hi.out Hz0.out Hz1.out _ _ _ _ k rfl rfl rfl rfl HBy.out HKm.out HS2.out.size ?_;intro w6 hown6 hg6;have HO6:=Lib.hid hown6;have HB6:=Lib.hid (((Below.refl wo.heap.size wo).grown hg6 (Nat.le_refl _) (by simp)));clear hown6 hg6))
   have HG:Hid (Fg icf 3 26 1 w w6 B k lg lc wo.heap.size R n (fun k'=>mrowI μ k' (n k')) 0 R (fun k'=>mrowI μ k' (n k')) 0 _):=
    ⟨HS2.out.below (Nat.zero_le _) HB6.out,HO6.out,fun i hi=>absurd hi (by omega),by have:=(HS2.out.ls.lt lg rfl).2;omega,Nat.zero_le _,HS2.out.fr.size⟩
   clear HO6 HB6 HS2 Hi Hz0 Hz1 HBy HKm
   generalize (madeCells _ _).toList=L0 at HG
   generalize wo.heap.size=gg at *
   go_loopw [6] (fun i wr=>∃ (j:Nat) (G:Nat->Value) (Z:Nat->List Int) (L:List Value),j<=k/\i=.int .i64 j/\Hid (Fg icf 3 26 1 w wr B k lg lc gg R n (fun k'=>mrowI μ k' (n k')) j G Z j L/\∀ j',j' < j->Z j'=mrowI μ j' (n j'+64))) (fun i _=>k - (intOf i).toNat)
   case atStart=>exact ⟨0,R,_,L0,by omega,rfl,HG.out,fun j' hj'=>absurd hj' (by omega)⟩
   case round=>
    clear HG
    obtain ⟨j,G,Z,L,hj,rfl,HS⟩:=hrel
    obtain ⟨wo2,rfl⟩:∃ wo2:World,wo2=wr:=⟨_,rfl⟩
    by_cases hjt:j < k
    ·have hjt':(j:Int) < k:=by omega
     obtain ⟨ra,rcap,hR,hc0,hrc1,hrc2⟩:=HS.out.1.fl.row hjt
     have hnk:=HN.out j hjt
     have HR:=Lib.hid hR;clear hR
     generalize hnn:n j=nj at *
     have HNN:=Lib.hid hnn;clear hnn
     have HS1:=Lib.hid (HS.out.1.next hjt)
     have HZ:=Lib.hid HS.out.2
     clear HS
     go_wp2_with fail
     clear hc0
     go_loopw [7,8] (fun v c wi=>∃ (i:Nat) (G2:Nat->Value) (Z2:Nat->List Int),i<=64/\c=.int .i64 i/\v=G2 j/\Hid (Fg icf 3 26 1 w wi B k lg lc gg R n (fun k'=>mrowI μ k' (n k')) (j+1) G2 Z2 j L/\(∀ j',j' < j->Z2 j'=mrowI μ j' (n j'+64))/\Z2 j=mrowI μ j (nj+i))) (fun _ c _=>64 - (intOf c).toNat)
     case atStart=>exact ⟨0,upd G j (R j),upd Z j (mrowI μ j (n j)),by omega,rfl,by rw [upd_same,HR.out],HS1.out,fun j' hj'=>by rw [upd_other _ _ (by omega)];exact HZ.out j' hj',by rw [upd_same,HNN.out];rfl⟩
     case round=>
      clear HS1 HZ
      obtain ⟨i,G2,Z2,hi,rfl,rfl,HI⟩:=hrel
      by_cases hit:i < 64
      ·have hit':(i:Int) < 64:=by omega
       have hc1:wr.cell? ⟨lg,j,none⟩=some (.slice ra nj rcap):=by
        obtain ⟨ra',rcap',hR',hc',_⟩:=HI.out.1.fl.row hjt
        rw [HNN.out] at hR' hc'
        rw [hc',← hR',HR.out]
       have HM:=Lib.hid (HMk.out wr j ((nj:Int)+i) (by omega) (by omega) (by omega) (by omega))
       go_wp2_with fail
       refine HM.out.mono ?_
       rintro e w7 ⟨rfl,hb7⟩
       have HI7:=Lib.hid (HI.out.1.below hb7)
       clear HM hb7 hc1
       have HIa:=Lib.hid (HI7.out.below ((Below.refl w7.heap.size w7).alloc (Nat.le_refl _) (.cells #[.int .i64 (μ j ((nj:Int)+i))] 3)))
       have HSv:Hid (Sv (w7.alloc (.cells #[.int .i64 (μ j ((nj:Int)+i))] 3)) (some ⟨w7.heap.size,0,none⟩) 1 1 1 ([μ j ((nj:Int)+i)].flatMap icf)):=Sv.lit w7 3 #[.int .i64 (μ j ((nj:Int)+i))] 1 1 (by decide) rfl
       have HOc:=Lib.hid (icf_one [μ j ((nj:Int)+i)])
       have hzl:(Z2 j).length=nj+i:=by rw [HI.out.2.2,mrowI_len]
       have HLn:Hid (((Z2 j).length+1) * 8<=140737488355328/\(Z2 j).length+1<=maxLen):=by unfold Hid maxLen;omega
       clear hzl
       go_wp2_with (first
        | (at_builtin;refine wpList_appf _ B rfl _ _ 26 3 rfl elemI (G2 j) _ _ rfl (HIa.out.fl.two.own2 j (by omega)) _ 1 1 _ rfl HSv.out HOc.out (by decide) HLn.out ?_;intro v8 w8 hA;have HA:=Lib.hid (HIa.out.app (by decide) icf_len (by decide) (ys:=[μ j ((nj:Int)+i)]) hA).1;clear hA))
       go_roundw
       case rel=>exact ⟨i+1,upd G2 j v8,upd Z2 j (Z2 j ++ [μ j ((nj:Int)+i)]),by omega,by go_num,by rw [upd_same],HA.out,fun j' hj'=>by rw [upd_other _ _ (by omega)];exact HI.out.2.1 j' hj',by rw [upd_same,HI.out.2.2,mrowI_snoc]⟩
       case measure=>simp [intOf];omega
      ·have hie:i=64:=by omega
       have HIE:=Lib.hid hie;clear hie
       obtain ⟨go,gcap,hGv,hgb1,hgb2⟩:=HI.out.1.val (k:=j) (by omega)
       have hzl:(Z2 j).length=nj+64:=by rw [HI.out.2.2,mrowI_len,HIE.out]
       have hLj:∃ u,L[j]?=some u:=⟨L[j]'(by have:=HI.out.1.gs.1;omega),List.getElem?_eq_getElem _⟩
       obtain ⟨u0,hu0⟩:=hLj
       have hcg:wr.cell? ⟨gg,j,none⟩=some u0:=(HI.out.1.gs.cellAt j (by omega)).trans hu0
       have hfg:wr.frozen? ⟨gg,j,none⟩=false:=HI.out.1.gs.frozenAt j
       have HSt:=Lib.hid (HI.out.1.set (by decide)).1
       have HGv:=Lib.hid hGv
       rw [hGv] at HSt
       rw [hGv]
       clear hGv hu0 hzl
       go_wp2_with fail
       go_roundw
       case rel=>
        refine ⟨j+1,G2,Z2,L.set j (.slice go (Z2 j).length gcap),by omega,by go_num,HSt.out,fun j' hj'=>?_⟩
        by_cases e:j'=j
        ·subst e;rw [HI.out.2.2,HIE.out,HNN.out]
        ·exact HI.out.2.1 j' (by omega)
       case measure=>simp [intOf];omega
    ·obtain rfl:k=j:=by omega
     go_upto_block 8 with (fail)
     refine blkI5 _ w B k lg lc gg hK hlc1 hlc2 R G n Z L wo2 μ HMk HN HS ?_
     iterate 53 (intro _)
     intro w7 HB7
     have HS7:=Lib.hid (HS.out.1.below HB7.out).none
     clear HS HB7
     go_upto_block 12 with (fail)
     refine blkI12 _ w B k lg lc gg hK hlc1 hlc2 R G n Z L w7 μ HMk HN HS7 ?_
     iterate 32 (intro _)
     intro w8 HE
     obtain ⟨G8,Z8,L8,hE⟩:=HE.out
     have HS8:=Lib.hid hE
     clear hE HE HS7
     go_upto_block 16 with (fail)
     refine blkI16 _ w B k lg lc gg hK hlc1 hlc2 R G8 n Z8 L8 w8 μ HMk HN HS8 ?_
     iterate 44 (intro _)
     intro w9 HB9
     have HB:=Lib.hid (HS8.out.1.fl.fr.trans (Fr.of_below (F:=fun _=>False) HB9.out) (fun _ _ h=>h.elim))
     clear HS8 HB9
     go_wp2_with fail
     go_ret
     exact ⟨rfl,HB.out⟩
end Go.Proofs.YtgjhepblpdnkcaaGreatDoor
namespace Go.Proofs.YtgjhepblpdnkcaaGreatDoor
open Go.RowKit
set_option maxRecDepth 100000
set_option maxHeartbeats 8000000

/-- The bag. -/
def bagV (vi vn vr vg:Value):Array Value:=#[.slice none 0 0,.slice none 0 0,vi,.slice none 0 0,.slice none 0 0,.slice none 0 0,.slice none 0 0,.slice none 0 0,vn,vr,.slice none 0 0,vg,.slice none 0 0,.slice none 0 0]
theorem hrow_owns {w:World} {gb B e s n:Nat} {cs:Array Value} {t:TypeId} {v:Value} {xs:List Value} (h:hrow w gb cs t) (ho:w.ownsRow B e s v n xs) (ht:t ≠ e):v.ownBlock ≠ some gb:=by
 intro hv
 rcases ho.2 with ⟨rfl,_⟩ | ⟨g,c,cur,rfl,_,h1,_⟩
 ·cases hv
 ·simp only [Value.ownBlock,Option.some.injEq] at hv
  subst hv
  rw [h.h] at h1
  cases h1
  exact ht rfl
def uni (FI FN FR FG:Nat->Prop):Nat->Prop:=fun b=>FI b∨FN b∨FR b∨FG b
theorem apart_gen (w:World) (gb:Nat) (vi vn vr vg:Value) (FI FN FR FG:Nat->Prop) (QI QN QR QG:World->Prop) (hr:hrow w gb (bagV vi vn vr vg) 132) (hI:QI w) (hN:QN w) (hRq:QR w) (hG:QG w)
  (CI:∀ v,QI v->Calls Tryz.prog 105 #[vi] v fun r w'=>r=.returned (.bool true)/\Fr FI v w')
  (CN:∀ v,QN v->Calls Tryz.prog 111 #[vn] v fun r w'=>r=.returned (.bool true)/\Fr FN v w')
  (CR:∀ v,QR v->Calls Tryz.prog 112 #[vr] v fun r w'=>r=.returned (.bool true)/\Fr FR v w')
  (CG:∀ v,QG v->Calls Tryz.prog 114 #[vg] v fun r w'=>r=.returned (.bool true)/\Fr FG v w')
  (SI:∀ v v',QI v->Fr (fun _=>False) v v'->QI v') (SN:∀ v v',QN v->Fr FI v v'->QN v') (SR:∀ v v',QR v->Fr (fun b=>FI b∨FN b) v v'->QR v') (SG:∀ v v',QG v->Fr (fun b=>FI b∨FN b∨FR b) v v'->QG v')
  (hgb:¬ FI gb/\¬ FN gb/\¬ FR gb/\¬ FG gb):
  Calls Tryz.prog 73 #[.pointer (some ⟨gb,0,none⟩)] w fun r w'=>r=.returned (.bool true)/\Fr (uni FI FN FR FG) w w':=by
 have HR:=Lib.hid hr;have HF:Hid (Fr (uni FI FN FR FG) w w):=Fr.refl _ _
 have HQI:=Lib.hid hI;have HQN:=Lib.hid hN;have HQR:=Lib.hid hRq;have HQG:=Lib.hid hG
 have HCI:=Lib.hid CI;have HCN:=Lib.hid CN;have HCR:=Lib.hid CR;have HCG:=Lib.hid CG
 have HSI:=Lib.hid SI;have HSN:=Lib.hid SN;have HSR:=Lib.hid SR;have HSG:=Lib.hid SG;have HGB:=Lib.hid hgb
 have c:w.cell? ⟨gb,0,none⟩=some (.slice none 0 0):=hr.cell 0
 clear hr hI hN hRq hG CI CN CR CG SI SN SR SG hgb
 go_enter Tryz.func73,Tryz.ntmps73
 go_wp2_with fail
 refine (flat50_none _).mono ?_
 rintro e wx ⟨rfl,hb⟩
 have hf0:Fr (fun _=>False) _ wx:=Fr.of_below hb
 have HF:=Lib.hid (HF.out.trans hf0 (fun _ _ h=>h.elim));have HR:=Lib.hid (HR.out.below hb);have HQI:=Lib.hid (HSI.out _ _ HQI.out hf0);have HQN:=Lib.hid (HSN.out _ _ HQN.out (hf0.weak (fun _ h=>h.elim)));have HQR:=Lib.hid (HSR.out _ _ HQR.out (hf0.weak (fun _ h=>h.elim)));have HQG:=Lib.hid (HSG.out _ _ HQG.out (hf0.weak (fun _ h=>h.elim)))
 clear hb hf0 c
 have c:wx.cell? ⟨gb,1,none⟩=some (.slice none 0 0):=HR.out.cell 1
 go_wp2_with fail
 refine (flat51_none _).mono ?_
 rintro e wx ⟨rfl,hb⟩
 have hf0:Fr (fun _=>False) _ wx:=Fr.of_below hb
 have HF:=Lib.hid (HF.out.trans hf0 (fun _ _ h=>h.elim));have HR:=Lib.hid (HR.out.below hb);have HQI:=Lib.hid (HSI.out _ _ HQI.out hf0);have HQN:=Lib.hid (HSN.out _ _ HQN.out (hf0.weak (fun _ h=>h.elim)));have HQR:=Lib.hid (HSR.out _ _ HQR.out (hf0.weak (fun _ h=>h.elim)));have HQG:=Lib.hid (HSG.out _ _ HQG.out (hf0.weak (fun _ h=>h.elim)))
 clear hb hf0 c
 have c:wx.cell? ⟨gb,2,none⟩=some (vi):=HR.out.cell 2
 go_wp2_with fail
 refine (HCI.out _ HQI.out).mono ?_
 rintro e wx ⟨rfl,hf⟩
 have HF:=Lib.hid (HF.out.trans (hf.weak (G:=uni FI FN FR FG) (fun _ h=>.inl h)) (fun _ _ h=>h));have HR:=Lib.hid (HR.out.fr hf (fun h=>by have h2:=HGB.out;exact h2.1 h));have HQN:=Lib.hid (HSN.out _ _ HQN.out hf);have HQR:=Lib.hid (HSR.out _ _ HQR.out (hf.weak (fun _ h=>.inl h)));have HQG:=Lib.hid (HSG.out _ _ HQG.out (hf.weak (fun _ h=>.inl h)))
 clear hf c
 have c:wx.cell? ⟨gb,3,none⟩=some (.slice none 0 0):=HR.out.cell 3
 go_wp2_with fail
 refine (flat53_none _).mono ?_
 rintro e wx ⟨rfl,hb⟩
 have hf0:Fr (fun _=>False) _ wx:=Fr.of_below hb
 have HF:=Lib.hid (HF.out.trans hf0 (fun _ _ h=>h.elim));have HR:=Lib.hid (HR.out.below hb);have HQN:=Lib.hid (HSN.out _ _ HQN.out (hf0.weak (fun _ h=>h.elim)));have HQR:=Lib.hid (HSR.out _ _ HQR.out (hf0.weak (fun _ h=>h.elim)));have HQG:=Lib.hid (HSG.out _ _ HQG.out (hf0.weak (fun _ h=>h.elim)))
 clear hb hf0 c
 have c:wx.cell? ⟨gb,4,none⟩=some (.slice none 0 0):=HR.out.cell 4
 go_wp2_with fail
 refine (flat54_none _).mono ?_
 rintro e wx ⟨rfl,hb⟩
 have hf0:Fr (fun _=>False) _ wx:=Fr.of_below hb
 have HF:=Lib.hid (HF.out.trans hf0 (fun _ _ h=>h.elim));have HR:=Lib.hid (HR.out.below hb);have HQN:=Lib.hid (HSN.out _ _ HQN.out (hf0.weak (fun _ h=>h.elim)));have HQR:=Lib.hid (HSR.out _ _ HQR.out (hf0.weak (fun _ h=>h.elim)));have HQG:=Lib.hid (HSG.out _ _ HQG.out (hf0.weak (fun _ h=>h.elim)))
 clear hb hf0 c
 have c:wx.cell? ⟨gb,5,none⟩=some (.slice none 0 0):=HR.out.cell 5
 go_wp2_with fail
 refine (flat55_none _).mono ?_
 rintro e wx ⟨rfl,hb⟩
 have hf0:Fr (fun _=>False) _ wx:=Fr.of_below hb
 have HF:=Lib.hid (HF.out.trans hf0 (fun _ _ h=>h.elim));have HR:=Lib.hid (HR.out.below hb);have HQN:=Lib.hid (HSN.out _ _ HQN.out (hf0.weak (fun _ h=>h.elim)));have HQR:=Lib.hid (HSR.out _ _ HQR.out (hf0.weak (fun _ h=>h.elim)));have HQG:=Lib.hid (HSG.out _ _ HQG.out (hf0.weak (fun _ h=>h.elim)))
 clear hb hf0 c
 have c:wx.cell? ⟨gb,6,none⟩=some (.slice none 0 0):=HR.out.cell 6
 go_wp2_with fail
 refine (flat56_none _).mono ?_
 rintro e wx ⟨rfl,hb⟩
 have hf0:Fr (fun _=>False) _ wx:=Fr.of_below hb
 have HF:=Lib.hid (HF.out.trans hf0 (fun _ _ h=>h.elim));have HR:=Lib.hid (HR.out.below hb);have HQN:=Lib.hid (HSN.out _ _ HQN.out (hf0.weak (fun _ h=>h.elim)));have HQR:=Lib.hid (HSR.out _ _ HQR.out (hf0.weak (fun _ h=>h.elim)));have HQG:=Lib.hid (HSG.out _ _ HQG.out (hf0.weak (fun _ h=>h.elim)))
 clear hb hf0 c
 have c:wx.cell? ⟨gb,7,none⟩=some (.slice none 0 0):=HR.out.cell 7
 go_wp2_with fail
 refine (flat57_none _).mono ?_
 rintro e wx ⟨rfl,hb⟩
 have hf0:Fr (fun _=>False) _ wx:=Fr.of_below hb
 have HF:=Lib.hid (HF.out.trans hf0 (fun _ _ h=>h.elim));have HR:=Lib.hid (HR.out.below hb);have HQN:=Lib.hid (HSN.out _ _ HQN.out (hf0.weak (fun _ h=>h.elim)));have HQR:=Lib.hid (HSR.out _ _ HQR.out (hf0.weak (fun _ h=>h.elim)));have HQG:=Lib.hid (HSG.out _ _ HQG.out (hf0.weak (fun _ h=>h.elim)))
 clear hb hf0 c
 have c:wx.cell? ⟨gb,8,none⟩=some (vn):=HR.out.cell 8
 go_wp2_with fail
 refine (HCN.out _ HQN.out).mono ?_
 rintro e wx ⟨rfl,hf⟩
 have HF:=Lib.hid (HF.out.trans (hf.weak (G:=uni FI FN FR FG) (fun _ h=>.inr (.inl h))) (fun _ _ h=>h));have HR:=Lib.hid (HR.out.fr hf (fun h=>by have h2:=HGB.out;exact h2.2.1 h));have HQR:=Lib.hid (HSR.out _ _ HQR.out (hf.weak (fun _ h=>.inr h)));have HQG:=Lib.hid (HSG.out _ _ HQG.out (hf.weak (fun _ h=>.inr (.inl h))))
 clear hf c
 have c:wx.cell? ⟨gb,9,none⟩=some (vr):=HR.out.cell 9
 go_wp2_with fail
 refine (HCR.out _ HQR.out).mono ?_
 rintro e wx ⟨rfl,hf⟩
 have HF:=Lib.hid (HF.out.trans (hf.weak (G:=uni FI FN FR FG) (fun _ h=>.inr (.inr (.inl h)))) (fun _ _ h=>h));have HR:=Lib.hid (HR.out.fr hf (fun h=>by have h2:=HGB.out;exact h2.2.2.1 h));have HQG:=Lib.hid (HSG.out _ _ HQG.out (hf.weak (fun _ h=>.inr (.inr h))))
 clear hf c
 have c:wx.cell? ⟨gb,10,none⟩=some (.slice none 0 0):=HR.out.cell 10
 go_wp2_with fail
 refine (flat60_none _).mono ?_
 rintro e wx ⟨rfl,hb⟩
 have hf0:Fr (fun _=>False) _ wx:=Fr.of_below hb
 have HF:=Lib.hid (HF.out.trans hf0 (fun _ _ h=>h.elim));have HR:=Lib.hid (HR.out.below hb);have HQG:=Lib.hid (HSG.out _ _ HQG.out (hf0.weak (fun _ h=>h.elim)))
 clear hb hf0 c
 have c:wx.cell? ⟨gb,11,none⟩=some (vg):=HR.out.cell 11
 go_wp2_with fail
 refine (HCG.out _ HQG.out).mono ?_
 rintro e wx ⟨rfl,hf⟩
 have HF:=Lib.hid (HF.out.trans (hf.weak (G:=uni FI FN FR FG) (fun _ h=>.inr (.inr (.inr h)))) (fun _ _ h=>h));have HR:=Lib.hid (HR.out.fr hf (fun h=>by have h2:=HGB.out;exact h2.2.2.2 h))
 clear hf c
 have c:wx.cell? ⟨gb,12,none⟩=some (.slice none 0 0):=HR.out.cell 12
 go_wp2_with fail
 refine (flat62_none _).mono ?_
 rintro e wx ⟨rfl,hb⟩
 have hf0:Fr (fun _=>False) _ wx:=Fr.of_below hb
 have HF:=Lib.hid (HF.out.trans hf0 (fun _ _ h=>h.elim));have HR:=Lib.hid (HR.out.below hb)
 clear hb hf0 c
 have c:wx.cell? ⟨gb,13,none⟩=some (.slice none 0 0):=HR.out.cell 13
 go_wp2_with fail
 refine (flat63_none _).mono ?_
 rintro e wx ⟨rfl,hb⟩
 have hf0:Fr (fun _=>False) _ wx:=Fr.of_below hb
 have HF:=Lib.hid (HF.out.trans hf0 (fun _ _ h=>h.elim));have HR:=Lib.hid (HR.out.below hb)
 clear hb hf0 c
 go_wp2_with fail
 go_ret
 exact ⟨rfl,HF.out⟩

end Go.Proofs.YtgjhepblpdnkcaaGreatDoor
namespace Go.Proofs.YtgjhepblpdnkcaaGreatDoor
open Go.RowKit
set_option maxRecDepth 100000
set_option maxHeartbeats 8000000

/-- Where there are none there is no row. -/
def NilB (v:Value) (L:List Value):Prop:=L=[]->v=.slice none 0 0
/-- The bag while it is filled. -/
structure BagI (w0:World) (gb:Nat) (LI LN LR LG:List Value) (wr:World):Prop where
 ex:∃ vi vn vr vg,hrow wr gb (bagV vi vn vr vg) 132/\wr.ownsRow gb 26 1 vi LI.length LI/\wr.ownsRow gb 23 1 vn LN.length LN/\wr.ownsRow gb 22 1 vr LR.length LR/\wr.ownsRow gb 67 1 vg LG.length LG/\NilB vi LI/\NilB vn LN/\NilB vr LR/\NilB vg LG
 bel:Below w0.heap.size w0 wr
 lo:w0.heap.size<=gb
theorem BagI.below {w0 wr w':World} {gb:Nat} {LI LN LR LG:List Value} (h:BagI w0 gb LI LN LR LG wr) (hb:Below wr.heap.size wr w'):BagI w0 gb LI LN LR LG w':=by
 obtain ⟨vi,vn,vr,vg,h1,h2,h3,h4,h5,h6⟩:=h.ex
 have hf:=Fr.of_below (F:=fun _=>False) hb
 exact ⟨⟨vi,vn,vr,vg,h1.below hb,owns_fr h2 hf (fun _ _ e=>e),owns_fr h3 hf (fun _ _ e=>e),owns_fr h4 hf (fun _ _ e=>e),owns_fr h5 hf (fun _ _ e=>e),h6⟩,h.bel.trans (hb.mono h.bel.size),h.lo⟩
/-- What an append to one of the bag's rows leaves. -/
theorem app_bag {w1 w8:World} {gb eL:Nat} {v v8:Value} {k:Nat} {xs:List Value} {u:Value} {cs:Array Value} (hr:hrow w1 gb cs 132) (he:132 ≠ eL) (hv:w1.ownsRow gb eL 1 v k xs) (hA:AppTo w1 gb eL 1 v k xs 1 [u] v8 w8):
  hrow w8 gb cs 132/\w8.ownsRow gb eL 1 v8 (k+1) (xs ++ [u])/\(∀ (e:Nat) (v':Value) (n:Nat) (ys:List Value),e ≠ eL->w1.ownsRow gb e 1 v' n ys->w8.ownsRow gb e 1 v' n ys)/\∀ B,B<=gb->B<=w1.heap.size->Below B w1 w8:=by
 rcases hA with ⟨g,cap,e1,e2,hf,ho,_⟩ | ho
 ·have hg:=(hv.lt g (by rw [e1];rfl)).1
  refine ⟨hr.fr hf (fun e=>?_),ho,fun e v' n ys hne h=>owns_fr h hf (fun q hq e=>?_),fun B hB hB1=>hf.below hB1 (fun q hq e=>by have e':q=g:=e;omega)⟩
  ·have e':gb=g:=e
   subst e'
   exact hrow_owns hr hv he (by rw [e1];rfl)
  ·have e':q=g:=e
   subst e'
   exact hne (owns_type h hv hq (by rw [e1];rfl))
 ·have hf:=Fr.of_below (F:=fun _=>False) ho.2
  exact ⟨hr.below ho.2,ho.1.mono (Nat.le_of_lt hr.lt),fun e v' n ys hne h=>owns_fr h hf (fun _ _ e=>e),fun B hB hB1=>ho.2.mono hB1⟩
theorem set_bag {w8:World} {gb:Nat} {e:Nat} {cs:Array Value} {v:Value} {n:Nat} {ys:List Value} (hr:hrow w8 gb cs 132) (he:132 ≠ e) (h:w8.ownsRow gb e 1 v n ys) (j:Nat) (u:Value):(w8.setCell ⟨gb,j,none⟩ u).ownsRow gb e 1 v n ys:=
 owns_fr h (Fr.setCell w8 ⟨gb,j,none⟩ u) (fun q hq e2=>by have e':q=gb:=e2;subst e';exact hrow_owns hr h he hq)
theorem elLI:Elem Tryz.prog 95 26 1 24 (.slice none 0 0):=⟨by kernel_rfl,by kernel_rfl,by decide,by decide⟩
theorem bagI_app {w0 wr w8:World} {gb:Nat} {LI LN LR LG:List Value} {vi vn vr vg v8 u:Value} (hb:Below w0.heap.size w0 wr) (hlo:w0.heap.size<=gb) (h1:hrow wr gb (bagV vi vn vr vg) 132) (hI:wr.ownsRow gb 26 1 vi LI.length LI) (hN:wr.ownsRow gb 23 1 vn LN.length LN) (hR:wr.ownsRow gb 22 1 vr LR.length LR) (hG:wr.ownsRow gb 67 1 vg LG.length LG) (hnil:NilB vi LI/\NilB vn LN/\NilB vr LR/\NilB vg LG)
  (hA:AppTo (wr.alloc (.cells #[u] 26)) gb 26 1 vi LI.length LI 1 [u] v8 w8):BagI w0 gb (LI ++ [u]) LN LR LG (w8.setCell ⟨gb,2,none⟩ v8)/\w8.cell? ⟨gb,2,none⟩=some vi/\w8.frozen? ⟨gb,2,none⟩=false/\∃ lg lc,v8=.slice (some ⟨lg,0,none⟩) (LI.length+1:Nat) lc:=by
 have hal:=(Below.refl _ wr).alloc (Nat.le_refl _) (.cells #[u] 26)
 have hf:=Fr.of_below (F:=fun _=>False) hal
 obtain ⟨a1,a2,a3,a4⟩:=app_bag (h1.below hal) (by decide) (owns_fr hI hf (fun _ _ e=>e)) hA
 refine ⟨⟨⟨v8,vn,vr,vg,a1.setCell 2 v8,set_bag a1 (by decide) (by rw [List.length_append];exact a2) _ _,set_bag a1 (by decide) (a3 _ _ _ _ (by decide) (owns_fr hN hf (fun _ _ e=>e))) _ _,set_bag a1 (by decide) (a3 _ _ _ _ (by decide) (owns_fr hR hf (fun _ _ e=>e))) _ _,set_bag a1 (by decide) (a3 _ _ _ _ (by decide) (owns_fr hG hf (fun _ _ e=>e))) _ _,(fun e=>by simp at e),hnil.2.1,hnil.2.2.1,hnil.2.2.2⟩,(hb.trans ((hal.mono hb.size).trans (a4 _ hlo (Nat.le_trans hb.size hal.size)))).setCell (by exact hlo) _,hlo⟩,a1.cell 2,a1.frozen 2,by obtain ⟨lg,lc,h1,_⟩:=World.ownsRow.form a2 (by omega);exact ⟨lg,lc,h1⟩⟩
theorem putI_any (w0 w:World) (gb:Nat) (LI LN LR LG:List Value) (h:BagI w0 gb LI LN LR LG w) (hk:LI.length<=1000000) (ao:Option Addr) (n c:Nat):
  Calls Tryz.prog 91 #[.pointer (some ⟨gb,0,none⟩),.slice ao n c] w fun r w'=>r=.returned (.tuple #[])/\BagI w0 gb (LI ++ [.slice ao n c]) LN LR LG w':=by
 obtain ⟨vi,vn,vr,vg,h1,hI,hN,hR,hG,hnil⟩:=h.ex
 have hc:w.cell? ⟨gb,2,none⟩=some vi:=h1.cell 2
 have HA:=Lib.hid (fun v8 w8 hA=>bagI_app (v8:=v8) (w8:=w8) (u:=.slice ao n c) h.bel h.lo h1 hI hN hR hG hnil hA)
 have hb:=(Below.refl _ w).alloc (Nat.le_refl _) (.cells #[.slice ao n c] 26)
 have HV:=Lib.hid (owns_fr hI (Fr.of_below (F:=fun _=>False) hb) (fun _ _ e=>e))
 have HSv:Hid (Sv (w.alloc (.cells #[.slice ao n c] 26)) (some ⟨w.heap.size,0,none⟩) 1 1 1 [.slice ao n c]):=Sv.lit w 26 #[.slice ao n c] 1 1 (by decide) rfl
 have HOc:Hid (∀ u ∈ ([.slice ao n c]:List Value),u.oneCell'=true):=by intro u hu;simp only [List.mem_singleton] at hu;subst hu;rfl
 have HLn:Hid ((LI.length+1) * 24<=140737488355328/\LI.length+1<=maxLen):=by unfold Hid maxLen;omega
 obtain ⟨kl,hkl⟩:∃ q,LI.length=q:=⟨_,rfl⟩
 rw [hkl] at HV HLn HA
 clear h h1 hI hN hR hG hnil hk hkl hb
 go_enter Tryz.func91,Tryz.ntmps91
 go_wp2_with (at_builtin;refine wpList_appf _ gb rfl (.tmp 8) (.tmp 10) 95 26 rfl elLI vi kl LI rfl HV.out _ 1 1 _ rfl HSv.out HOc.out (by decide) HLn.out ?_;intro v8 w8 hA;obtain ⟨hB,g7,gf,lg,lc,hv8⟩:=HA.out v8 w8 hA;subst hv8;have HB:=Lib.hid hB;clear hA hB)
 go_end0
 exact ⟨rfl,HB.out⟩
end Go.Proofs.YtgjhepblpdnkcaaGreatDoor
