/- Walks and plain laws: At Ao. -/
import Derived.Test.YtdnkffplkleolaaGreatT01
import Derived.Deep.CutBlock
namespace Go.Proofs.YtdnkffplkleolaaGreat
open Go.RowKit
set_option maxRecDepth 100000
set_option maxHeartbeats 4000000

theorem blk16 (Q0 : Exit → Act → World → Prop) (w : World) (B k lg lc gg : Nat) (hK : k ≤ 100) (hlc1 : k ≤ lc) (hlc2 : lc ≤ 9223372036854775807) (R G : Nat → Value) (n : Nat → Nat) (Z : Nat → List Tw) (L : List Value) {c1 c2 c3 c4 c6 c7 c8 c9 c10 c11 c12 c13 c15 c16 c17 c18 c19 c20 c21 c22 c23 c24 c25 c26 c27 c28 c29 c30 c31 c32 c33 c34 c35 c36 c37 c38 c39 c40 c41 c42 c43 c44 c45 c46 c47 c48 c49 c50 c51 c52 c53 c54 c55 c56 c57 c58 c59 c60 c61 c62 c63 c64 c65 c66 c67 c68 c69 c70 c71 c72 c73 c74 c75 c76 c77 c78 c79 c80 c81 c82 c83 c84 c85 c86 c87 c88 c89 c90 c91 c92 c93 c94 c95 c96 c97 c98 c99 c100 c101 c102 c103 c104 c105 c106 c107 c108 c109 c110 c111 c112 c113 c114 c115 c116 c117 c118 c119 c120 c121 c122 c123 c124 c125 c126 c127 c128 c129 c130 c131 c132 c133 c134 c135 c136 c137 c138 c139 c140 c141 c142 c143 c144 c145 c146 c147 c148 c149 c150 c151 c152 c153 c154 c155 c156 c157 c158 c159 c160 c161 c162 c163 c164 c165 c166 c167 c168 c169 c170 c171 c172 c173 c174 c175 c176 c177 c178 c179 c180 c181 c182 c183 c184 c185 c186 c187 c188 c189 c190 c191 c192 : Value} (wo : World) (μ : Int → Int → Int) (HMk : Hid (MkC μ)) (HN : Hid (∀ k', k' < k → n k' ≤ 2000)) (HS : Hid (Fg w wo B k lg lc gg R n (fun k' => mrow μ k' (n k')) k G Z k L ∧ ∀ a, a < k → Z a = mrow μ a (n a) ++ mrow μ (a + k) 64))
  (hexit : ∀ (u2 u14 u15 u152 u153 u154 u155 u156 u157 u158 u159 u160 u161 u162 u163 u164 u165 u166 u167 u168 u169 u170 u171 u172 u173 u174 u175 u176 u177 u178 u179 u180 u181 u182 u183 u184 u185 u186 u187 u188 u189 u190 u191 u192 : Value) (w' : World), Hid (Below wo.heap.size wo w') → Q0 .normal ⟨#[.slice (some ⟨lg, 0, none⟩) k lc, c1, u2, c3, c4, .slice (some ⟨gg, 0, none⟩) k k, c6, c7, c8, c9, c10, c11, c12, c13, u14, u15, c16, c17, c18, c19, c20, c21, c22, c23, c24, c25, c26, c27, c28, c29, c30, c31, c32, c33, c34, c35, c36, c37, c38, c39, c40, c41, c42, c43, c44, c45, c46, c47, c48, c49, c50, c51, c52, c53, c54, c55, c56, c57, c58, c59, c60, c61, c62, c63, c64, c65, c66, c67, c68, c69, c70, c71, c72, c73, c74, c75, c76, c77, c78, c79, c80, c81, c82, c83, c84, c85, c86, c87, c88, c89, c90, c91, c92, c93, c94, c95, c96, c97, c98, c99, c100, c101, c102, c103, c104, c105, c106, c107, c108, c109, c110, c111, c112, c113, c114, c115, c116, c117, c118, c119, c120, c121, c122, c123, c124, c125, c126, c127, c128, c129, c130, c131, c132, c133, c134, c135, c136, c137, c138, c139, c140, c141, c142, c143, c144, c145, c146, c147, c148, c149, c150, c151, u152, u153, u154, u155, u156, u157, u158, u159, u160, u161, u162, u163, u164, u165, u166, u167, u168, u169, u170, u171, u172, u173, u174, u175, u176, u177, u178, u179, u180, u181, u182, u183, u184, u185, u186, u187, u188, u189, u190, u191, u192], []⟩ w') :
  Code.wp Tryz.prog (blk57 16) Q0 ⟨#[.slice (some ⟨lg, 0, none⟩) k lc, c1, c2, c3, c4, .slice (some ⟨gg, 0, none⟩) k k, c6, c7, c8, c9, c10, c11, c12, c13, .int .i64 0, c15, c16, c17, c18, c19, c20, c21, c22, c23, c24, c25, c26, c27, c28, c29, c30, c31, c32, c33, c34, c35, c36, c37, c38, c39, c40, c41, c42, c43, c44, c45, c46, c47, c48, c49, c50, c51, c52, c53, c54, c55, c56, c57, c58, c59, c60, c61, c62, c63, c64, c65, c66, c67, c68, c69, c70, c71, c72, c73, c74, c75, c76, c77, c78, c79, c80, c81, c82, c83, c84, c85, c86, c87, c88, c89, c90, c91, c92, c93, c94, c95, c96, c97, c98, c99, c100, c101, c102, c103, c104, c105, c106, c107, c108, c109, c110, c111, c112, c113, c114, c115, c116, c117, c118, c119, c120, c121, c122, c123, c124, c125, c126, c127, c128, c129, c130, c131, c132, c133, c134, c135, c136, c137, c138, c139, c140, c141, c142, c143, c144, c145, c146, c147, c148, c149, c150, c151, c152, c153, c154, c155, c156, c157, c158, c159, c160, c161, c162, c163, c164, c165, c166, c167, c168, c169, c170, c171, c172, c173, c174, c175, c176, c177, c178, c179, c180, c181, c182, c183, c184, c185, c186, c187, c188, c189, c190, c191, c192], []⟩ wo := by
 conv => arg 2; whnf
 have HSB := Lib.hid (fun w' (hb : Below wo.heap.size wo w') => HS.out.1.below hb)
 have HZ := Lib.hid HS.out.2
 clear HS
 go_wp2_with fail
 go_loopw [14] (fun i wr => ∃ a : Nat, a ≤ k ∧ i = .int .i64 a ∧ Hid (Below wo.heap.size wo wr)) (fun i _ => k - (intOf i).toNat)
 case atStart => exact ⟨0, by omega, rfl, Below.refl _ _⟩
 case round =>
  obtain ⟨a, ha, rfl, HBa⟩ := hrel
  obtain ⟨wo3, rfl⟩ : ∃ wo3 : World, wo3 = wr := ⟨_, rfl⟩
  by_cases hat : a < k
  ·have hat' : (a : Int) < k := by omega
   have hna := HN.out a hat
   have hZl : (Z a).length = n a + 64 := by rw [HZ.out a hat, List.length_append, mrow_len, mrow_len]
   obtain ⟨go, gcap, hGv, hgb1, hgb2⟩ := (HSB.out wo3 HBa.out).val (k := a) hat
   rw [hZl] at hGv hgb1
   have HGv := Lib.hid hGv; clear hGv
   have HZa := Lib.hid (HZ.out a hat)
   have HZl := Lib.hid hZl; clear hZl
   obtain ⟨ra, rcap, hRv, _, hrb1, hrb2⟩ := (HSB.out wo3 HBa.out).fl.row hat
   have HRv := Lib.hid hRv; clear hRv
   generalize hnn : n a = na at *
   have HNN := Lib.hid hnn; clear hnn
   have HCg : Hid (∀ w', Below wo.heap.size wo w' → w'.cell? ⟨gg, a, none⟩ = some (.slice go (na + 64) gcap)) := fun w' hb => by
    obtain ⟨go', gcap', h1, h2, _⟩ := (HSB.out w' hb).grow (k := a) hat
    rw [h2, ← h1, HGv.out]
   have HCl : Hid (∀ w', Below wo.heap.size wo w' → w'.cell? ⟨lg, a, none⟩ = some (.slice ra na rcap)) := fun w' hb => by
    obtain ⟨ra', rcap', h1, h2, _⟩ := (HSB.out w' hb).fl.row hat
    rw [h2, ← h1, HRv.out]
   go_wp2_with fail
   go_loopw [15] (fun c wi => ∃ i : Nat, i ≤ na ∧ c = .int .i64 i ∧ Hid (Below wo.heap.size wo wi)) (fun c _ => na - (intOf c).toNat)
   case atStart => exact ⟨0, by omega, rfl, HBa⟩
   case round =>
    obtain ⟨i, hi, rfl, HBi⟩ := hrel
    have hcl := HCl.out wr HBi.out
    by_cases hin : i < na
    ·have hin' : (i : Int) < na := by omega
     have hit' : (i : Int) < (na : Int) + 64 := by omega
     obtain ⟨g1, c1, hG1, hE1, _⟩ := (HSB.out wr HBi.out).growElem (k := a) (i := i) hat (by rw [HZl.out]; omega) (x := mkT μ a i) (by rw [HZa.out, List.getElem?_append_left (by rw [mrow_len μ (a)]; exact hin)]; exact mrow_get μ a _ i hin)
     rw [HZl.out, HGv.out] at hG1
     simp only [Value.slice.injEq] at hG1
     obtain ⟨rfl, _, rfl⟩ := hG1
     have HE1 := Lib.hid hE1; clear hE1
     have later : ∀ (p : Addr) (v : Value), wr.cell? p = some v → ∀ y : Later wr, y.val.cell? p = some v := fun p v h y => (y.ok.cell (World.block_lt_of_cell? wr _ h)).trans h
     have y0 := later _ _ (HCg.out wr HBi.out)
     have e0 : ∀ y : Later wr, y.val.cell? ⟨g1, i * 5, none⟩ = some (.int .i64 (μ a i)) := later _ _ (HE1.out 0 (by decide))
     have e1 : ∀ y : Later wr, y.val.cell? ⟨g1, i * 5 + 1, none⟩ = some (.int .i64 0) := later _ _ (HE1.out 1 (by decide))
     have e2 : ∀ y : Later wr, y.val.cell? ⟨g1, i * 5 + 2, none⟩ = some (.int .i64 0) := later _ _ (HE1.out 2 (by decide))
     have e3 : ∀ y : Later wr, y.val.cell? ⟨g1, i * 5 + 3, none⟩ = some (.int .i64 0) := later _ _ (HE1.out 3 (by decide))
     have e4 : ∀ y : Later wr, y.val.cell? ⟨g1, i * 5 + 4, none⟩ = some (.int .i64 0) := later _ _ (HE1.out 4 (by decide))
     have HM := Lib.hid (fun y : Later wr => HMk.out y.val a i (by omega) (by omega) (by omega) (by omega))
     have y1 := later _ _ hcl
     obtain ⟨g2, c2, hR2, hE2, _⟩ := (HSB.out wr HBi.out).fl.elemX hat (i := i) (by rw [HNN.out]; exact hin) (x := mkT μ a i) (mrow_get μ a _ i (by rw [HNN.out]; exact hin))
     rw [HNN.out, HRv.out] at hR2
     simp only [Value.slice.injEq] at hR2
     obtain ⟨rfl, _, rfl⟩ := hR2
     have HE2 := Lib.hid hE2; clear hE2
     have k0 : ∀ y : Later wr, y.val.cell? ⟨g2, i * 5, none⟩ = some (.int .i64 (μ a i)) := later _ _ (HE2.out 0 (by decide))
     have k1 : ∀ y : Later wr, y.val.cell? ⟨g2, i * 5 + 1, none⟩ = some (.int .i64 0) := later _ _ (HE2.out 1 (by decide))
     have k2 : ∀ y : Later wr, y.val.cell? ⟨g2, i * 5 + 2, none⟩ = some (.int .i64 0) := later _ _ (HE2.out 2 (by decide))
     have k3 : ∀ y : Later wr, y.val.cell? ⟨g2, i * 5 + 3, none⟩ = some (.int .i64 0) := later _ _ (HE2.out 3 (by decide))
     have k4 : ∀ y : Later wr, y.val.cell? ⟨g2, i * 5 + 4, none⟩ = some (.int .i64 0) := later _ _ (HE2.out 4 (by decide))
     clear later
     go_wp2_with fail
     refine wp_region_later (by kernel_rfl) (by kernel_rfl) ?_
     repeat (go_big_quiet_step ((go_at_call 94; exact Calls.later (HM.out _))))
     refine wpQuiet_nil ?_
     intro w5 hw5
     obtain ⟨y, rfl⟩ := hw5
     have HB5 := Lib.hid (HBi.out.trans (y.ok.mono HBi.out.size))
     clear y0 y1 e0 e1 e2 e3 e4 k0 k1 k2 k3 k4 HM
     generalize y.val = w5 at *
     go_wp2_with fail
     go_roundw
     case rel => exact ⟨i + 1, by omega, by go_num, HB5⟩
     case measure => simp [intOf]; omega
    ·have hge : (na : Int) ≤ i := by omega
     go_wp2_with fail
     go_roundw
     case rel => exact ⟨a + 1, by omega, by go_num, HBi⟩
     case measure => simp [intOf]; omega
  ·obtain rfl : k = a := by omega
   clear HSB HZ
   go_wp2_with fail
   exact HBa
end Go.Proofs.YtdnkffplkleolaaGreat
namespace Go.Proofs.YtdnkffplkleolaaGreat
open Go.RowKit
set_option maxRecDepth 100000
set_option maxHeartbeats 4000000

theorem infoTs : (Tryz.prog.info? 32).map (fun i => (i.zero, i.size, i.bytes)) = some (some (.slice none 0 0), 1, 24) := by kernel_rfl

theorem flatTw_some (μ : Int → Int → Int) (HMk : Hid (MkC μ)) (w : World) (B K lg lc : Nat) (hK : K ≤ 100) (hK0 : 0 < K) (R : Nat → Value) (n : Nat → Nat) (Y : Nat → List Tw) (h : Fl w w B K lg lc R n Y 0 R Y) (hn : ∀ k, k < K → n k ≤ 2000) :
  Calls Tryz.prog 70 #[.slice (some ⟨lg, 0, none⟩) K lc] w fun r w' => r = .returned (.bool true) ∧ Fr (fun b => ∃ i, i < K ∧ (R i).ownBlock = some b) w w' := by
 have hlc : K ≤ lc ∧ lc ≤ 9223372036854775807 := by
  obtain ⟨ao, cap, hv, hs⟩ := Sv.of_owns h.ls
  cases hv
  exact hs.bound
 obtain ⟨hlc1, hlc2⟩ := hlc
 have H0 := Lib.hid h; have HN := Lib.hid hn
 clear h hn
 go_enter Tryz.func70, Tryz.ntmps70
 go_wp2_with fail
 go_loopw [3, 4] (fun i j wr => ∃ (k : Nat) (Y' : Nat → List Tw), k ≤ K ∧ i = .int .i64 k ∧ Hid (Fl w wr B K lg lc R n Y' 0 R Y ∧ ∀ k', k' < k → Y' k' = mrow μ k' (n k'))) (fun i _ _ => K - (intOf i).toNat)
 case atStart => exact ⟨0, Y, by omega, rfl, H0.out, fun k' hk' => absurd hk' (by omega)⟩
 case round =>
  obtain ⟨k, Y', hk, rfl, HS⟩ := hrel
  obtain ⟨wo, rfl⟩ : ∃ wo : World, wo = wr := ⟨_, rfl⟩
  by_cases hlt : k < K
  ·have hlt' : (k : Int) < K := by omega
   go_wp2_with fail
   go_loopw [4] (fun j wi => ∃ (i : Nat) (Y2 : Nat → List Tw), i ≤ n k ∧ j = .int .i64 i ∧ Hid (Fl w wi B K lg lc R n Y2 0 R Y ∧ (∀ k', k' < k → Y2 k' = mrow μ k' (n k')) ∧ ∀ i', i' < i → (Y2 k)[i']? = some (mkT μ k i'))) (fun j _ => n k - (intOf j).toNat)
   case atStart => exact ⟨0, Y', by omega, rfl, HS.out.1, HS.out.2, fun i' hi' => absurd hi' (by omega)⟩
   case round =>
    obtain ⟨i, Y2, hi, rfl, HI⟩ := hrel
    have hnk := HN.out k hlt
    obtain ⟨ra, rcap, hR, hc0, hrc1, hrc2⟩ := HI.out.1.row hlt
    have HR := Lib.hid hR; clear hR
    by_cases hit : i < n k
    ·have hit' : (i : Int) < n k := by omega
     obtain ⟨g, cap, hR2, hel, hBg, hgw⟩ := HI.out.1.elem hlt hit
     have := HR.out.symm.trans hR2
     simp only [Value.slice.injEq] at this
     obtain ⟨rfl, _, rfl⟩ := this
     clear hR2
     have HEl := Lib.hid hel; clear hel
     have HHi := Lib.hid hnk
     generalize hnn : n k = nk at *
     have HNN := Lib.hid hnn; clear hnn
     have HB := Lib.hid HI.out.1.size
     have hcy : ∀ y : Later wr, y.val.cell? ⟨lg, k, none⟩ = some (.slice (some ⟨g, 0, none⟩) nk rcap) := fun y => (y.ok.cell (World.block_lt_of_cell? wr _ hc0)).trans hc0
     have HM := Lib.hid (fun y : Later wr => HMk.out y.val k i (by omega) (by omega) (by omega) (by omega))
     go_wp2_with fail
     refine wp_region_later_tail 9 (by kernel_rfl) (by kernel_rfl) ?_
     simp only [List.take_succ_cons, List.take_zero, List.drop_succ_cons, List.drop_zero]
     repeat (go_big_quiet_step ((go_at_call 94; exact Calls.later (HM.out _))))
     refine wpQuiet_nil ?_
     intro w5 hw5
     obtain ⟨y, rfl⟩ := hw5
     have HI5 := Lib.hid (HI.out.1.below (by omega) HB.out y.ok)
     clear hcy HM
     have HEy := Lib.hid (fun j hj => (⟨(y.ok.cell (p := ⟨g, i * 5 + j, none⟩) hgw).trans (HEl.out j hj).1, (y.ok.frozen (p := ⟨g, i * 5 + j, none⟩) hgw).trans (HEl.out j hj).2⟩ : _ ∧ _))
     generalize y.val = w5 at *
     generalize (Y2 k).getD i (tw 0 0 0 0) = x0 at *
     have e0 : w5.cell? ⟨g, i * 5, none⟩ = some (.int .i64 x0.rule) := (HEy.out 0 (by decide)).1
     have e1 : w5.cell? ⟨g, i * 5 + 1, none⟩ = some (.int .i64 x0.lev) := (HEy.out 1 (by decide)).1
     have e2 : w5.cell? ⟨g, i * 5 + 2, none⟩ = some (.int .i64 x0.fr) := (HEy.out 2 (by decide)).1
     have e3 : w5.cell? ⟨g, i * 5 + 3, none⟩ = some (.int .i64 x0.to) := (HEy.out 3 (by decide)).1
     have e4 : w5.cell? ⟨g, i * 5 + 4, none⟩ = some (.int .i64 x0.kids) := (HEy.out 4 (by decide)).1
     have f0 : w5.frozen? ⟨g, i * 5, none⟩ = false := (HEy.out 0 (by decide)).2
     have f1 : w5.frozen? ⟨g, i * 5 + 1, none⟩ = false := (HEy.out 1 (by decide)).2
     have f2 : w5.frozen? ⟨g, i * 5 + 2, none⟩ = false := (HEy.out 2 (by decide)).2
     have f3 : w5.frozen? ⟨g, i * 5 + 3, none⟩ = false := (HEy.out 3 (by decide)).2
     have f4 : w5.frozen? ⟨g, i * 5 + 4, none⟩ = false := (HEy.out 4 (by decide)).2
     have HP := Lib.hid (HI5.out.put hlt (i := i) (by rw [HNN.out]; exact hit) (by rw [HNN.out]; exact HR.out) (mkT μ k i))
     go_wp2_with fail
     go_roundw
     case rel =>
      refine ⟨i + 1, upd Y2 k ((Y2 k).set i (mkT μ k i)), by omega, by go_num, HP.out, fun k' hk' => ?_, fun i' hi' => ?_⟩
      ·rw [upd_other _ _ (by omega)]; exact HI.out.2.1 k' hk'
      ·rw [upd_same, List.getElem?_set]
       have hl := HI.out.1.len k hlt
       rw [HNN.out] at hl
       by_cases e : i = i'
       ·subst e; rw [if_pos rfl, if_pos (by omega)]
       ·rw [if_neg e]; exact HI.out.2.2 i' (by omega)
     case measure => simp [intOf]; omega
    ·have hge : (n k : Int) ≤ i := by omega
     have hin : i = n k := by omega
     have HIN := Lib.hid hin; clear hin
     go_wp2_with fail
     go_roundw
     case rel =>
      refine ⟨k + 1, Y2, by omega, by go_num, HI.out.1, fun k' hk' => ?_⟩
      by_cases e : k' = k
      ·subst e
       exact mrow_of (HI.out.1.len _ hlt) (fun j hj => HI.out.2.2 j (by have := HIN.out; omega))
      ·exact HI.out.2.1 k' (by omega)
     case measure => simp [intOf]; omega
  ·obtain rfl : k = K := by omega
   have HS2 : Hid (Fl w wo B k lg lc R n (fun k' => mrow μ k' (n k')) 0 R (fun k' => mrow μ k' (n k'))) := HS.out.1.congr HS.out.2 _ _
   clear HS H0
   obtain ⟨i0, hi, hz0, hz1, hz2⟩ := info_parts infoTs
   have Hi := Lib.hid hi; have Hz0 := Lib.hid hz0; have Hz1 := Lib.hid hz1; have HBy : Hid (i0.bytes * k ≤ 281474976710656) := by unfold Hid; rw [hz2]; omega
   have HKm : Hid (k ≤ maxLen) := by unfold Hid maxLen; omega
   clear hi hz0 hz1 hz2
   go_wp2_with (first
    | (at_make; refine wpList_make_full _ rfl _ _ 46 rfl B 32 i0 _ 1 Tryz.underlying46 Hi.out Hz0.out Hz1.out _ _ _ _ k rfl rfl rfl rfl HBy.out HKm.out HS2.out.size ?_; intro w6 hown6 hg6; have HO6 := Lib.hid hown6; have HB6 := Lib.hid (((Below.refl wo.heap.size wo).grown hg6 (Nat.le_refl _) (by simp))); clear hown6 hg6))
   have HG : Hid (Fg w w6 B k lg lc wo.heap.size R n (fun k' => mrow μ k' (n k')) 0 R (fun k' => mrow μ k' (n k')) 0 _) :=
    ⟨HS2.out.below (Nat.zero_le _) HS2.out.size HB6.out, HO6.out, fun i hi => absurd hi (by omega), by have := (HS2.out.ls.lt lg rfl).2; omega, Nat.zero_le _, HS2.out.fr.size⟩
   clear HO6 HB6 HS2 Hi Hz0 Hz1 HBy HKm
   generalize (madeCells _ _).toList = L0 at HG
   generalize wo.heap.size = gg at *
   go_loopw [6] (fun i wr => ∃ (j : Nat) (G : Nat → Value) (Z : Nat → List Tw) (L : List Value), j ≤ k ∧ i = .int .i64 j ∧ Hid (Fg w wr B k lg lc gg R n (fun k' => mrow μ k' (n k')) j G Z j L ∧ ∀ j', j' < j → Z j' = mrow μ j' (n j' + 64))) (fun i _ => k - (intOf i).toNat)
   case atStart => exact ⟨0, R, _, L0, by omega, rfl, HG.out, fun j' hj' => absurd hj' (by omega)⟩
   case round =>
    clear HG
    obtain ⟨j, G, Z, L, hj, rfl, HS⟩ := hrel
    obtain ⟨wo2, rfl⟩ : ∃ wo2 : World, wo2 = wr := ⟨_, rfl⟩
    by_cases hjt : j < k
    ·have hjt' : (j : Int) < k := by omega
     obtain ⟨ra, rcap, hR, hc0, hrc1, hrc2⟩ := HS.out.1.fl.row hjt
     have hnk := HN.out j hjt
     have HR := Lib.hid hR; clear hR
     generalize hnn : n j = nj at *
     have HNN := Lib.hid hnn; clear hnn
     have HS1 := Lib.hid (HS.out.1.next hjt)
     have HZ := Lib.hid HS.out.2
     clear HS
     go_wp2_with fail
     clear hc0
     go_loopw [7, 8] (fun v c wi => ∃ (i : Nat) (G2 : Nat → Value) (Z2 : Nat → List Tw), i ≤ 64 ∧ c = .int .i64 i ∧ v = G2 j ∧ Hid (Fg w wi B k lg lc gg R n (fun k' => mrow μ k' (n k')) (j + 1) G2 Z2 j L ∧ (∀ j', j' < j → Z2 j' = mrow μ j' (n j' + 64)) ∧ Z2 j = mrow μ j (nj + i))) (fun _ c _ => 64 - (intOf c).toNat)
     case atStart => exact ⟨0, upd G j (R j), upd Z j (mrow μ j (n j)), by omega, rfl, by rw [upd_same, HR.out], HS1.out, fun j' hj' => by rw [upd_other _ _ (by omega)]; exact HZ.out j' hj', by rw [upd_same, HNN.out]; rfl⟩
     case round =>
      clear HS1 HZ
      obtain ⟨i, G2, Z2, hi, rfl, rfl, HI⟩ := hrel
      by_cases hit : i < 64
      ·have hit' : (i : Int) < 64 := by omega
       have hc1 : wr.cell? ⟨lg, j, none⟩ = some (.slice ra nj rcap) := by
        obtain ⟨ra', rcap', hR', hc', _⟩ := HI.out.1.fl.row hjt
        rw [HNN.out] at hR' hc'
        rw [hc', ← hR', HR.out]
       have HM := Lib.hid (HMk.out wr j ((nj : Int) + i) (by omega) (by omega) (by omega) (by omega))
       go_wp2_with fail
       refine HM.out.mono ?_
       rintro e w7 ⟨rfl, hb7⟩
       have HI7 := Lib.hid (HI.out.1.below hb7)
       clear HM hb7 hc1
       have HIa := Lib.hid (HI7.out.below ((Below.refl w7.heap.size w7).alloc (Nat.le_refl _) (.cells #[.int .i64 (μ j ((nj : Int) + i)), .int .i64 0, .int .i64 0, .int .i64 0, .int .i64 0] 74)))
       have HSv : Hid (Sv (w7.alloc (.cells #[.int .i64 (μ j ((nj : Int) + i)), .int .i64 0, .int .i64 0, .int .i64 0, .int .i64 0] 74)) (some ⟨w7.heap.size, 0, none⟩) 1 1 5 ([mkT μ j ((nj : Int) + i)].flatMap twc)) := Sv.lit w7 74 #[.int .i64 (μ j ((nj : Int) + i)), .int .i64 0, .int .i64 0, .int .i64 0, .int .i64 0] 1 5 (by decide) rfl
       have HOc := Lib.hid (twc_one [mkT μ j ((nj : Int) + i)])
       have hzl : (Z2 j).length = nj + i := by rw [HI.out.2.2, mrow_len]
       have HLn : Hid (((Z2 j).length + 1) * 40 ≤ 140737488355328 ∧ (Z2 j).length + 1 ≤ maxLen) := by unfold Hid maxLen; omega
       clear hzl
       go_wp2_with (first
        | (at_builtin; refine wpList_appf _ B rfl _ _ 32 74 rfl elemTw (G2 j) _ _ rfl (HIa.out.fl.two.own2 j (by omega)) _ 1 1 _ rfl HSv.out HOc.out (by decide) HLn.out ?_; intro v8 w8 hA; have HA := Lib.hid (HIa.out.app (ys := [mkT μ j ((nj : Int) + i)]) hA); clear hA))
       go_roundw
       case rel => exact ⟨i + 1, upd G2 j v8, upd Z2 j (Z2 j ++ [mkT μ j ((nj : Int) + i)]), by omega, by go_num, by rw [upd_same], HA.out, fun j' hj' => by rw [upd_other _ _ (by omega)]; exact HI.out.2.1 j' hj', by rw [upd_same, HI.out.2.2, mrow_snoc]⟩
       case measure => simp [intOf]; omega
      ·have hie : i = 64 := by omega
       have HIE := Lib.hid hie; clear hie
       obtain ⟨go, gcap, hGv, hgb1, hgb2⟩ := HI.out.1.val (k := j) (by omega)
       have hzl : (Z2 j).length = nj + 64 := by rw [HI.out.2.2, mrow_len, HIE.out]
       have hLj : ∃ u, L[j]? = some u := ⟨L[j]'(by have := HI.out.1.gs.1; omega), List.getElem?_eq_getElem _⟩
       obtain ⟨u0, hu0⟩ := hLj
       have hcg : wr.cell? ⟨gg, j, none⟩ = some u0 := (HI.out.1.gs.cellAt j (by omega)).trans hu0
       have hfg : wr.frozen? ⟨gg, j, none⟩ = false := HI.out.1.gs.frozenAt j
       have HSt := Lib.hid HI.out.1.set
       have HGv := Lib.hid hGv
       rw [hGv] at HSt
       rw [hGv]
       clear hGv hu0 hzl
       go_wp2_with fail
       go_roundw
       case rel =>
        refine ⟨j + 1, G2, Z2, L.set j (.slice go (Z2 j).length gcap), by omega, by go_num, HSt.out, fun j' hj' => ?_⟩
        by_cases e : j' = j
        ·subst e; rw [HI.out.2.2, HIE.out, HNN.out]
        ·exact HI.out.2.1 j' (by omega)
       case measure => simp [intOf]; omega
    ·obtain rfl : k = j := by omega
     go_upto_block 8 with (fail)
     refine blk5 _ w B k lg lc gg hK hlc1 hlc2 R G n Z L wo2 μ HMk HN HS ?_
     iterate 53 (intro _)
     intro w7 HB7
     have HS7 := Lib.hid (HS.out.1.below HB7.out).none
     clear HS HB7
     go_upto_block 12 with (fail)
     refine blk12 _ w B k lg lc gg hK hlc1 hlc2 R G n Z L w7 μ HMk HN HS7 ?_
     iterate 32 (intro _)
     intro w8 HE
     obtain ⟨G8, Z8, L8, hE⟩ := HE.out
     have HS8 := Lib.hid hE
     clear hE HE HS7
     go_upto_block 16 with (fail)
     refine blk16 _ w B k lg lc gg hK hlc1 hlc2 R G8 n Z8 L8 w8 μ HMk HN HS8 ?_
     iterate 44 (intro _)
     intro w9 HB9
     have HB := Lib.hid (HS8.out.1.fl.fr.trans (Fr.of_below (F := fun _ => False) HB9.out) (fun _ _ h => h.elim))
     clear HS8 HB9
     go_wp2_with fail
     go_ret
     exact ⟨rfl, HB.out⟩
end Go.Proofs.YtdnkffplkleolaaGreat
