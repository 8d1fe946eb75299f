/- Walk: flatTwigs, the last look. -/
import Derived.Test.YtmpccinbeepbgaaAs
namespace Go.Proofs.Ytmpccinbeepbgaa
open Go.RowKit

set_option maxRecDepth 100000 in
set_option maxHeartbeats 4000000 in
theorem blk16 (Q0 : Exit → Act → World → Prop) (w : World) (B k lg lc gg : Nat) (hK : k ≤ 100) (hlc1 : k ≤ lc) (hlc2 : lc ≤ 9223372036854775807) (R G : Nat → Value) (n : Nat → Nat) (Z : Nat → List Tw) (L : List Value) {c1 c2 c3 c4 c6 c7 c8 c9 c10 c11 c12 c13 c15 c16 c17 c18 c19 c20 c21 c22 c23 c24 c25 c26 c27 c28 c29 c30 c31 c32 c33 c34 c35 c36 c37 c38 c39 c40 c41 c42 c43 c44 c45 c46 c47 c48 c49 c50 c51 c52 c53 c54 c55 c56 c57 c58 c59 c60 c61 c62 c63 c64 c65 c66 c67 c68 c69 c70 c71 c72 c73 c74 c75 c76 c77 c78 c79 c80 c81 c82 c83 c84 c85 c86 c87 c88 c89 c90 c91 c92 c93 c94 c95 c96 c97 c98 c99 c100 c101 c102 c103 c104 c105 c106 c107 c108 c109 c110 c111 c112 c113 c114 c115 c116 c117 c118 c119 c120 c121 c122 c123 c124 c125 c126 c127 c128 c129 c130 c131 c132 c133 c134 c135 c136 c137 c138 c139 c140 c141 c142 c143 c144 c145 c146 c147 c148 c149 c150 c151 c152 c153 c154 c155 c156 c157 c158 c159 c160 c161 c162 c163 c164 c165 c166 c167 c168 c169 c170 c171 c172 c173 c174 c175 c176 c177 c178 c179 c180 c181 c182 c183 c184 c185 c186 c187 c188 c189 c190 c191 c192 : Value} (wo : World) (μ : Int → Int → Int) (HMk : Hid (MkC μ)) (HN : Hid (∀ k', k' < k → n k' ≤ 2000)) (HS : Hid (Fg w wo B k lg lc gg R n (fun k' => mrow μ k' (n k')) k G Z k L ∧ ∀ a, a < k → Z a = mrow μ a (n a) ++ mrow μ (a + k) 64))
    (hexit : ∀ (u2 u14 u15 u152 u153 u154 u155 u156 u157 u158 u159 u160 u161 u162 u163 u164 u165 u166 u167 u168 u169 u170 u171 u172 u173 u174 u175 u176 u177 u178 u179 u180 u181 u182 u183 u184 u185 u186 u187 u188 u189 u190 u191 u192 : Value) (w' : World), Hid (Below wo.heap.size wo w') → Q0 .normal ⟨#[.slice (some ⟨lg, 0, none⟩) k lc, c1, u2, c3, c4, .slice (some ⟨gg, 0, none⟩) k k, c6, c7, c8, c9, c10, c11, c12, c13, u14, u15, c16, c17, c18, c19, c20, c21, c22, c23, c24, c25, c26, c27, c28, c29, c30, c31, c32, c33, c34, c35, c36, c37, c38, c39, c40, c41, c42, c43, c44, c45, c46, c47, c48, c49, c50, c51, c52, c53, c54, c55, c56, c57, c58, c59, c60, c61, c62, c63, c64, c65, c66, c67, c68, c69, c70, c71, c72, c73, c74, c75, c76, c77, c78, c79, c80, c81, c82, c83, c84, c85, c86, c87, c88, c89, c90, c91, c92, c93, c94, c95, c96, c97, c98, c99, c100, c101, c102, c103, c104, c105, c106, c107, c108, c109, c110, c111, c112, c113, c114, c115, c116, c117, c118, c119, c120, c121, c122, c123, c124, c125, c126, c127, c128, c129, c130, c131, c132, c133, c134, c135, c136, c137, c138, c139, c140, c141, c142, c143, c144, c145, c146, c147, c148, c149, c150, c151, u152, u153, u154, u155, u156, u157, u158, u159, u160, u161, u162, u163, u164, u165, u166, u167, u168, u169, u170, u171, u172, u173, u174, u175, u176, u177, u178, u179, u180, u181, u182, u183, u184, u185, u186, u187, u188, u189, u190, u191, u192], []⟩ w') :
    Code.wp Try.prog (blk57 16) Q0 ⟨#[.slice (some ⟨lg, 0, none⟩) k lc, c1, c2, c3, c4, .slice (some ⟨gg, 0, none⟩) k k, c6, c7, c8, c9, c10, c11, c12, c13, .int .i64 0, c15, c16, c17, c18, c19, c20, c21, c22, c23, c24, c25, c26, c27, c28, c29, c30, c31, c32, c33, c34, c35, c36, c37, c38, c39, c40, c41, c42, c43, c44, c45, c46, c47, c48, c49, c50, c51, c52, c53, c54, c55, c56, c57, c58, c59, c60, c61, c62, c63, c64, c65, c66, c67, c68, c69, c70, c71, c72, c73, c74, c75, c76, c77, c78, c79, c80, c81, c82, c83, c84, c85, c86, c87, c88, c89, c90, c91, c92, c93, c94, c95, c96, c97, c98, c99, c100, c101, c102, c103, c104, c105, c106, c107, c108, c109, c110, c111, c112, c113, c114, c115, c116, c117, c118, c119, c120, c121, c122, c123, c124, c125, c126, c127, c128, c129, c130, c131, c132, c133, c134, c135, c136, c137, c138, c139, c140, c141, c142, c143, c144, c145, c146, c147, c148, c149, c150, c151, c152, c153, c154, c155, c156, c157, c158, c159, c160, c161, c162, c163, c164, c165, c166, c167, c168, c169, c170, c171, c172, c173, c174, c175, c176, c177, c178, c179, c180, c181, c182, c183, c184, c185, c186, c187, c188, c189, c190, c191, c192], []⟩ wo := by
  conv => arg 2; whnf
  have HSB := Lib.hid (fun w' (hb : Below wo.heap.size wo w') => HS.out.1.below hb)
  have HZ := Lib.hid HS.out.2
  clear HS
  go_wp2_with fail
  go_loopw [14] (fun i wr => ∃ a : Nat, a ≤ k ∧ i = .int .i64 a ∧ Hid (Below wo.heap.size wo wr)) (fun i _ => k - (intOf i).toNat)
  case atStart => exact ⟨0, by omega, rfl, Below.refl _ _⟩
  case round =>
    obtain ⟨a, ha, rfl, HBa⟩ := hrel
    obtain ⟨wo3, rfl⟩ : ∃ wo3 : World, wo3 = wr := ⟨_, rfl⟩
    by_cases hat : a < k
    · have hat' : (a : Int) < k := by omega
      have hna := HN.out a hat
      have hZl : (Z a).length = n a + 64 := by rw [HZ.out a hat, List.length_append, mrow_len, mrow_len]
      obtain ⟨go, gcap, hGv, hgb1, hgb2⟩ := (HSB.out wo3 HBa.out).val (k := a) hat
      rw [hZl] at hGv hgb1
      have HGv := Lib.hid hGv; clear hGv
      have HZa := Lib.hid (HZ.out a hat)
      have HZl := Lib.hid hZl; clear hZl
      obtain ⟨ra, rcap, hRv, _, hrb1, hrb2⟩ := (HSB.out wo3 HBa.out).fl.row hat
      have HRv := Lib.hid hRv; clear hRv
      generalize hnn : n a = na at *
      have HNN := Lib.hid hnn; clear hnn
      have HCg : Hid (∀ w', Below wo.heap.size wo w' → w'.cell? ⟨gg, a, none⟩ = some (.slice go (na + 64) gcap)) := fun w' hb => by
        obtain ⟨go', gcap', h1, h2, _⟩ := (HSB.out w' hb).grow (k := a) hat
        rw [h2, ← h1, HGv.out]
      have HCl : Hid (∀ w', Below wo.heap.size wo w' → w'.cell? ⟨lg, a, none⟩ = some (.slice ra na rcap)) := fun w' hb => by
        obtain ⟨ra', rcap', h1, h2, _⟩ := (HSB.out w' hb).fl.row hat
        rw [h2, ← h1, HRv.out]
      go_wp2_with fail
      go_loopw [15] (fun c wi => ∃ i : Nat, i ≤ na ∧ c = .int .i64 i ∧ Hid (Below wo.heap.size wo wi)) (fun c _ => na - (intOf c).toNat)
      case atStart => exact ⟨0, by omega, rfl, HBa⟩
      case round =>
        obtain ⟨i, hi, rfl, HBi⟩ := hrel
        have hcl := HCl.out wr HBi.out
        by_cases hin : i < na
        · have hin' : (i : Int) < na := by omega
          have hit' : (i : Int) < (na : Int) + 64 := by omega
          obtain ⟨g1, c1, hG1, hE1, _⟩ := (HSB.out wr HBi.out).growElem (k := a) (i := i) hat (by rw [HZl.out]; omega) (x := mkT μ a i) (by rw [HZa.out, List.getElem?_append_left (by rw [mrow_len μ (a)]; exact hin)]; exact mrow_get μ a _ i hin)
          rw [HZl.out, HGv.out] at hG1
          simp only [Value.slice.injEq] at hG1
          obtain ⟨rfl, _, rfl⟩ := hG1
          have HE1 := Lib.hid hE1; clear hE1
          have later : ∀ (p : Addr) (v : Value), wr.cell? p = some v → ∀ y : Later wr, y.val.cell? p = some v := fun p v h y => (y.ok.cell (World.block_lt_of_cell? wr _ h)).trans h
          have y0 := later _ _ (HCg.out wr HBi.out)
          have e0 : ∀ y : Later wr, y.val.cell? ⟨g1, i * 5, none⟩ = some (.int .i64 (μ a i)) := later _ _ (HE1.out 0 (by decide))
          have e1 : ∀ y : Later wr, y.val.cell? ⟨g1, i * 5 + 1, none⟩ = some (.int .i64 0) := later _ _ (HE1.out 1 (by decide))
          have e2 : ∀ y : Later wr, y.val.cell? ⟨g1, i * 5 + 2, none⟩ = some (.int .i64 0) := later _ _ (HE1.out 2 (by decide))
          have e3 : ∀ y : Later wr, y.val.cell? ⟨g1, i * 5 + 3, none⟩ = some (.int .i64 0) := later _ _ (HE1.out 3 (by decide))
          have e4 : ∀ y : Later wr, y.val.cell? ⟨g1, i * 5 + 4, none⟩ = some (.int .i64 0) := later _ _ (HE1.out 4 (by decide))
          have HM := Lib.hid (fun y : Later wr => HMk.out y.val a i (by omega) (by omega) (by omega) (by omega))
          have y1 := later _ _ hcl
          obtain ⟨g2, c2, hR2, hE2, _⟩ := (HSB.out wr HBi.out).fl.elemX hat (i := i) (by rw [HNN.out]; exact hin) (x := mkT μ a i) (mrow_get μ a _ i (by rw [HNN.out]; exact hin))
          rw [HNN.out, HRv.out] at hR2
          simp only [Value.slice.injEq] at hR2
          obtain ⟨rfl, _, rfl⟩ := hR2
          have HE2 := Lib.hid hE2; clear hE2
          have k0 : ∀ y : Later wr, y.val.cell? ⟨g2, i * 5, none⟩ = some (.int .i64 (μ a i)) := later _ _ (HE2.out 0 (by decide))
          have k1 : ∀ y : Later wr, y.val.cell? ⟨g2, i * 5 + 1, none⟩ = some (.int .i64 0) := later _ _ (HE2.out 1 (by decide))
          have k2 : ∀ y : Later wr, y.val.cell? ⟨g2, i * 5 + 2, none⟩ = some (.int .i64 0) := later _ _ (HE2.out 2 (by decide))
          have k3 : ∀ y : Later wr, y.val.cell? ⟨g2, i * 5 + 3, none⟩ = some (.int .i64 0) := later _ _ (HE2.out 3 (by decide))
          have k4 : ∀ y : Later wr, y.val.cell? ⟨g2, i * 5 + 4, none⟩ = some (.int .i64 0) := later _ _ (HE2.out 4 (by decide))
          clear later
          go_wp2_with fail
          refine wp_region_later (by kernel_rfl) (by kernel_rfl) ?_
          repeat (go_big_quiet_step ((go_at_call 78; exact Calls.later (HM.out _))))
          refine wpQuiet_nil ?_
          intro w5 hw5
          obtain ⟨y, rfl⟩ := hw5
          have HB5 := Lib.hid (HBi.out.trans (y.ok.mono HBi.out.size))
          clear y0 y1 e0 e1 e2 e3 e4 k0 k1 k2 k3 k4 HM
          generalize y.val = w5 at *
          go_wp2_with fail
          go_roundw
          case rel => exact ⟨i + 1, by omega, by go_num, HB5⟩
          case measure => simp [intOf]; omega
        · have hge : (na : Int) ≤ i := by omega
          go_wp2_with fail
          go_roundw
          case rel => exact ⟨a + 1, by omega, by go_num, HBi⟩
          case measure => simp [intOf]; omega
    · obtain rfl : k = a := by omega
      clear HSB HZ
      go_wp2_with fail
      exact HBa
end Go.Proofs.Ytmpccinbeepbgaa
