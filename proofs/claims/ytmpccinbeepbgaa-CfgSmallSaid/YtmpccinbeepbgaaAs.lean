/- Walk: flatTwigs, each list is grown by many at once. -/
import Derived.Test.YtmpccinbeepbgaaAr
namespace Go.Proofs.Ytmpccinbeepbgaa
open Go.RowKit

theorem infoTw : (Try.prog.info? 57).map (fun i => (i.zero, i.size, i.bytes)) = some (some (.agg #[.int .i64 0, .int .i64 0, .int .i64 0, .int .i64 0, .int .i64 0]), 5, 40) := by kernel_rfl

/-- One element of an own row is written. -/
theorem Own.put5 {w0 w : World} {g n cap : Nat} {M : List Tw} (h : Own w0 w 57 5 (.slice (some ⟨g, 0, none⟩) n cap) n (M.flatMap twc)) (hM : M.length = n) {i : Nat} (hi : i < n) (x : Tw) :
    Own w0 (((((w.setCell ⟨g, i * 5, none⟩ (.int .i64 x.rule)).setCell ⟨g, i * 5 + 1, none⟩ (.int .i64 x.lev)).setCell ⟨g, i * 5 + 2, none⟩ (.int .i64 x.fr)).setCell ⟨g, i * 5 + 3, none⟩ (.int .i64 x.to)).setCell ⟨g, i * 5 + 4, none⟩ (.int .i64 x.kids)) 57 5 (.slice (some ⟨g, 0, none⟩) n cap) n ((M.set i x).flatMap twc) := by
  have hg := h.1.lt g rfl
  have h5 := (((((h.1.stored (i * 5) (.int .i64 x.rule)).1.stored (i * 5 + 1) (.int .i64 x.lev)).1.stored (i * 5 + 2) (.int .i64 x.fr)).1.stored (i * 5 + 3) (.int .i64 x.to)).1.stored (i * 5 + 4) (.int .i64 x.kids)).1
  rw [set5 M i x (by omega)] at h5
  exact ⟨h5, ((((h.2.setCell hg.1 _).setCell hg.1 _).setCell hg.1 _).setCell hg.1 _).setCell hg.1 _⟩
theorem zeros64 : (madeCells (Value.agg #[.int .i64 0, .int .i64 0, .int .i64 0, .int .i64 0, .int .i64 0]).cells (64 * 5)).toList = (List.replicate 64 (⟨0, 0, 0, 0, 0⟩ : Tw)).flatMap twc := by kernel_rfl

set_option maxRecDepth 100000 in
set_option maxHeartbeats 4000000 in
theorem blk12 (Q0 : Exit → Act → World → Prop) (w : World) (B k lg lc gg : Nat) (hK : k ≤ 100) (hlc1 : k ≤ lc) (hlc2 : lc ≤ 9223372036854775807) (R G0 : Nat → Value) (n : Nat → Nat) (Z0 : Nat → List Tw) (L0 : List Value) {c1 c2 c3 c4 c6 c7 c8 c9 c10 c12 c13 c14 c15 c16 c17 c18 c19 c20 c21 c22 c23 c24 c25 c26 c27 c28 c29 c30 c31 c32 c33 c34 c35 c36 c37 c38 c39 c40 c41 c42 c43 c44 c45 c46 c47 c48 c49 c50 c51 c52 c53 c54 c55 c56 c57 c58 c59 c60 c61 c62 c63 c64 c65 c66 c67 c68 c69 c70 c71 c72 c73 c74 c75 c76 c77 c78 c79 c80 c81 c82 c83 c84 c85 c86 c87 c88 c89 c90 c91 c92 c93 c94 c95 c96 c97 c98 c99 c100 c101 c102 c103 c104 c105 c106 c107 c108 c109 c110 c111 c112 c113 c114 c115 c116 c117 c118 c119 c120 c121 c122 c123 c124 c125 c126 c127 c128 c129 c130 c131 c132 c133 c134 c135 c136 c137 c138 c139 c140 c141 c142 c143 c144 c145 c146 c147 c148 c149 c150 c151 c152 c153 c154 c155 c156 c157 c158 c159 c160 c161 c162 c163 c164 c165 c166 c167 c168 c169 c170 c171 c172 c173 c174 c175 c176 c177 c178 c179 c180 c181 c182 c183 c184 c185 c186 c187 c188 c189 c190 c191 c192 : Value} (wo : World) (μ : Int → Int → Int) (HMk : Hid (MkC μ)) (HN : Hid (∀ k', k' < k → n k' ≤ 2000)) (HS0 : Hid (Fg w wo B k lg lc gg R n (fun k' => mrow μ k' (n k')) 0 G0 Z0 0 L0))
    (hexit : ∀ (u11 u12 u13 u123 u124 u125 u126 u127 u128 u129 u130 u131 u132 u133 u134 u135 u136 u137 u138 u139 u140 u141 u142 u143 u144 u145 u146 u147 u148 u149 u150 u151 : Value) (w' : World), Hid (∃ (G : Nat → Value) (Z : Nat → List Tw) (L : List Value), Fg w w' B k lg lc gg R n (fun k' => mrow μ k' (n k')) k G Z k L ∧ ∀ a, a < k → Z a = mrow μ a (n a) ++ mrow μ (a + k) 64) → Q0 .normal ⟨#[.slice (some ⟨lg, 0, none⟩) k lc, c1, c2, c3, c4, .slice (some ⟨gg, 0, none⟩) k k, c6, c7, c8, c9, c10, u11, u12, u13, c14, c15, c16, c17, c18, c19, c20, c21, c22, c23, c24, c25, c26, c27, c28, c29, c30, c31, c32, c33, c34, c35, c36, c37, c38, c39, c40, c41, c42, c43, c44, c45, c46, c47, c48, c49, c50, c51, c52, c53, c54, c55, c56, c57, c58, c59, c60, c61, c62, c63, c64, c65, c66, c67, c68, c69, c70, c71, c72, c73, c74, c75, c76, c77, c78, c79, c80, c81, c82, c83, c84, c85, c86, c87, c88, c89, c90, c91, c92, c93, c94, c95, c96, c97, c98, c99, c100, c101, c102, c103, c104, c105, c106, c107, c108, c109, c110, c111, c112, c113, c114, c115, c116, c117, c118, c119, c120, c121, c122, u123, u124, u125, u126, u127, u128, u129, u130, u131, u132, u133, u134, u135, u136, u137, u138, u139, u140, u141, u142, u143, u144, u145, u146, u147, u148, u149, u150, u151, c152, c153, c154, c155, c156, c157, c158, c159, c160, c161, c162, c163, c164, c165, c166, c167, c168, c169, c170, c171, c172, c173, c174, c175, c176, c177, c178, c179, c180, c181, c182, c183, c184, c185, c186, c187, c188, c189, c190, c191, c192], []⟩ w') :
    Code.wp Try.prog (blk57 12) Q0 ⟨#[.slice (some ⟨lg, 0, none⟩) k lc, c1, c2, c3, c4, .slice (some ⟨gg, 0, none⟩) k k, c6, c7, c8, c9, c10, .int .i64 0, c12, c13, c14, c15, c16, c17, c18, c19, c20, c21, c22, c23, c24, c25, c26, c27, c28, c29, c30, c31, c32, c33, c34, c35, c36, c37, c38, c39, c40, c41, c42, c43, c44, c45, c46, c47, c48, c49, c50, c51, c52, c53, c54, c55, c56, c57, c58, c59, c60, c61, c62, c63, c64, c65, c66, c67, c68, c69, c70, c71, c72, c73, c74, c75, c76, c77, c78, c79, c80, c81, c82, c83, c84, c85, c86, c87, c88, c89, c90, c91, c92, c93, c94, c95, c96, c97, c98, c99, c100, c101, c102, c103, c104, c105, c106, c107, c108, c109, c110, c111, c112, c113, c114, c115, c116, c117, c118, c119, c120, c121, c122, c123, c124, c125, c126, c127, c128, c129, c130, c131, c132, c133, c134, c135, c136, c137, c138, c139, c140, c141, c142, c143, c144, c145, c146, c147, c148, c149, c150, c151, c152, c153, c154, c155, c156, c157, c158, c159, c160, c161, c162, c163, c164, c165, c166, c167, c168, c169, c170, c171, c172, c173, c174, c175, c176, c177, c178, c179, c180, c181, c182, c183, c184, c185, c186, c187, c188, c189, c190, c191, c192], []⟩ wo := by
  conv => arg 2; whnf
  go_wp2_with fail
  go_loopw [11] (fun i wr => ∃ (a : Nat) (G : Nat → Value) (Z : Nat → List Tw) (L : List Value), a ≤ k ∧ i = .int .i64 a ∧ Hid (Fg w wr B k lg lc gg R n (fun k' => mrow μ k' (n k')) a G Z a L ∧ ∀ a', a' < a → Z a' = mrow μ a' (n a') ++ mrow μ (a' + k) 64)) (fun i _ => k - (intOf i).toNat)
  case atStart => exact ⟨0, G0, Z0, L0, by omega, rfl, HS0.out, fun a' ha' => absurd ha' (by omega)⟩
  case round =>
    clear HS0
    obtain ⟨a, G, Z, L, ha, rfl, HS⟩ := hrel
    by_cases hat : a < k
    · have hat' : (a : Int) < k := by omega
      obtain ⟨i0, hi, hz0, hz1, hz2⟩ := info_parts infoTw
      have Hi := Lib.hid hi; have Hz0 := Lib.hid hz0; have Hz1 := Lib.hid hz1; have HBy : Hid (i0.bytes * 64 ≤ 281474976710656) := by unfold Hid; rw [hz2]; omega
      clear hi hz0 hz1 hz2
      go_wp2_with (first
        | (at_make; refine wpList_make_full _ rfl _ _ 36 rfl wr.heap.size 57 i0 _ 5 Try.underlying36 Hi.out Hz0.out Hz1.out _ _ _ _ 64 rfl rfl rfl rfl HBy.out (by decide) (Nat.le_refl _) ?_; intro w6 hown6 hg6; have HO6 : Hid (Own wr w6 57 5 (.slice (some ⟨wr.heap.size, 0, none⟩) 64 64) 64 ((List.replicate 64 (⟨0, 0, 0, 0, 0⟩ : Tw)).flatMap twc)) := ⟨zeros64 ▸ hown6, ((Below.refl wr.heap.size wr).grown hg6 (Nat.le_refl _) (by simp))⟩; clear hown6 hg6))
      clear Hi Hz0 Hz1 HBy
      obtain ⟨wa, rfl⟩ : ∃ wa : World, wa = wr := ⟨_, rfl⟩
      generalize wa.heap.size = gm at HO6
      go_loopw [13] (fun c wi => ∃ (i : Nat) (M : List Tw), i ≤ 64 ∧ c = .int .i64 i ∧ Hid (Own wa wi 57 5 (.slice (some ⟨gm, 0, none⟩) 64 64) 64 (M.flatMap twc) ∧ M.length = 64 ∧ ∀ i', i' < i → M[i']? = some (mkT μ ((a : Int) + k) i'))) (fun c _ => 64 - (intOf c).toNat)
      case atStart => exact ⟨0, _, by omega, rfl, HO6.out, by simp, fun i' hi' => absurd hi' (by omega)⟩
      case round =>
        clear HO6
        obtain ⟨i, M, hi, rfl, HI⟩ := hrel
        by_cases hit : i < 64
        · have hit' : (i : Int) < 64 := by omega
          have HM := Lib.hid (HMk.out wr ((a : Int) + k) i (by omega) (by omega) (by omega) (by omega))
          go_wp2_with fail
          refine HM.out.mono ?_
          rintro e w7 ⟨rfl, hb7⟩
          have HI7 := Lib.hid (HI.out.1.below hb7)
          clear HM hb7
          obtain ⟨x0, hx0⟩ : ∃ x, M[i]? = some x := ⟨M[i]'(by have := HI.out.2.1; omega), List.getElem?_eq_getElem _⟩
          have hce : ∀ j, j < 5 → w7.cell? ⟨gm, i * 5 + j, none⟩ = (twv x0)[j]? ∧ w7.frozen? ⟨gm, i * 5 + j, none⟩ = false := fun j hj => by
            refine ⟨?_, HI7.out.1.frozenAt _⟩
            rw [HI7.out.1.cellAt (i * 5 + j) (by omega), fl_get twc_len M i j (by have := HI.out.2.1; omega) hj]
            have := (List.getElem?_eq_some_iff.1 hx0).2
            rw [this]
            simp [twc]
          have HCe := Lib.hid hce; clear hce
          have e0 : w7.cell? ⟨gm, i * 5, none⟩ = some (.int .i64 x0.rule) := (HCe.out 0 (by decide)).1
          have e1 : w7.cell? ⟨gm, i * 5 + 1, none⟩ = some (.int .i64 x0.lev) := (HCe.out 1 (by decide)).1
          have e2 : w7.cell? ⟨gm, i * 5 + 2, none⟩ = some (.int .i64 x0.fr) := (HCe.out 2 (by decide)).1
          have e3 : w7.cell? ⟨gm, i * 5 + 3, none⟩ = some (.int .i64 x0.to) := (HCe.out 3 (by decide)).1
          have e4 : w7.cell? ⟨gm, i * 5 + 4, none⟩ = some (.int .i64 x0.kids) := (HCe.out 4 (by decide)).1
          have f0 : w7.frozen? ⟨gm, i * 5, none⟩ = false := (HCe.out 0 (by decide)).2
          have f1 : w7.frozen? ⟨gm, i * 5 + 1, none⟩ = false := (HCe.out 1 (by decide)).2
          have f2 : w7.frozen? ⟨gm, i * 5 + 2, none⟩ = false := (HCe.out 2 (by decide)).2
          have f3 : w7.frozen? ⟨gm, i * 5 + 3, none⟩ = false := (HCe.out 3 (by decide)).2
          have f4 : w7.frozen? ⟨gm, i * 5 + 4, none⟩ = false := (HCe.out 4 (by decide)).2
          have HP := Lib.hid (HI7.out.put5 HI.out.2.1 hit (mkT μ ((a : Int) + k) i))
          clear HCe HI7 hx0
          go_wp2_with fail
          go_roundw
          case rel =>
            refine ⟨i + 1, M.set i (mkT μ ((a : Int) + k) i), by omega, by go_num, HP.out, by rw [List.length_set]; exact HI.out.2.1, fun i' hi' => ?_⟩
            rw [List.getElem?_set]
            by_cases e : i = i'
            · subst e; rw [if_pos rfl, if_pos (by have := HI.out.2.1; omega)]
            · rw [if_neg e]; exact HI.out.2.2 i' (by omega)
          case measure => simp [intOf]; omega
        · have hie : i = 64 := by omega
          have hMe : M = mrow μ (a + k) 64 := mrow_of HI.out.2.1 (fun j hj => by have := HI.out.2.2 j (by omega); rw [this]; simp)
          have HO7 := Lib.hid (hMe ▸ HI.out.1)
          have HG7 := Lib.hid ((HS.out.1.below HI.out.1.2).next hat)
          have HZ := Lib.hid HS.out.2
          clear hie hMe
          obtain ⟨ra, rcap, hR, hc0, hrc1, hrc2⟩ := HG7.out.fl.row hat
          have hna := HN.out a hat
          have HSv : Hid (Sv wr (some ⟨gm, 0, none⟩) 64 64 5 ((mrow μ (a + k) 64).flatMap twc)) := by
            obtain ⟨ao, cap, hv, hs⟩ := HO7.out.sv
            cases hv; exact hs
          have HOc := Lib.hid (twc_one (mrow μ (a + k) 64))
          have HOw : Hid (wr.ownsRow B 57 5 (.slice ra (n a) rcap) (mrow μ a (n a)).length ((mrow μ a (n a)).flatMap twc)) := by
            have := HG7.out.fl.two.own1 a hat
            rw [hR] at this; exact this
          have HLn : Hid (((mrow μ a (n a)).length + 64) * 40 ≤ 140737488355328 ∧ (mrow μ a (n a)).length + 64 ≤ maxLen) := by unfold Hid maxLen; rw [mrow_len]; omega
          have HR := Lib.hid hR; clear hR
          have HAp : Hid (∀ v8 w8, AppTo wr B 57 5 (.slice ra (n a) rcap) (mrow μ a (n a)).length ((mrow μ a (n a)).flatMap twc) 64 ((mrow μ (a + k) 64).flatMap twc) v8 w8 →
              ∃ go gcap, v8 = .slice go (n a + 64) gcap ∧ Fg w w8 B k lg lc gg R n (fun k' => mrow μ k' (n k')) (a + 1) (upd G a v8) (upd Z a (mrow μ a (n a) ++ mrow μ (a + k) 64)) a L ∧ (∃ u, w8.cell? ⟨gg, a, none⟩ = some u) ∧ w8.frozen? ⟨gg, a, none⟩ = false) := fun v8 w8 hA => by
            have h1 := HG7.out.app (ys := mrow μ (a + k) 64) (v' := v8) (w' := w8) (by rw [upd_same, upd_same, HR.out, mrow_len μ (a + k)]; exact hA)
            rw [upd_upd, upd_upd, upd_same] at h1
            obtain ⟨go, gcap, hv, _⟩ := h1.val (k := a) (by omega)
            rw [upd_same, upd_same, List.length_append, mrow_len, mrow_len] at hv
            refine ⟨go, gcap, hv, h1, ⟨L[a]'(by have := h1.gs.1; omega), ?_⟩, h1.gs.frozenAt a⟩
            rw [h1.gs.cellAt a (by omega), List.getElem?_eq_getElem]
          clear HG7
          generalize hnn : n a = na at *
          have HNN := Lib.hid hnn; clear hnn
          go_wp2_with (first
            | (at_builtin; refine wpList_appf _ B rfl (.tmp 148) (.tmp 149) 36 57 rfl elemTw _ _ _ rfl HOw.out _ 64 64 _ rfl HSv.out HOc.out (by decide) HLn.out ?_; intro v8 w8 hA; obtain ⟨go, gcap, hv8, hfg, ⟨u0, hu0⟩, hf0⟩ := HAp.out v8 w8 hA; have HF := Lib.hid hfg; subst hv8; clear hA hfg))
          have HSt := Lib.hid HF.out.set
          rw [upd_same] at HSt
          go_roundw
          case rel =>
            refine ⟨a + 1, _, _, _, by omega, by go_num, HSt.out, fun a' ha' => ?_⟩
            by_cases e : a' = a
            · subst e; rw [upd_same, HNN.out]
            · rw [upd_other _ _ e]; exact HZ.out a' (by omega)
          case measure => simp [intOf]; omega
    · obtain rfl : k = a := by omega
      have HE : Hid (∃ (G : Nat → Value) (Z : Nat → List Tw) (L : List Value), Fg w wr B k lg lc gg R n (fun k' => mrow μ k' (n k')) k G Z k L ∧ ∀ a, a < k → Z a = mrow μ a (n a) ++ mrow μ (a + k) 64) := ⟨G, Z, L, HS.out⟩
      clear HS
      go_wp2_with fail
      exact HE
end Go.Proofs.Ytmpccinbeepbgaa
