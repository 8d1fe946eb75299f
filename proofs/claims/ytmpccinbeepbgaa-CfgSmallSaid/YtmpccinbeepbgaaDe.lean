/- Walk: the reference's test of a table. -/
import Derived.Test.YtmpccinbeepbgaaCK
import Derived.Test.YtmpccinbeepbgaaAp
import Derived.Deep.RegionHeld3
namespace Go.Proofs.Ytmpccinbeepbgaa
open Go.RowKit

/-- The first i signs are right ones. -/
def okTo (l : Tab) (i : Nat) : Prop := ∀ j, j < i → ¬ isDig (sg l j) ∧ sg l j ≠ 40 ∧ sg l j ≠ 41 ∧ ∀ k, k < j → sg l k ≠ sg l j

theorem right_of {l : Tab} (hb : Byt l) (h1 : 1 ≤ l.length) (h2 : l.length ≤ 32) (h : okTo l l.length) : RightT l := by
  refine ⟨h1, h2, fun i hi => ?_, fun i j hi hj he => ?_⟩
  · obtain ⟨k1, k2, k3, _⟩ := h i hi
    have hm : 0 ≤ sg l i ∧ sg l i < 256 := by
      have := hb (l.getD i (0, false)) (by rw [List.getD_eq_getElem?_getD, List.getElem?_eq_getElem hi]; exact List.getElem_mem hi)
      exact this
    unfold sg at k1 k2 k3 hm
    exact ⟨hm.1, by omega, k1, k2, k3⟩
  · rcases Nat.lt_trichotomy i j with hlt | hlt | hlt
    · exact absurd he ((h j hj).2.2.2 i hlt)
    · exact hlt
    · exact absurd he.symm ((h i hi).2.2.2 j hlt)
theorem of_right {l : Tab} (h : RightT l) : okTo l l.length := fun j hj => by
  have := h.ok j hj
  exact ⟨this.2.2.1, this.2.2.2.1, this.2.2.2.2, fun k hk he => by have := h.apart k j (by omega) hj he; omega⟩
theorem okTo.sub {l : Tab} {i j : Nat} (h : okTo l i) (hj : j ≤ i) : okTo l j := fun k hk => h k (by omega)

set_option maxRecDepth 100000 in
set_option maxHeartbeats 2000000 in
theorem refRight_any (w : World) (lo : Option Addr) (ln lc : Nat) (l : Tab) (hb : Byt l) (ho : Sv w lo ln lc 2 (opc l)) :
    Calls Try.prog 45 #[.slice lo ln lc] w fun r w' => r = .returned (.bool (rightB l)) ∧ w = w' := by
  obtain ⟨h1, h2⟩ := ho.bound
  have hll := ho.ops_len
  have HR := Lib.hid (rightB_iff l hb)
  have HO := Lib.hid (fun i (hi : i < ln) => opc_cell ho i (by omega))
  have HLl := Lib.hid hll
  have HOk := Lib.hid (fun h1 h2 h => right_of hb h1 h2 h)
  clear ho hb hll
  by_cases c1 : 1 ≤ ln
  · by_cases c2 : ln ≤ 32
    · go_enter Try.func45, Try.ntmps45
      go_wp2_with fail
      go_loop [3] (fun i => ∃ k : Nat, k ≤ ln ∧ i = .int .i64 k ∧ Hid (okTo l k)) (fun i => ln - (intOf i).toNat)
      case atStart => exact ⟨0, by omega, rfl, fun j hj => absurd hj (by omega)⟩
      case round =>
        obtain ⟨k, hk, rfl, HK⟩ := hrel
        by_cases hlt : k < ln
        · have hlt' : (k : Int) < ln := by omega
          obtain ⟨la, rfl, l0, _⟩ := HO.out k hlt
          have HNo : Hid (¬ (isDig (sg l k)) → sg l k ≠ 40 → sg l k ≠ 41 → (∀ j, j < k → sg l j ≠ sg l k) → okTo l (k + 1)) := fun g1 g2 g3 g4 j hj => by
            by_cases e : j = k
            · subst e; exact ⟨g1, g2, g3, g4⟩
            · exact HK.out j (by omega)
          have HBad : Hid (¬ okTo l (k + 1) → rightB l = false) := fun hbad => by
            rw [← Bool.not_eq_true]
            intro hr
            exact hbad ((of_right (HR.out.1 hr)).sub (by have := HLl.out; omega))
          have HSg := Lib.hid (fun (h : okTo l (k + 1)) => h k (by omega))
          have HIs := Lib.hid (show isDig (sg l k) ↔ 48 ≤ sg l k ∧ sg l k ≤ 57 from Iff.rfl)
          by_cases d1 : 48 ≤ sg l k ∧ sg l k ≤ 57
          · obtain ⟨e1, e2⟩ := d1
            have HF : Hid (rightB l = false) := HBad.out (fun h => (HSg.out h).1 (HIs.out.2 ⟨e1, e2⟩))
            clear HNo HBad HSg HIs
            generalize sg l k = c at *
            go_wp2_with fail
            go_ret
            exact ⟨by rw [HF.out]; rfl, rfl⟩
          · by_cases d2 : sg l k = 40
            · have HF : Hid (rightB l = false) := HBad.out (fun h => (HSg.out h).2.1 d2)
              rw [d2] at l0
              clear HNo HBad HSg HIs d1 d2
              go_wp2_with fail
              go_ret
              exact ⟨by rw [HF.out]; rfl, rfl⟩
            · by_cases d3 : sg l k = 41
              · have HF : Hid (rightB l = false) := HBad.out (fun h => (HSg.out h).2.2.1 d3)
                rw [d3] at l0
                clear HNo HBad HSg HIs d1 d2 d3
                go_wp2_with fail
                go_ret
                exact ⟨by rw [HF.out]; rfl, rfl⟩
              · have HN2 := Lib.hid (HNo.out (fun h => d1 (HIs.out.1 h)) d2 d3)
                have HB2 := Lib.hid (fun j (hj : j < k) (he : sg l j = sg l k) => HBad.out (fun h => (HSg.out h).2.2.2 j hj he))
                clear HNo HBad HSg HIs
                generalize hc : sg l k = c at *
                have t2 : (c == 40) = false := by simpa using d2
                have t3 : (c == 41) = false := by simpa using d3
                have hd : c < 48 ∨ (48 ≤ c ∧ 57 < c) := by omega
                clear d1 d2 d3
                have HC := Lib.hid hc; clear hc
                rcases hd with hd | ⟨hd, hd'⟩
                all_goals
                  go_wp2_with fail
                  go_loop [5] (fun i => ∃ j : Nat, j ≤ k ∧ i = .int .i64 j ∧ Hid (∀ j', j' < j → sg l j' ≠ c)) (fun i => k - (intOf i).toNat)
                  case atStart => exact ⟨0, by omega, rfl, fun j' hj' => absurd hj' (by omega)⟩
                  case round =>
                    obtain ⟨j, hj, rfl, HJ⟩ := hrel
                    by_cases hjt : j < k
                    · have hjt' : (j : Int) < k := by omega
                      obtain ⟨la', hla, m0, _⟩ := HO.out j (by omega)
                      cases hla
                      by_cases he : sg l j = c
                      · have HF : Hid (rightB l = false) := HB2.out j hjt he
                        rw [he] at m0
                        clear he HN2 HB2
                        go_wp2_with fail
                        go_ret
                        exact ⟨by rw [HF.out]; rfl, rfl⟩
                      · have t4 : (sg l j == c) = false := by simpa using he
                        have HJ2 : Hid (∀ j', j' < j + 1 → sg l j' ≠ c) := fun j' hj' => by
                          by_cases e : j' = j
                          · subst e; exact he
                          · exact HJ.out j' (by omega)
                        clear he
                        generalize sg l j = x at m0 t4
                        go_wp2_with fail
                        go_round
                        case rel => exact ⟨j + 1, by omega, by go_num, HJ2⟩
                        case measure => simp [intOf]; omega
                    · have hje : j = k := by omega
                      have HK2 : Hid (okTo l (k + 1)) := HN2.out (hje ▸ HJ.out)
                      have hge : (k : Int) ≤ j := by omega
                      clear hje HN2 HB2
                      go_wp2_with fail
                      go_round
                      case rel => exact ⟨k + 1, by omega, by go_num, HK2⟩
                      case measure => simp [intOf]; omega
        · have hke : ln = k := by omega
          have HF : Hid (rightB l = true) := HR.out.2 (HOk.out (by have := HLl.out; omega) (by have := HLl.out; omega) (by rw [HLl.out, hke]; exact HK.out))
          have hge : (ln : Int) ≤ k := by omega
          clear hke
          go_wp2_with fail
          go_ret
          exact ⟨by rw [HF.out]; rfl, rfl⟩
    · have HF : Hid (rightB l = false) := by
        unfold Hid
        rw [← Bool.not_eq_true]
        intro hr
        have := (HR.out.1 hr).le; have := HLl.out; omega
      have c2' : (32 : Int) < ln := by omega
      go_enter Try.func45, Try.ntmps45
      go_wp2_with fail
      go_ret
      exact ⟨by rw [HF.out]; rfl, rfl⟩
  · have HF : Hid (rightB l = false) := by
      unfold Hid
      rw [← Bool.not_eq_true]
      intro hr
      have := (HR.out.1 hr).pos; have := HLl.out; omega
    have c1' : (ln : Int) < 1 := by omega
    go_enter Try.func45, Try.ntmps45
    go_wp2_with fail
    go_ret
    exact ⟨by rw [HF.out]; rfl, rfl⟩
end Go.Proofs.Ytmpccinbeepbgaa
namespace Go.Proofs.Ytmpccinbeepbgaa
open Go.RowKit

set_option maxRecDepth 100000 in
set_option maxHeartbeats 1000000 in
theorem refMay_any (w : World) (lo : Option Addr) (ln lc : Nat) (wo : Option Addr) (wn wc : Nat) (l : Tab) (ho : Sv w lo ln lc 2 (opc l)) (hb : Byt l) (lv p q : Int) :
    Calls Try.prog 27 #[.slice lo ln lc, .int .i64 lv, .slice wo wn wc, .int .i64 p, .int .i64 q] w fun r w' => r = .returned (.bool (mayAsk l wn lv p q)) ∧ w = w' := by
  have hln := ho.ops_len
  have HRi := Lib.hid (refRight_any w lo ln lc l hb ho)
  clear ho hb
  unfold mayAsk
  rw [hln]
  clear hln
  generalize rightB l = b at *
  cases b
  · go_enter Try.func27, Try.ntmps27
    go_wp2_with fail
    refine HRi.out.mono ?_
    rintro e w2 ⟨rfl, rfl⟩
    clear HRi
    go_wp2_with fail
    go_ret
    exact ⟨by simp, rfl⟩
  · by_cases h1 : 0 ≤ lv <;> by_cases h2 : lv ≤ ln <;> by_cases h3 : 0 ≤ p <;> by_cases h4 : p ≤ q <;> by_cases h5 : q ≤ wn
    all_goals
      go_enter Try.func27, Try.ntmps27
      go_wp2_with fail
      refine HRi.out.mono ?_
      rintro e w2 ⟨rfl, rfl⟩
      clear HRi
      go_wp2_with fail
      all_goals (go_ret; exact ⟨by simp [h1, h2, h3, h4, h5], rfl⟩)
end Go.Proofs.Ytmpccinbeepbgaa
namespace Go.Proofs.Ytmpccinbeepbgaa
open Go.RowKit

theorem elemOp2 : Elem Try.prog 28 61 2 2 (.agg #[.int .u8 0, .bool false]) := ⟨by kernel_rfl, by kernel_rfl, rfl, by decide⟩
theorem opc_take (l : Tab) (k : Nat) (hk : k < l.length) : opc (l.take k) ++ [.int .u8 (sg l k), .bool (rg l k)] = opc (l.take (k + 1)) := by
  have e1 : sg l k = l[k].1 := by simp [sg, List.getD_eq_getElem?_getD, hk]
  have e2 : rg l k = l[k].2 := by simp [rg, List.getD_eq_getElem?_getD, hk]
  rw [List.take_succ_eq_append_getElem hk, e1, e2]
  unfold opc
  rw [List.flatMap_append]
  rfl

set_option maxRecDepth 100000 in
set_option maxHeartbeats 2000000 in
theorem turned_any (w : World) (lo : Option Addr) (ln lc : Nat) (l : Tab) (ho : Sv w lo ln lc 2 (opc l)) (hln : ln ≤ 1000) :
    Calls Try.prog 10 #[.slice lo ln lc] w fun r w' => ∃ v, r = .returned v ∧ Own w w' 61 2 v ln (opc l) := by
  obtain ⟨h1, h2⟩ := ho.bound
  have hll := ho.ops_len
  have HO := Lib.hid (fun w' (hb : Below w.heap.size w w') => ho.below hb); have HLl := Lib.hid hll
  clear ho hll
  go_enter Try.func10, Try.ntmps10
  go_wp2_with fail
  go_loopw [3, 4] (fun v i wr => ∃ k : Nat, k ≤ ln ∧ i = .int .i64 k ∧ Hid (Own w wr 61 2 v k (opc (l.take k)))) (fun _ i _ => ln - (intOf i).toNat)
  case atStart => exact ⟨0, by omega, rfl, Own.nil w 61 2⟩
  case round =>
    obtain ⟨k, hk, rfl, HI⟩ := hrel
    by_cases hlt : k < ln
    · have hlt' : (k : Int) < ln := by omega
      obtain ⟨la, rfl, l0, l1⟩ := opc_cell (HO.out _ HI.out.2) k (by have := HLl.out; omega)
      have e3 : la.add (k * 2 + 1) = ⟨(la.add (k * 2)).block, (la.add (k * 2)).off + 1, none⟩ := by rw [← add_add]; rfl
      rw [e3] at l1
      obtain ⟨la', hla, m0, m1⟩ := opc_cell (HO.out w (Below.refl _ _)) k (by have := HLl.out; omega)
      cases hla
      rw [e3] at m1
      have hlb := World.block_lt_of_cell? w _ m0
      have HTk := Lib.hid (opc_take l k (by have := HLl.out; omega))
      clear e3
      have HD0 : Hid (Below wr.heap.size wr (wr.drew.alloc (.cells #[.int .u8 (sg l k), .bool (rg l k)] 61))) := ((Below.refl wr.heap.size wr).drew).alloc (Nat.le_refl _) _
      have HSv : Hid (Sv (wr.drew.alloc (.cells #[.int .u8 (sg l k), .bool (rg l k)] 61)) (some ⟨wr.drew.heap.size, 0, none⟩) 1 1 2 [.int .u8 (sg l k), .bool (rg l k)]) := Sv.lit wr.drew 61 #[.int .u8 (sg l k), .bool (rg l k)] 1 2 (by decide) rfl
      have HOc : Hid (∀ u ∈ ([.int .u8 (sg l k), .bool (rg l k)] : List Value), u.oneCell' = true) := by
        intro u hu
        simp only [List.mem_cons, List.not_mem_nil, or_false] at hu
        rcases hu with rfl | rfl <;> rfl
      have HOw := Lib.hid (HI.out.below HD0.out)
      have HLn : Hid ((k + 1) * 2 ≤ 140737488355328 ∧ k + 1 ≤ maxLen) := by unfold Hid maxLen; omega
      generalize sg l k = c at *
      generalize rg l k = r at *
      go_wp2_with fail
      go_region_held3 (fun w' => w'.cell? (la.add (k * 2)) = some (.int .u8 c) ∧ w'.cell? ⟨(la.add (k * 2)).block, (la.add (k * 2)).off + 1, none⟩ = some (.bool r))
        (first | (exact ⟨(HDc.out.cell hlb).trans m0, (HDc.out.cell (p := ⟨(la.add (k * 2)).block, (la.add (k * 2)).off + 1, none⟩) hlb).trans m1⟩) | go_keep)
        ((first
          | (refine step_appz (w0 := w) (by rfl) (.tmp 11) (.tmp 23) 28 61 (by rfl) elemOp2 _ k _ (by rfl) HOw.out _ 1 1 _ (by rfl) HSv.out HOc.out HLn.out ?_; intro vc wcc hoc hfc; have HOc2 := Lib.hid hoc; have HDc := Lib.hid hoc.2; clear hoc hfc)))
      rw [HTk.out] at HOc2
      go_wp2_with fail
      go_roundw
      case rel => exact ⟨k + 1, by omega, by go_num, HOc2⟩
      case measure => simp [intOf]; omega
    · have hke : k = ln := by omega
      have hge : (ln : Int) ≤ k := by omega
      have hE := HI.out
      rw [hke, List.take_of_length_le (by have := HLl.out; omega)] at hE
      have HE := Lib.hid hE
      clear hE
      clear hke HI
      go_wp2_with fail
      go_ret
      exact ⟨_, rfl, HE.out⟩
end Go.Proofs.Ytmpccinbeepbgaa
