/- Walk: CfgFronts. -/
import Derived.Test.YtmpccinbeepbgaaCK
namespace Go.Proofs.Ytmpccinbeepbgaa
open Go.RowKit

set_option maxRecDepth 100000 in
set_option maxHeartbeats 2000000 in
theorem fronts_out (w : World) (lo : Option Addr) (ln lc : Nat) (l : Tab) (wo : Option Addr) (wn wc : Nat) (hb : Byt l) (ho : Sv w lo ln lc 2 (opc l)) (h1 : wn ≤ wc ∧ wc ≤ 9223372036854775807) (pl : Int)
    (hout : ¬ (wn ≤ 30 ∧ rightB l = true ∧ 0 ≤ pl ∧ pl ≤ wn)) :
    Calls Try.prog 6 #[.slice lo ln lc, .slice wo wn wc, .int .i64 pl] w (Yes w) := by
  obtain ⟨h3, h4⟩ := ho.bound
  obtain ⟨h1, h1'⟩ := h1
  have HRi := Lib.hid (fun w' (hb' : Below w.heap.size w w') => right_any w' lo lc ln l (ho.below hb') hb)
  clear ho hb
  generalize rightB l = b at *
  by_cases c1 : wn ≤ 30
  · cases b
    · clear hout
      go_enter Try.func6, Try.ntmps6
      go_wp2_with fail
      refine (awake_any _).mono ?_
      rintro e w2 ⟨rfl, hb2⟩
      have HB2 := Lib.hid hb2; clear hb2
      go_wp2_with fail
      refine (HRi.out _ HB2.out).mono ?_
      rintro e w3 ⟨rfl, hb3⟩
      have HB3 := Lib.hid (HB2.out.trans (hb3.mono HB2.out.size)); clear hb3
      go_wp2_with fail
      go_ret
      exact ⟨rfl, HB3.out⟩
    · have c3 : pl < 0 ∨ (0 ≤ pl ∧ (wn : Int) < pl) := by
        by_cases h0 : 0 ≤ pl
        · by_cases h1 : pl ≤ wn
          · exact absurd ⟨c1, rfl, h0, h1⟩ hout
          · exact .inr ⟨h0, by omega⟩
        · exact .inl (by omega)
      clear hout
      rcases c3 with c3 | ⟨c2, c3⟩
      all_goals
        go_enter Try.func6, Try.ntmps6
        go_wp2_with fail
        refine (awake_any _).mono ?_
        rintro e w2 ⟨rfl, hb2⟩
        have HB2 := Lib.hid hb2; clear hb2
        go_wp2_with fail
        refine (HRi.out _ HB2.out).mono ?_
        rintro e w3 ⟨rfl, hb3⟩
        have HB3 := Lib.hid (HB2.out.trans (hb3.mono HB2.out.size)); clear hb3
        go_wp2_with fail
        go_ret
        exact ⟨rfl, HB3.out⟩
  · clear hout
    go_enter Try.func6, Try.ntmps6
    go_wp2_with fail
    refine (awake_any _).mono ?_
    rintro e w2 ⟨rfl, hb2⟩
    have HB2 := Lib.hid hb2; clear hb2
    go_wp2_with fail
    go_ret
    exact ⟨rfl, HB2.out⟩

/-- The end of a slice. -/
theorem Sv.drop {w : World} {a : Addr} {n cap s : Nat} {xs : List Value} (h : Sv w (some a) n cap s xs) (k : Nat) (hk : k ≤ n) : Sv w (some (a.add (k * s))) (n - k) (cap - k) s (xs.drop (k * s)) := by
  have hl := h.len
  have hle := h.le
  refine ⟨by rw [List.length_drop, hl, Nat.sub_mul], by omega, by have := h.cm; omega, (fun h => nomatch h), fun j hj => ⟨_, rfl, ?_⟩⟩
  rw [List.length_drop] at hj
  obtain ⟨a', ha, hc⟩ := h.cell (k * s + j) (by omega)
  cases ha
  rw [add_add, hc, List.getElem?_drop]

set_option maxRecDepth 100000 in
set_option maxHeartbeats 1500000 in
theorem fronts_none_part (w : World) (lo : Option Addr) (ln lc : Nat) (l : Tab) (a0 : Addr) (p wn wc : Nat) (W : List Int) (hb : Byt l) (ho : Sv w lo ln lc 2 (opc l)) (hW : Sv w (some a0) wn wc 1 (byc W)) (hwn : wn ≤ 30) (hl : RightT l) (hp : p ≤ wn) (hpc : p < wc) (hg : lgO l W p = none) :
    Calls Try.prog 6 #[.slice lo ln lc, .slice (some a0) wn wc, .int .i64 p] w (Yes w) := by
  obtain ⟨h3, h4⟩ := ho.bound
  obtain ⟨h1, h1'⟩ := hW.bound
  have hln := ho.ops_len
  have hwl := hW.byte_len
  have hl32 := hl.le
  have hln32 : ln ≤ 32 := by omega
  have HRi := Lib.hid (fun w' (hb' : Below w.heap.size w w') => right_any w' lo lc ln l (ho.below hb') hb)
  rw [show rightB l = true from (rightB_iff l hb).2 hl] at HRi
  have HLg := Lib.hid (fun w' (hb' : Below w.heap.size w w') => longest_any w' lo ln lc (some a0) wn wc l W hb (by omega) (ho.below hb') (hW.below hb') p)
  have HDw := Lib.hid (fun w' (hb' : Below w.heap.size w w') q => der_any w' lo ln lc (some a0) wn wc l W hb (by omega) (ho.below hb') (hW.below hb') 0 p q)
  have HDj := Lib.hid (fun w' (hb' : Below w.heap.size w w') jo jn jc (hj : Sv w' jo jn jc 1 (byc (40 :: (W.drop p ++ [41])))) (q : Int) => der_any w' lo ln lc jo jn jc l _ hb (by simp; omega) (ho.below hb') hj ln 0 q)
  have HWs := Lib.hid (fun w' (hb' : Below w.heap.size w w') => (hW.below hb').drop p hp)
  have hbr := der_brackets hl (w := W) (a := p) (by omega)
  have hno := lg_none hl (w := W) (a := p) (by omega) hg
  rw [hwl] at hno
  rw [hwl, hln] at hbr
  have HBr := Lib.hid hbr; have HLen := Lib.hid hln; have HWl := Lib.hid hwl
  rw [hg] at HLg
  have HBo := Lib.hid (byc_one (W.drop p))
  have HLn : Hid (((1 + (wn - p)) * 1 ≤ 140737488355328 ∧ 1 + (wn - p) ≤ maxLen) ∧ (1 + (wn - p) + 1) * 1 ≤ 140737488355328 ∧ 1 + (wn - p) + 1 ≤ maxLen) := by unfold Hid maxLen; omega
  have HO41 : Hid (∀ u ∈ ([.int .u8 41] : List Value), u.oneCell' = true) := by intro u hu; simp only [List.mem_singleton] at hu; subst hu; rfl
  have HNo := Lib.hid hno; clear hno
  clear ho hW hl hb hln hwl hbr hg
  go_enter Try.func6, Try.ntmps6
  go_wp2_with fail
  refine (awake_any _).mono ?_
  rintro e w2 ⟨rfl, hb2⟩
  have HB2 := Lib.hid hb2; clear hb2
  go_wp2_with fail
  refine (HRi.out _ HB2.out).mono ?_
  rintro e w3 ⟨rfl, hb3⟩
  have HB3 := Lib.hid (HB2.out.trans (hb3.mono HB2.out.size)); clear hb3 HRi HB2
  go_wp2_with fail
  refine (HLg.out _ HB3.out).mono ?_
  rintro e w4 ⟨rfl, hb3⟩
  have HB4 := Lib.hid (HB3.out.trans (hb3.mono HB3.out.size)); clear hb3 HB3 HLg
  unfold lgV
  go_wp2_with fail
  go_loopw [9] (fun i wr => ∃ k : Nat, k ≤ wn + 1 ∧ i = .int .i64 k ∧ Hid (Below w.heap.size w wr)) (fun i _ => wn + 1 - (intOf i).toNat)
  case atStart => exact ⟨p, by omega, rfl, HB4⟩
  case round =>
    clear HB4
    obtain ⟨k, hk, rfl, HBr'⟩ := hrel
    by_cases hlt : k ≤ wn
    · have hlt' : (k : Int) ≤ wn := by omega
      have HK := Lib.hid (HNo.out k hlt)
      go_wp2_with fail
      refine (HDw.out _ HBr'.out _).mono ?_
      rintro e w5 ⟨rfl, hbx⟩
      rw [show derB l W 0 p k = false from HK.out]
      have HB5 := Lib.hid (HBr'.out.trans (hbx.mono HBr'.out.size)); clear hbx
      go_wp2_with fail
      go_roundw
      case rel => exact ⟨k + 1, by omega, by go_num, HB5⟩
      case measure => simp [intOf]; omega
    · have hge : (wn : Int) < k := by omega
      clear hlt
      have HT : Hid (Sv (wr.alloc (.cells #[.int .u8 40] 5)) (some (a0.add p)) (wn - p) (wc - p) 1 (byc (W.drop p))) := by
        have := HWs.out _ (HBr'.out.alloc HBr'.out.size (.cells #[.int .u8 40] 5))
        rw [Nat.mul_one, show (byc W).drop p = byc (W.drop p) by simp [byc, List.map_drop]] at this
        exact this
      have HO1 : Hid (Own wr (wr.alloc (.cells #[.int .u8 40] 5)) 5 1 (.slice (some ⟨wr.heap.size, 0, none⟩) 1 1) 1 [.int .u8 40]) := Own.lit wr 5 #[.int .u8 40] 1 1 (by decide) rfl
      go_wp2_with (first
        | (at_builtin; refine wpList_apps wr _ rfl (.tmp 87) (.tmp 90) 23 5 rfl elemBy _ 1 [.int .u8 40] rfl HO1.out _ _ _ (byc (W.drop p)) rfl HT.out HBo.out HLn.out.1.1 HLn.out.1.2 ?_; intro v6 w6 hO6; have HO6 := Lib.hid hO6; clear hO6)
        | (at_builtin; refine wpList_apps wr _ rfl (.tmp 91) (.tmp 92) 23 5 rfl elemBy _ (1 + (wn - p)) _ rfl (HO6.out.below ((Below.refl _ _).alloc (Nat.le_refl _) _)) _ 1 1 [.int .u8 41] rfl (Sv.lit w6 5 #[.int .u8 41] 1 1 (by decide) rfl) HO41.out HLn.out.2.1 HLn.out.2.2 ?_; intro v7 w7 hO7; obtain ⟨jo, jc, rfl, hjs⟩ := hO7.sv; have HJs := Lib.hid hjs; have HO7 := Lib.hid hO7; clear hO7 hjs))
      have HJ : Hid (Sv w7 jo (1 + (wn - p) + 1) jc 1 (byc (40 :: (W.drop p ++ [41])))) := by
        have := HJs.out
        rwa [show ([.int .u8 40] ++ byc (W.drop p) ++ [.int .u8 41] : List Value) = byc (40 :: (W.drop p ++ [41])) by simp [byc]] at this
      have HB7 := Lib.hid (HBr'.out.trans (HO7.out.2.mono HBr'.out.size))
      have HBk : Hid (derB l (40 :: (W.drop p ++ [41])) ln 0 (1 + ((wn - p : Nat) : Int) + 1) = derB l W 0 p wn) := by
        have := HBr.out
        unfold Hid
        rw [show ((1 + ((wn - p : Nat) : Int) + 1) : Int) = ((wn - p + 2 : Nat) : Int) by omega]
        exact this
      clear HJs HO7 HBr HT HO1 HO6 HBo HO41 HLn
      generalize hx : derB l W 0 p wn = x at *
      have HX := Lib.hid hx; clear hx
      cases x
      all_goals
        go_wp2_with fail
        refine (HDj.out _ HB7.out jo (1 + (wn - p) + 1) jc HJ.out _).mono ?_
        rintro e w8 ⟨rfl, hbx⟩
        rw [HBk.out]
        have HB8 := Lib.hid (HB7.out.trans (hbx.mono HB7.out.size)); clear hbx
        go_wp2_with fail
        refine (HDw.out _ HB8.out _).mono ?_
        rintro e w9 ⟨rfl, hbx⟩
        rw [HX.out]
        have HB9 := Lib.hid (HB8.out.trans (hbx.mono HB8.out.size)); clear hbx
        go_wp2_with fail
        go_ret
        exact ⟨rfl, HB9.out⟩

set_option maxRecDepth 100000 in
set_option maxHeartbeats 1500000 in
theorem fronts_none_full (w : World) (lo : Option Addr) (ln lc : Nat) (l : Tab) (a0 : Addr) (p : Nat) (W : List Int) (hb : Byt l) (ho : Sv w lo ln lc 2 (opc l)) (hW : Sv w (some a0) p p 1 (byc W)) (hwn : p ≤ 30) (hl : RightT l)  (hg : lgO l W p = none) :
    Calls Try.prog 6 #[.slice lo ln lc, .slice (some a0) p p, .int .i64 p] w (Yes w) := by
  obtain ⟨h3, h4⟩ := ho.bound
  obtain ⟨h1, h1'⟩ := hW.bound
  have hln := ho.ops_len
  have hwl := hW.byte_len
  have hl32 := hl.le
  have hln32 : ln ≤ 32 := by omega
  have HRi := Lib.hid (fun w' (hb' : Below w.heap.size w w') => right_any w' lo lc ln l (ho.below hb') hb)
  rw [show rightB l = true from (rightB_iff l hb).2 hl] at HRi
  have HLg := Lib.hid (fun w' (hb' : Below w.heap.size w w') => longest_any w' lo ln lc (some a0) p p l W hb (by omega) (ho.below hb') (hW.below hb') p)
  have HDw := Lib.hid (fun w' (hb' : Below w.heap.size w w') q => der_any w' lo ln lc (some a0) p p l W hb (by omega) (ho.below hb') (hW.below hb') 0 p q)
  have HDj := Lib.hid (fun w' (hb' : Below w.heap.size w w') jo jn jc (hj : Sv w' jo jn jc 1 (byc (40 :: (W.drop p ++ [41])))) (q : Int) => der_any w' lo ln lc jo jn jc l _ hb (by simp; omega) (ho.below hb') hj ln 0 q)
  have HWs := Lib.hid (fun w' (hb' : Below w.heap.size w w') => (hW.below hb'))
  have hbr := der_brackets hl (w := W) (a := p) (by omega)
  have hno := lg_none hl (w := W) (a := p) (by omega) hg
  rw [hwl] at hno
  rw [hwl, hln] at hbr
  have HBr := Lib.hid hbr; have HLen := Lib.hid hln; have HWl := Lib.hid hwl
  rw [hg] at HLg
  have HBo := Lib.hid (byc_one (W.drop p))
  have HLn : Hid (((1 + (0)) * 1 ≤ 140737488355328 ∧ 1 + (0) ≤ maxLen) ∧ (1 + (0) + 1) * 1 ≤ 140737488355328 ∧ 1 + (0) + 1 ≤ maxLen) := by unfold Hid maxLen; omega
  have HO41 : Hid (∀ u ∈ ([.int .u8 41] : List Value), u.oneCell' = true) := by intro u hu; simp only [List.mem_singleton] at hu; subst hu; rfl
  have HNo := Lib.hid hno; clear hno
  clear ho hW hl hb hln hwl hbr hg
  go_enter Try.func6, Try.ntmps6
  go_wp2_with fail
  refine (awake_any _).mono ?_
  rintro e w2 ⟨rfl, hb2⟩
  have HB2 := Lib.hid hb2; clear hb2
  go_wp2_with fail
  refine (HRi.out _ HB2.out).mono ?_
  rintro e w3 ⟨rfl, hb3⟩
  have HB3 := Lib.hid (HB2.out.trans (hb3.mono HB2.out.size)); clear hb3 HRi HB2
  go_wp2_with fail
  refine (HLg.out _ HB3.out).mono ?_
  rintro e w4 ⟨rfl, hb3⟩
  have HB4 := Lib.hid (HB3.out.trans (hb3.mono HB3.out.size)); clear hb3 HB3 HLg
  unfold lgV
  go_wp2_with fail
  go_loopw [9] (fun i wr => ∃ k : Nat, k ≤ p + 1 ∧ i = .int .i64 k ∧ Hid (Below w.heap.size w wr)) (fun i _ => p + 1 - (intOf i).toNat)
  case atStart => exact ⟨p, by omega, rfl, HB4⟩
  case round =>
    clear HB4
    obtain ⟨k, hk, rfl, HBr'⟩ := hrel
    by_cases hlt : k ≤ p
    · have hlt' : (k : Int) ≤ p := by omega
      have HK := Lib.hid (HNo.out k hlt)
      go_wp2_with fail
      refine (HDw.out _ HBr'.out _).mono ?_
      rintro e w5 ⟨rfl, hbx⟩
      rw [show derB l W 0 p k = false from HK.out]
      have HB5 := Lib.hid (HBr'.out.trans (hbx.mono HBr'.out.size)); clear hbx
      go_wp2_with fail
      go_roundw
      case rel => exact ⟨k + 1, by omega, by go_num, HB5⟩
      case measure => simp [intOf]; omega
    · have hge : (p : Int) < k := by omega
      clear hlt
      have HT : Hid (Sv (wr.alloc (.cells #[.int .u8 40] 5)) (some a0) (0) 0 1 (byc (W.drop p))) := by
        have := HWs.out _ (HBr'.out.alloc HBr'.out.size (.cells #[.int .u8 40] 5))
        have h0 : W.drop p = [] := List.drop_of_length_le (by have := HWl.out; omega)
        rw [h0]
        exact ⟨by simp [byc], by omega, by decide, fun _ => rfl, fun j hj => absurd hj (by simp [byc])⟩
      have HO1 : Hid (Own wr (wr.alloc (.cells #[.int .u8 40] 5)) 5 1 (.slice (some ⟨wr.heap.size, 0, none⟩) 1 1) 1 [.int .u8 40]) := Own.lit wr 5 #[.int .u8 40] 1 1 (by decide) rfl
      go_wp2_with (first
        | (at_builtin; refine wpList_apps wr _ rfl (.tmp 87) (.tmp 90) 23 5 rfl elemBy _ 1 [.int .u8 40] rfl HO1.out _ _ _ (byc (W.drop p)) rfl HT.out HBo.out HLn.out.1.1 HLn.out.1.2 ?_; intro v6 w6 hO6; have HO6 := Lib.hid hO6; clear hO6)
        | (at_builtin; refine wpList_apps wr _ rfl (.tmp 91) (.tmp 92) 23 5 rfl elemBy _ (1 + (0)) _ rfl (HO6.out.below ((Below.refl _ _).alloc (Nat.le_refl _) _)) _ 1 1 [.int .u8 41] rfl (Sv.lit w6 5 #[.int .u8 41] 1 1 (by decide) rfl) HO41.out HLn.out.2.1 HLn.out.2.2 ?_; intro v7 w7 hO7; obtain ⟨jo, jc, rfl, hjs⟩ := hO7.sv; have HJs := Lib.hid hjs; have HO7 := Lib.hid hO7; clear hO7 hjs))
      have HJ : Hid (Sv w7 jo 2 jc 1 (byc (40 :: (W.drop p ++ [41])))) := by
        have := HJs.out
        rwa [show ([.int .u8 40] ++ byc (W.drop p) ++ [.int .u8 41] : List Value) = byc (40 :: (W.drop p ++ [41])) by simp [byc]] at this
      have HB7 := Lib.hid (HBr'.out.trans (HO7.out.2.mono HBr'.out.size))
      have HBk : Hid (derB l (40 :: (W.drop p ++ [41])) ln 0 2 = derB l W 0 p p) := by
        have := HBr.out
        unfold Hid
        rw [show (2 : Int) = ((p - p + 2 : Nat) : Int) by omega]
        exact this
      clear HJs HO7 HBr HT HO1 HO6 HBo HO41 HLn
      generalize hx : derB l W 0 p p = x at *
      have HX := Lib.hid hx; clear hx
      cases x
      all_goals
        go_wp2_with fail
        refine (HDj.out _ HB7.out jo 2 jc HJ.out _).mono ?_
        rintro e w8 ⟨rfl, hbx⟩
        rw [HBk.out]
        have HB8 := Lib.hid (HB7.out.trans (hbx.mono HB7.out.size)); clear hbx
        go_wp2_with fail
        refine (HDw.out _ HB8.out _).mono ?_
        rintro e w9 ⟨rfl, hbx⟩
        rw [HX.out]
        have HB9 := Lib.hid (HB8.out.trans (hbx.mono HB8.out.size)); clear hbx
        go_wp2_with fail
        go_ret
        exact ⟨rfl, HB9.out⟩

set_option maxRecDepth 100000 in
set_option maxHeartbeats 1500000 in
theorem fronts_none_full_nil (w : World) (lo : Option Addr) (ln lc : Nat) (l : Tab) (p : Nat) (W : List Int) (hb : Byt l) (ho : Sv w lo ln lc 2 (opc l)) (hW : Sv w none p p 1 (byc W)) (hwn : p ≤ 30) (hl : RightT l)  (hg : lgO l W p = none) :
    Calls Try.prog 6 #[.slice lo ln lc, .slice none p p, .int .i64 p] w (Yes w) := by
  obtain ⟨h3, h4⟩ := ho.bound
  obtain ⟨h1, h1'⟩ := hW.bound
  have hln := ho.ops_len
  have hwl := hW.byte_len
  have hl32 := hl.le
  have hln32 : ln ≤ 32 := by omega
  have HRi := Lib.hid (fun w' (hb' : Below w.heap.size w w') => right_any w' lo lc ln l (ho.below hb') hb)
  rw [show rightB l = true from (rightB_iff l hb).2 hl] at HRi
  have HLg := Lib.hid (fun w' (hb' : Below w.heap.size w w') => longest_any w' lo ln lc none p p l W hb (by omega) (ho.below hb') (hW.below hb') p)
  have HDw := Lib.hid (fun w' (hb' : Below w.heap.size w w') q => der_any w' lo ln lc none p p l W hb (by omega) (ho.below hb') (hW.below hb') 0 p q)
  have HDj := Lib.hid (fun w' (hb' : Below w.heap.size w w') jo jn jc (hj : Sv w' jo jn jc 1 (byc (40 :: (W.drop p ++ [41])))) (q : Int) => der_any w' lo ln lc jo jn jc l _ hb (by simp; omega) (ho.below hb') hj ln 0 q)
  have HWs := Lib.hid (fun w' (hb' : Below w.heap.size w w') => (hW.below hb'))
  have hbr := der_brackets hl (w := W) (a := p) (by omega)
  have hno := lg_none hl (w := W) (a := p) (by omega) hg
  rw [hwl] at hno
  rw [hwl, hln] at hbr
  have HBr := Lib.hid hbr; have HLen := Lib.hid hln; have HWl := Lib.hid hwl
  rw [hg] at HLg
  have HBo := Lib.hid (byc_one (W.drop p))
  have HLn : Hid (((1 + (0)) * 1 ≤ 140737488355328 ∧ 1 + (0) ≤ maxLen) ∧ (1 + (0) + 1) * 1 ≤ 140737488355328 ∧ 1 + (0) + 1 ≤ maxLen) := by unfold Hid maxLen; omega
  have HO41 : Hid (∀ u ∈ ([.int .u8 41] : List Value), u.oneCell' = true) := by intro u hu; simp only [List.mem_singleton] at hu; subst hu; rfl
  have HNo := Lib.hid hno; clear hno
  clear ho hW hl hb hln hwl hbr hg
  go_enter Try.func6, Try.ntmps6
  go_wp2_with fail
  refine (awake_any _).mono ?_
  rintro e w2 ⟨rfl, hb2⟩
  have HB2 := Lib.hid hb2; clear hb2
  go_wp2_with fail
  refine (HRi.out _ HB2.out).mono ?_
  rintro e w3 ⟨rfl, hb3⟩
  have HB3 := Lib.hid (HB2.out.trans (hb3.mono HB2.out.size)); clear hb3 HRi HB2
  go_wp2_with fail
  refine (HLg.out _ HB3.out).mono ?_
  rintro e w4 ⟨rfl, hb3⟩
  have HB4 := Lib.hid (HB3.out.trans (hb3.mono HB3.out.size)); clear hb3 HB3 HLg
  unfold lgV
  go_wp2_with fail
  go_loopw [9] (fun i wr => ∃ k : Nat, k ≤ p + 1 ∧ i = .int .i64 k ∧ Hid (Below w.heap.size w wr)) (fun i _ => p + 1 - (intOf i).toNat)
  case atStart => exact ⟨p, by omega, rfl, HB4⟩
  case round =>
    clear HB4
    obtain ⟨k, hk, rfl, HBr'⟩ := hrel
    by_cases hlt : k ≤ p
    · have hlt' : (k : Int) ≤ p := by omega
      have HK := Lib.hid (HNo.out k hlt)
      go_wp2_with fail
      refine (HDw.out _ HBr'.out _).mono ?_
      rintro e w5 ⟨rfl, hbx⟩
      rw [show derB l W 0 p k = false from HK.out]
      have HB5 := Lib.hid (HBr'.out.trans (hbx.mono HBr'.out.size)); clear hbx
      go_wp2_with fail
      go_roundw
      case rel => exact ⟨k + 1, by omega, by go_num, HB5⟩
      case measure => simp [intOf]; omega
    · have hge : (p : Int) < k := by omega
      clear hlt
      have HT : Hid (Sv (wr.alloc (.cells #[.int .u8 40] 5)) none (0) 0 1 (byc (W.drop p))) := by
        have := HWs.out _ (HBr'.out.alloc HBr'.out.size (.cells #[.int .u8 40] 5))
        have h0 : W.drop p = [] := List.drop_of_length_le (by have := HWl.out; omega)
        rw [h0]
        exact ⟨by simp [byc], by omega, by decide, fun _ => rfl, fun j hj => absurd hj (by simp [byc])⟩
      have HO1 : Hid (Own wr (wr.alloc (.cells #[.int .u8 40] 5)) 5 1 (.slice (some ⟨wr.heap.size, 0, none⟩) 1 1) 1 [.int .u8 40]) := Own.lit wr 5 #[.int .u8 40] 1 1 (by decide) rfl
      go_wp2_with (first
        | (at_builtin; refine wpList_apps wr _ rfl (.tmp 87) (.tmp 90) 23 5 rfl elemBy _ 1 [.int .u8 40] rfl HO1.out _ _ _ (byc (W.drop p)) rfl HT.out HBo.out HLn.out.1.1 HLn.out.1.2 ?_; intro v6 w6 hO6; have HO6 := Lib.hid hO6; clear hO6)
        | (at_builtin; refine wpList_apps wr _ rfl (.tmp 91) (.tmp 92) 23 5 rfl elemBy _ (1 + (0)) _ rfl (HO6.out.below ((Below.refl _ _).alloc (Nat.le_refl _) _)) _ 1 1 [.int .u8 41] rfl (Sv.lit w6 5 #[.int .u8 41] 1 1 (by decide) rfl) HO41.out HLn.out.2.1 HLn.out.2.2 ?_; intro v7 w7 hO7; obtain ⟨jo, jc, rfl, hjs⟩ := hO7.sv; have HJs := Lib.hid hjs; have HO7 := Lib.hid hO7; clear hO7 hjs))
      have HJ : Hid (Sv w7 jo 2 jc 1 (byc (40 :: (W.drop p ++ [41])))) := by
        have := HJs.out
        rwa [show ([.int .u8 40] ++ byc (W.drop p) ++ [.int .u8 41] : List Value) = byc (40 :: (W.drop p ++ [41])) by simp [byc]] at this
      have HB7 := Lib.hid (HBr'.out.trans (HO7.out.2.mono HBr'.out.size))
      have HBk : Hid (derB l (40 :: (W.drop p ++ [41])) ln 0 2 = derB l W 0 p p) := by
        have := HBr.out
        unfold Hid
        rw [show (2 : Int) = ((p - p + 2 : Nat) : Int) by omega]
        exact this
      clear HJs HO7 HBr HT HO1 HO6 HBo HO41 HLn
      generalize hx : derB l W 0 p p = x at *
      have HX := Lib.hid hx; clear hx
      cases x
      all_goals
        go_wp2_with fail
        refine (HDj.out _ HB7.out jo 2 jc HJ.out _).mono ?_
        rintro e w8 ⟨rfl, hbx⟩
        rw [HBk.out]
        have HB8 := Lib.hid (HB7.out.trans (hbx.mono HB7.out.size)); clear hbx
        go_wp2_with fail
        refine (HDw.out _ HB8.out _).mono ?_
        rintro e w9 ⟨rfl, hbx⟩
        rw [HX.out]
        have HB9 := Lib.hid (HB8.out.trans (hbx.mono HB8.out.size)); clear hbx
        go_wp2_with fail
        go_ret
        exact ⟨rfl, HB9.out⟩

set_option maxRecDepth 100000 in
set_option maxHeartbeats 1500000 in
theorem fronts_some_part (w : World) (lo : Option Addr) (ln lc : Nat) (l : Tab) (a0 : Addr) (p wn wc : Nat) (W : List Int) (hb : Byt l) (ho : Sv w lo ln lc 2 (opc l)) (hW : Sv w (some a0) wn wc 1 (byc W)) (hwn : wn ≤ 30) (hl : RightT l) (hp : p ≤ wn) (hpc : p < wc) (e0 : Nat) (hg : lgO l W p = some e0) :
    Calls Try.prog 6 #[.slice lo ln lc, .slice (some a0) wn wc, .int .i64 p] w (Yes w) := by
  obtain ⟨h3, h4⟩ := ho.bound
  obtain ⟨h1, h1'⟩ := hW.bound
  have hln := ho.ops_len
  have hwl := hW.byte_len
  have hl32 := hl.le
  have hln32 : ln ≤ 32 := by omega
  have HRi := Lib.hid (fun w' (hb' : Below w.heap.size w w') => right_any w' lo lc ln l (ho.below hb') hb)
  rw [show rightB l = true from (rightB_iff l hb).2 hl] at HRi
  have HLg := Lib.hid (fun w' (hb' : Below w.heap.size w w') => longest_any w' lo ln lc (some a0) wn wc l W hb (by omega) (ho.below hb') (hW.below hb') p)
  have HDw := Lib.hid (fun w' (hb' : Below w.heap.size w w') q => der_any w' lo ln lc (some a0) wn wc l W hb (by omega) (ho.below hb') (hW.below hb') 0 p q)
  have HDj := Lib.hid (fun w' (hb' : Below w.heap.size w w') jo jn jc (hj : Sv w' jo jn jc 1 (byc (40 :: (W.drop p ++ [41])))) (q : Int) => der_any w' lo ln lc jo jn jc l _ hb (by simp; omega) (ho.below hb') hj ln 0 q)
  have HWs := Lib.hid (fun w' (hb' : Below w.heap.size w w') => (hW.below hb').drop p hp)
  have hbr := der_brackets hl (w := W) (a := p) (by omega)
  have hsm := lg_some hl hg
  rw [hwl] at hsm
  rw [hwl, hln] at hbr
  have HBr := Lib.hid hbr; have HLen := Lib.hid hln; have HWl := Lib.hid hwl
  rw [hg] at HLg
  have HBo := Lib.hid (byc_one (W.drop p))
  have HLn : Hid (((1 + (wn - p)) * 1 ≤ 140737488355328 ∧ 1 + (wn - p) ≤ maxLen) ∧ (1 + (wn - p) + 1) * 1 ≤ 140737488355328 ∧ 1 + (wn - p) + 1 ≤ maxLen) := by unfold Hid maxLen; omega
  have HO41 : Hid (∀ u ∈ ([.int .u8 41] : List Value), u.oneCell' = true) := by intro u hu; simp only [List.mem_singleton] at hu; subst hu; rfl
  obtain ⟨he1, he2, hde, hmx⟩ := hsm
  have HDe := Lib.hid hde; have HMx := Lib.hid hmx
  clear hde hmx
  have d1 : decide ((e0 : Int) ≤ p) = false := decide_eq_false (by omega)
  have d2 : decide (e0 ≤ p) = false := decide_eq_false (by omega)
  have d3 : decide ((wn : Int) < e0) = false := decide_eq_false (by omega)
  have d4 : decide (wn < e0) = false := decide_eq_false (by omega)
  clear ho hW hl hb hln hwl hbr hg
  go_enter Try.func6, Try.ntmps6
  go_wp2_with fail
  refine (awake_any _).mono ?_
  rintro e w2 ⟨rfl, hb2⟩
  have HB2 := Lib.hid hb2; clear hb2
  go_wp2_with fail
  refine (HRi.out _ HB2.out).mono ?_
  rintro e w3 ⟨rfl, hb3⟩
  have HB3 := Lib.hid (HB2.out.trans (hb3.mono HB2.out.size)); clear hb3 HRi HB2
  go_wp2_with fail
  refine (HLg.out _ HB3.out).mono ?_
  rintro e w4 ⟨rfl, hb3⟩
  have HB4 := Lib.hid (HB3.out.trans (hb3.mono HB3.out.size)); clear hb3 HB3 HLg
  unfold lgV
  go_wp2_with fail
  refine (HDw.out _ HB4.out _).mono ?_
  rintro e w5 ⟨rfl, hbx⟩
  rw [show derB l W 0 p e0 = true from HDe.out]
  have HB5 := Lib.hid (HB4.out.trans (hbx.mono HB4.out.size)); clear hbx HB4
  go_wp2_with fail
  go_loopw [9] (fun i wr => ∃ k : Nat, k ≤ wn + 1 ∧ i = .int .i64 k ∧ Hid (Below w.heap.size w wr)) (fun i _ => wn + 1 - (intOf i).toNat)
  case atStart => exact ⟨p, by omega, rfl, HB5⟩
  case round =>
    clear HB5
    obtain ⟨k, hk, rfl, HBr'⟩ := hrel
    by_cases hlt : k ≤ wn
    · have hlt' : (k : Int) ≤ wn := by omega
      cases hk0 : derB l W 0 p k
      · have HK := Lib.hid hk0; clear hk0
        go_wp2_with fail
        refine (HDw.out _ HBr'.out _).mono ?_
        rintro e w5 ⟨rfl, hbx⟩
        rw [show derB l W 0 p k = false from HK.out]
        have HB5 := Lib.hid (HBr'.out.trans (hbx.mono HBr'.out.size)); clear hbx
        go_wp2_with fail
        go_roundw
        case rel => exact ⟨k + 1, by omega, by go_num, HB5⟩
        case measure => simp [intOf]; omega
      · have hke : k ≤ e0 := HMx.out k hlt hk0
        have hke' : (k : Int) ≤ e0 := by omega
        have d5 : decide ((e0 : Int) < k) = false := decide_eq_false (by omega)
        have d6 : decide (e0 < k) = false := decide_eq_false (by omega)
        have HK := Lib.hid hk0; clear hk0
        go_wp2_with fail
        refine (HDw.out _ HBr'.out _).mono ?_
        rintro e w5 ⟨rfl, hbx⟩
        rw [show derB l W 0 p k = true from HK.out]
        have HB5 := Lib.hid (HBr'.out.trans (hbx.mono HBr'.out.size)); clear hbx
        go_wp2_with fail
        go_roundw
        case rel => exact ⟨k + 1, by omega, by go_num, HB5⟩
        case measure => simp [intOf]; omega
    · have hge : (wn : Int) < k := by omega
      clear hlt
      have HT : Hid (Sv (wr.alloc (.cells #[.int .u8 40] 5)) (some (a0.add p)) (wn - p) (wc - p) 1 (byc (W.drop p))) := by
        have := HWs.out _ (HBr'.out.alloc HBr'.out.size (.cells #[.int .u8 40] 5))
        rw [Nat.mul_one, show (byc W).drop p = byc (W.drop p) by simp [byc, List.map_drop]] at this
        exact this
      have HO1 : Hid (Own wr (wr.alloc (.cells #[.int .u8 40] 5)) 5 1 (.slice (some ⟨wr.heap.size, 0, none⟩) 1 1) 1 [.int .u8 40]) := Own.lit wr 5 #[.int .u8 40] 1 1 (by decide) rfl
      go_wp2_with (first
        | (at_builtin; refine wpList_apps wr _ rfl (.tmp 87) (.tmp 90) 23 5 rfl elemBy _ 1 [.int .u8 40] rfl HO1.out _ _ _ (byc (W.drop p)) rfl HT.out HBo.out HLn.out.1.1 HLn.out.1.2 ?_; intro v6 w6 hO6; have HO6 := Lib.hid hO6; clear hO6)
        | (at_builtin; refine wpList_apps wr _ rfl (.tmp 91) (.tmp 92) 23 5 rfl elemBy _ (1 + (wn - p)) _ rfl (HO6.out.below ((Below.refl _ _).alloc (Nat.le_refl _) _)) _ 1 1 [.int .u8 41] rfl (Sv.lit w6 5 #[.int .u8 41] 1 1 (by decide) rfl) HO41.out HLn.out.2.1 HLn.out.2.2 ?_; intro v7 w7 hO7; obtain ⟨jo, jc, rfl, hjs⟩ := hO7.sv; have HJs := Lib.hid hjs; have HO7 := Lib.hid hO7; clear hO7 hjs))
      have HJ : Hid (Sv w7 jo (1 + (wn - p) + 1) jc 1 (byc (40 :: (W.drop p ++ [41])))) := by
        have := HJs.out
        rwa [show ([.int .u8 40] ++ byc (W.drop p) ++ [.int .u8 41] : List Value) = byc (40 :: (W.drop p ++ [41])) by simp [byc]] at this
      have HB7 := Lib.hid (HBr'.out.trans (HO7.out.2.mono HBr'.out.size))
      have HBk : Hid (derB l (40 :: (W.drop p ++ [41])) ln 0 (1 + ((wn - p : Nat) : Int) + 1) = derB l W 0 p wn) := by
        have := HBr.out
        unfold Hid
        rw [show ((1 + ((wn - p : Nat) : Int) + 1) : Int) = ((wn - p + 2 : Nat) : Int) by omega]
        exact this
      clear HJs HO7 HBr HT HO1 HO6 HBo HO41 HLn
      generalize hx : derB l W 0 p wn = x at *
      have HX := Lib.hid hx; clear hx
      cases x
      all_goals
        go_wp2_with fail
        refine (HDj.out _ HB7.out jo (1 + (wn - p) + 1) jc HJ.out _).mono ?_
        rintro e w8 ⟨rfl, hbx⟩
        rw [HBk.out]
        have HB8 := Lib.hid (HB7.out.trans (hbx.mono HB7.out.size)); clear hbx
        go_wp2_with fail
        refine (HDw.out _ HB8.out _).mono ?_
        rintro e w9 ⟨rfl, hbx⟩
        rw [HX.out]
        have HB9 := Lib.hid (HB8.out.trans (hbx.mono HB8.out.size)); clear hbx
        go_wp2_with fail
        go_ret
        exact ⟨rfl, HB9.out⟩


theorem fronts_any (w : World) (lo : Option Addr) (ln lc : Nat) (l : Tab) (wo : Option Addr) (wn wc : Nat) (W : List Int) (hb : Byt l) (ho : Sv w lo ln lc 2 (opc l)) (hW : Sv w wo wn wc 1 (byc W)) (pl : Int) :
    Calls Try.prog 6 #[.slice lo ln lc, .slice wo wn wc, .int .i64 pl] w (Yes w) := by
  by_cases hin : wn ≤ 30 ∧ rightB l = true ∧ 0 ≤ pl ∧ pl ≤ wn
  · obtain ⟨h30, hr, h0, hp⟩ := hin
    have hl := (rightB_iff l hb).1 hr
    obtain ⟨p, rfl⟩ := Int.eq_ofNat_of_zero_le h0
    have hp' : p ≤ wn := by omega
    have hle := hW.le
    have hwl := hW.byte_len
    by_cases hc : p < wc
    · cases wo with
      | none => have := hW.nn rfl; omega
      | some a0 =>
        cases hg : lgO l W p with
        | none => exact fronts_none_part w lo ln lc l a0 p wn wc W hb ho hW h30 hl hp' hc hg
        | some e0 => exact fronts_some_part w lo ln lc l a0 p wn wc W hb ho hW h30 hl hp' hc e0 hg
    · obtain rfl : wn = p := by omega
      obtain rfl : wc = wn := by omega
      cases hg : lgO l W wc with
      | none =>
        cases wo with
        | none => exact fronts_none_full_nil w lo ln lc l wc W hb ho hW h30 hl hg
        | some a0 => exact fronts_none_full w lo ln lc l a0 wc W hb ho hW h30 hl hg
      | some e0 => have := lg_some hl hg; omega
  · exact fronts_out w lo ln lc l wo wn wc hb ho hW.bound pl hin
theorem one_any (w : World) (lo : Option Addr) (ln lc : Nat) (l : Tab) (ao : Option Addr) (an ac : Nat) (A : List Int) (bo : Option Addr) (bn bc : Nat) (B : List Int) (hb : Byt l) (ho : Sv w lo ln lc 2 (opc l)) (ha : Sv w ao an ac 1 (byc A)) (hB : Sv w bo bn bc 1 (byc B)) (lv : Int)
    (hbyt : an ≤ 140737488351232 ∧ bn ≤ 140737488351232) :
    Calls Try.prog 5 #[.slice lo ln lc, .slice ao an ac, .slice bo bn bc, .int .i64 lv] w (Yes w) := by
  by_cases hin : an + bn ≤ 30 ∧ rightB l = true ∧ 0 ≤ lv ∧ lv < ln
  · obtain ⟨h30, hr, h0, hp⟩ := hin
    obtain ⟨v, rfl⟩ := Int.eq_ofNat_of_zero_le h0
    have := ho.ops_len
    exact one_in w lo ln lc l ao an ac A bo bn bc B hb ho ha hB v h30 ((rightB_iff l hb).1 hr) (by omega)
  · exact one_out w lo ln lc l ao an ac bo bn bc hb ho ha.bound hB.bound lv (by omega) hin
end Go.Proofs.Ytmpccinbeepbgaa
