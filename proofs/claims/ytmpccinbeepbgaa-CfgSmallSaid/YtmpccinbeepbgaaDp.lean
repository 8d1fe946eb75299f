/- Walk: CfgTells. -/
import Derived.Test.YtmpccinbeepbgaaDn
import Derived.Test.YtmpccinbeepbgaaDe
import Derived.Test.YtmpccinbeepbgaaDh
import Derived.Test.YtmpccinbeepbgaaDd
import Derived.Test.YtmpccinbeepbgaaAv
namespace Go.Proofs.Ytmpccinbeepbgaa
open Go.RowKit

theorem elemOp1 : Elem Try.prog 22 43 2 2 (.agg #[.int .u8 0, .bool false]) := ⟨by kernel_rfl, by kernel_rfl, rfl, by decide⟩
theorem opc_one (l : Tab) : ∀ u ∈ opc l, u.oneCell' = true := by
  intro u hu
  unfold opc at hu
  simp only [List.mem_flatMap] at hu
  obtain ⟨x, _, hx⟩ := hu
  simp at hx
  rcases hx with rfl | rfl <;> rfl
theorem text_sv {w : World} {g n : Nat} {W : List Int} {β : Int → Int → Int} (h : hrow w g (byc (W ++ bmarks β 12)).toArray 5) (hn : W.length = n) (h1 : n ≤ 100000) : Sv w (some ⟨g, 0, none⟩) n (n + 12) 1 (byc W) := by
  have hs := (Sv.of_hrow h (n + 12) 1 (by unfold maxLen; omega) (by simp [byc_len, bmarks_len, hn])).take n (by omega)
  rw [Nat.mul_one] at hs
  have : (byc (W ++ bmarks β 12)).toArray.toList.take n = byc W := by
    rw [byc_append]
    exact List.take_left' (by rw [byc_len, hn])
  rw [this] at hs
  exact hs
theorem tr_len {l : Tab} {W : List Int} {p q : Int} {n : Nat} (hn : W.length = n) (h : n ≤ 30) : (trT l W p q).length ≤ 2000 := by
  by_cases hd : derB l W 0 p q = true
  · have hD := derB_iff.1 hd
    obtain ⟨v, a, b, hv0, rfl, rfl, hv, hab, hbn⟩ := hD.1.nat
    obtain ⟨t, m, hk⟩ := hD.2.kd hD.1.1 _ (Nat.le_refl _)
    rw [trT_yes hd hk]
    have := kd_len hk
    simp only [Int.toNat_natCast, List.length_cons] at this ⊢
    omega
  · rw [trT_not (by simpa using hd)]; simp

/-- What goes on through the law: the ask, the table's copy, the lent text, the document's table. -/
structure TS (w0 w : World) (l : Tab) (W : List Int) (lv p q : Int) (io : Option Addr) (ln ic : Nat) (g wn : Nat) (ro : Option Addr) (rc : Nat) : Prop where
  bel : Below w0.heap.size w0 w
  ask : hrow w w0.heap.size #[.int .i64 lv, .int .i64 p, .int .i64 q] 25
  inn : Sv w io ln ic 2 (opc l)
  txt : hrow w g (byc (W ++ bmarks mbI 12)).toArray 5
  ref : Sv w ro ln rc 2 (opc l)
theorem TS.below {w0 w w' : World} {l : Tab} {W : List Int} {lv p q : Int} {io : Option Addr} {ln ic : Nat} {g wn : Nat} {ro : Option Addr} {rc : Nat} (h : TS w0 w l W lv p q io ln ic g wn ro rc) (hb : Below w.heap.size w w') : TS w0 w' l W lv p q io ln ic g wn ro rc :=
  ⟨h.bel.trans (hb.mono h.bel.size), h.ask.below hb, h.inn.below hb, h.txt.below hb, h.ref.below hb⟩

set_option maxRecDepth 100000 in
set_option maxHeartbeats 4000000 in
theorem tells_in (w : World) (lo : Option Addr) (ln lc : Nat) (wo : Option Addr) (wn wc : Nat) (l : Tab) (W : List Int) (hb : Byt l) (ho : Sv w lo ln lc 2 (opc l)) (hW : Sv w wo wn wc 1 (byc W)) (h30 : wn ≤ 30) (h40 : ln ≤ 40) (lv p q : Int) :
    Calls Try.prog 3 #[.slice lo ln lc, .slice wo wn wc, .agg #[.int .i64 lv, .int .i64 p, .int .i64 q]] w (Yes w) := by
  obtain ⟨b1, b2⟩ := ho.bound
  obtain ⟨b3, b4⟩ := hW.bound
  have hwl := hW.byte_len
  have hll := ho.ops_len
  have HLe := Lib.hid (fun w' (hb' : Below w.heap.size w w') => lentBy_any mbI (Lib.hid markBy_any) w' wo wn wc W (hW.below hb') (by omega))
  have HKe := Lib.hid (fun w' (hb' : Below w.heap.size w w') g (hr : hrow w' g (byc (W ++ bmarks mbI 12)).toArray 5) => keptBy_any mbI (Lib.hid markBy_any) w' g wo wn wc W hr (hW.below hb') (by omega))
  have HTu := Lib.hid (fun w' (hb' : Below w.heap.size w w') => turned_any w' lo ln lc l (ho.below hb') (by omega))
  have HRw := Lib.hid (fun w' (hb' : Below w.heap.size w w') ro rc (hr : Sv w' ro ln rc 2 (opc l)) => refWays_any w' ro ln rc wo wn wc l W hb (by omega) hr (hW.below hb') lv p q)
  have HRl := Lib.hid (fun w' (hb' : Below w.heap.size w w') ro rc (hr : Sv w' ro ln rc 2 (opc l)) => refLongest_any w' ro ln rc wo wn wc l W hb (by omega) hr (hW.below hb') p)
  have HRt := Lib.hid (fun w' (hb' : Below w.heap.size w w') ro rc (hr : Sv w' ro ln rc 2 (opc l)) => refTree_any w' ro ln rc wo wn wc l W hb (by omega) hr (hW.below hb') p q)
  have HPw := Lib.hid (fun w' io ic (hi : Sv w' io ln ic 2 (opc l)) xo xc (ht : Sv w' xo wn xc 1 (byc W)) => ways_any w' io ln ic xo wn xc l W hb (by omega) hi ht lv p q)
  have HPd := Lib.hid (fun w' io ic (hi : Sv w' io ln ic 2 (opc l)) xo xc (ht : Sv w' xo wn xc 1 (byc W)) => der_any w' io ln ic xo wn xc l W hb (by omega) hi ht lv p q)
  have HPl := Lib.hid (fun w' io ic (hi : Sv w' io ln ic 2 (opc l)) xo xc (ht : Sv w' xo wn xc 1 (byc W)) => longest_any w' io ln ic xo wn xc l W hb (by omega) hi ht p)
  have HPt := Lib.hid (fun w' io ic (hi : Sv w' io ln ic 2 (opc l)) xo xc (ht : Sv w' xo wn xc 1 (byc W)) => tree_any w' io ln ic xo wn xc l W hb (by omega) hi ht p q)
  have HOs := Lib.hid (fun w' (hb' : Below w.heap.size w w') => ho.below hb')
  have HO1 := Lib.hid (opc_one l)
  have HTl := Lib.hid (tr_len (l := l) (p := p) (q := q) hwl h30)
  have HWl := Lib.hid hwl; have HLl := Lib.hid hll
  have h30' : (wn : Int) ≤ 30 := by omega
  have h40' : (ln : Int) ≤ 40 := by omega
  have HWy := Lib.hid (show derB l W lv p q = true ∧ wayI l W lv p q = 1 ∨ derB l W lv p q = false ∧ wayI l W lv p q = 0 by unfold wayI; cases derB l W lv p q <;> simp)
  clear ho hW hb hwl hll
  go_enter Try.func3, Try.ntmps3
  go_upto_region 3 with (fail)
  have HA0 := Lib.hid (hrow.new w #[.int .i64 lv, .int .i64 p, .int .i64 q] 25)
  have HB1 := Lib.hid ((Below.refl w.heap.size w).alloc (Nat.le_refl _) (.cells #[.int .i64 lv, .int .i64 p, .int .i64 q] 25))
  generalize w.alloc (.cells #[.int .i64 lv, .int .i64 p, .int .i64 q] 25) = w1 at *
  have HOl : Hid (Own w1 (w1.alloc (.cells #[] 43)) 43 2 (.slice (some ⟨w1.heap.size, 0, none⟩) 0 0) 0 []) := Own.lit w1 43 #[] 0 2 (by decide) rfl
  have HLn : Hid ((0 + ln) * 2 ≤ 140737488355328 ∧ 0 + ln ≤ maxLen) := by unfold Hid maxLen; omega
  go_wp2_with (first
    | (at_builtin; refine wpList_apps w1 _ rfl (.tmp 31) (.tmp 32) 22 43 rfl elemOp1 (.slice (some ⟨w1.heap.size, 0, none⟩) 0 0) 0 _ rfl HOl.out lo ln lc _ rfl (HOs.out _ (HB1.out.alloc HB1.out.size _)) HO1.out HLn.out.1 HLn.out.2 ?_; intro v2 w2 hO2; rw [Nat.zero_add, List.nil_append] at hO2; obtain ⟨io, ic, rfl, hsv2⟩ := hO2.sv; have HI2 := Lib.hid hO2.1; have HB2 := Lib.hid (HB1.out.trans (hO2.2.mono HB1.out.size)); have HA2 := Lib.hid (HA0.out.below hO2.2); clear hO2 hsv2))
  refine (HLe.out w2 HB2.out).mono ?_
  rintro e w3 ⟨rfl, htx, hbx⟩
  have HB3 := Lib.hid (HB2.out.trans (hbx.mono HB2.out.size))
  have HTx := Lib.hid htx
  have HA3 := Lib.hid (HA2.out.below hbx)
  have HI3 := Lib.hid (owns_fr HI2.out (Fr.of_below (F := fun _ => False) hbx) (fun _ _ h => h))
  clear hbx htx HLe HA2 HI2 HB2 HA0 HB1 HOl HLn
  generalize w2.heap.size = g at *
  go_wp2_with fail
  refine (HTu.out w3 HB3.out).mono ?_
  rintro e w4 ⟨v, rfl, ho4⟩
  obtain ⟨ro, rc, rfl, hr4⟩ := ho4.sv
  have hbx := ho4.2
  have hS4 : TS w w4 l W lv p q io ln ic g wn ro rc := ⟨HB3.out.trans (hbx.mono HB3.out.size), HA3.out.below hbx, (by obtain ⟨_, _, e, h⟩ := Sv.of_owns HI3.out; cases e; exact h.below hbx), HTx.out.below hbx, hr4⟩
  have HS4 := Lib.hid hS4
  have a0 : w4.cell? ⟨w.heap.size, 0, none⟩ = some (.int .i64 lv) := HS4.out.ask.cell 0
  have a1 : w4.cell? ⟨w.heap.size, 1, none⟩ = some (.int .i64 p) := HS4.out.ask.cell 1
  have a2 : w4.cell? ⟨w.heap.size, 2, none⟩ = some (.int .i64 q) := HS4.out.ask.cell 2
  clear ho4 hr4 hbx hS4 HTu HB3 HTx HA3 HI3
  go_wp2_with fail
  refine (HRw.out w4 HS4.out.bel ro rc HS4.out.ref).mono ?_
  rintro e w5 ⟨rfl, hbx⟩
  have HS5 := Lib.hid (HS4.out.below hbx)
  have c0 : w5.cell? ⟨w.heap.size, 0, none⟩ = some (.int .i64 lv) := HS5.out.ask.cell 0
  have c1 : w5.cell? ⟨w.heap.size, 1, none⟩ = some (.int .i64 p) := HS5.out.ask.cell 1
  have c2 : w5.cell? ⟨w.heap.size, 2, none⟩ = some (.int .i64 q) := HS5.out.ask.cell 2
  clear hbx a0 a1 a2 HS4 HRw
  go_wp2_with fail
  refine (HPw.out w5 io ic HS5.out.inn (some ⟨g, 0, none⟩) (wn + 12) (text_sv HS5.out.txt HWl.out (by omega))).mono ?_
  rintro e w6 ⟨rfl, hbx⟩
  have HS6 := Lib.hid (HS5.out.below hbx)
  have a0 : w6.cell? ⟨w.heap.size, 0, none⟩ = some (.int .i64 lv) := HS6.out.ask.cell 0
  have a1 : w6.cell? ⟨w.heap.size, 1, none⟩ = some (.int .i64 p) := HS6.out.ask.cell 1
  have a2 : w6.cell? ⟨w.heap.size, 2, none⟩ = some (.int .i64 q) := HS6.out.ask.cell 2
  clear hbx c0 c1 c2 HS5 HPw
  go_wp2_with fail
  refine (HPd.out w6 io ic HS6.out.inn (some ⟨g, 0, none⟩) (wn + 12) (text_sv HS6.out.txt HWl.out (by omega))).mono ?_
  rintro e w7 ⟨rfl, hbx⟩
  have HS7 := Lib.hid (HS6.out.below hbx)
  have c0 : w7.cell? ⟨w.heap.size, 0, none⟩ = some (.int .i64 lv) := HS7.out.ask.cell 0
  have c1 : w7.cell? ⟨w.heap.size, 1, none⟩ = some (.int .i64 p) := HS7.out.ask.cell 1
  have c2 : w7.cell? ⟨w.heap.size, 2, none⟩ = some (.int .i64 q) := HS7.out.ask.cell 2
  clear hbx a0 a1 a2 HS6 HPd
  generalize derB l W lv p q = dd at *
  generalize wayI l W lv p q = ii at *
  have hdd : decide (0 < ii) = dd := by rcases HWy.out with ⟨h1, h2⟩ | ⟨h1, h2⟩ <;> rw [h1, h2] <;> rfl
  clear HWy
  go_wp2_with fail
  clear hdd
  refine (HPl.out w7 io ic HS7.out.inn (some ⟨g, 0, none⟩) (wn + 12) (text_sv HS7.out.txt HWl.out (by omega))).mono ?_
  rintro e w8 ⟨rfl, hbx⟩
  have HS8 := Lib.hid (HS7.out.below hbx)
  have a0 : w8.cell? ⟨w.heap.size, 0, none⟩ = some (.int .i64 lv) := HS8.out.ask.cell 0
  have a1 : w8.cell? ⟨w.heap.size, 1, none⟩ = some (.int .i64 p) := HS8.out.ask.cell 1
  have a2 : w8.cell? ⟨w.heap.size, 2, none⟩ = some (.int .i64 q) := HS8.out.ask.cell 2
  clear hbx c0 c1 c2 HS7 HPl
  unfold lgV
  go_wp2_with fail
  refine (HRl.out w8 HS8.out.bel ro rc HS8.out.ref).mono ?_
  rintro e w9 ⟨rfl, hbx⟩
  have HS9 := Lib.hid (HS8.out.below hbx)
  have c0 : w9.cell? ⟨w.heap.size, 0, none⟩ = some (.int .i64 lv) := HS9.out.ask.cell 0
  have c1 : w9.cell? ⟨w.heap.size, 1, none⟩ = some (.int .i64 p) := HS9.out.ask.cell 1
  have c2 : w9.cell? ⟨w.heap.size, 2, none⟩ = some (.int .i64 q) := HS9.out.ask.cell 2
  clear hbx a0 a1 a2 HS8 HRl
  unfold lgV
  generalize (((lgO l W p).getD 0 : Nat) : Int) = lx at *
  generalize (lgO l W p).isSome = ls at *
  go_wp2_with fail
  refine (HPt.out w9 io ic HS9.out.inn (some ⟨g, 0, none⟩) (wn + 12) (text_sv HS9.out.txt HWl.out (by omega))).mono ?_
  rintro e w10 ⟨v1, rfl, ho1⟩
  have HS10 := Lib.hid (HS9.out.below ho1.2)
  have HT10 := Lib.hid (ho1.since HS9.out.bel).1
  have a0 : w10.cell? ⟨w.heap.size, 0, none⟩ = some (.int .i64 lv) := HS10.out.ask.cell 0
  have a1 : w10.cell? ⟨w.heap.size, 1, none⟩ = some (.int .i64 p) := HS10.out.ask.cell 1
  have a2 : w10.cell? ⟨w.heap.size, 2, none⟩ = some (.int .i64 q) := HS10.out.ask.cell 2
  clear ho1 c0 c1 c2 HS9
  go_wp2_with fail
  refine (HRt.out w10 HS10.out.bel ro rc HS10.out.ref).mono ?_
  rintro e w11 ⟨v2, rfl, ho2⟩
  have HS11 := Lib.hid (HS10.out.below ho2.2)
  have HT11 := Lib.hid (owns_fr HT10.out (Fr.of_below (F := fun _ => False) ho2.2) (fun _ _ h => h))
  obtain ⟨uo, uc, rfl, hu11⟩ := ho2.sv
  have HU11 := Lib.hid hu11
  have c0 : w11.cell? ⟨w.heap.size, 0, none⟩ = some (.int .i64 lv) := HS11.out.ask.cell 0
  have c1 : w11.cell? ⟨w.heap.size, 1, none⟩ = some (.int .i64 p) := HS11.out.ask.cell 1
  have c2 : w11.cell? ⟨w.heap.size, 2, none⟩ = some (.int .i64 q) := HS11.out.ask.cell 2
  clear ho2 hu11 a0 a1 a2 HS10 HT10 HRt
  go_wp2_with fail
  refine (HPt.out w11 io ic HS11.out.inn (some ⟨g, 0, none⟩) (wn + 12) (text_sv HS11.out.txt HWl.out (by omega))).mono ?_
  rintro e w12 ⟨v3, rfl, ho3⟩
  have HS12 := Lib.hid (HS11.out.below ho3.2)
  have HT12 := Lib.hid (owns_fr HT11.out (Fr.of_below (F := fun _ => False) ho3.2) (fun _ _ h => h))
  have HV12 := Lib.hid (ho3.since HS11.out.bel).1
  have HU12 := Lib.hid (HU11.out.below ho3.2)
  have HNe := Lib.hid (fun b (h1 : v1.ownBlock = some b) (h2 : v3.ownBlock = some b) => show False by
    have q1 := HT11.out.lt b h1
    have q2 := ho3.1.lt b h2
    omega)
  clear ho3 c0 c1 c2 HS11 HT11 HU11 HPt
  generalize derB l W 0 p q = dt at *
  go_wp2_with fail
  generalize hT : trT l W p q = T at *
  clear hT
  generalize hn : T.length = n at *
  have HTn := Lib.hid hn; clear hn
  obtain ⟨ao, ac, rfl, hs1⟩ := Sv.of_owns HT12.out
  refine (sameTw_any w12 ao uo n ac uc T hs1 HU12.out).mono ?_
  rintro e w13 ⟨rfl, hbx⟩
  have HS13 := Lib.hid (HS12.out.below hbx)
  have HT13 := Lib.hid (owns_fr HT12.out (Fr.of_below (F := fun _ => False) hbx) (fun _ _ h => h))
  have HV13 := Lib.hid (owns_fr HV12.out (Fr.of_below (F := fun _ => False) hbx) (fun _ _ h => h))
  clear hbx hs1 HS12 HT12 HV12 HU12
  go_wp2_with fail
  refine (HKe.out w13 HS13.out.bel g HS13.out.txt).mono ?_
  rintro e w14 ⟨rfl, hbx⟩
  have HS14 := Lib.hid (HS13.out.below hbx)
  have HT14 := Lib.hid (owns_fr HT13.out (Fr.of_below (F := fun _ => False) hbx) (fun _ _ h => h))
  have HV14 := Lib.hid (owns_fr HV13.out (Fr.of_below (F := fun _ => False) hbx) (fun _ _ h => h))
  clear hbx HS13 HT13 HV13 HKe
  go_wp2_with fail
  go_loopw [21] (fun i wr => ∃ k : Nat, k ≤ ln ∧ i = .int .i64 k ∧ Hid (Below w14.heap.size w14 wr)) (fun i _ => ln - (intOf i).toNat)
  case atStart => exact ⟨0, by omega, rfl, Below.refl _ _⟩
  case round =>
    obtain ⟨k, hk, rfl, HBr⟩ := hrel
    have HSr := Lib.hid (HS14.out.below HBr.out)
    by_cases hlt : k < ln
    · have hlt' : (k : Int) < ln := by omega
      have hkl : k < l.length := by have := HLl.out; omega
      obtain ⟨ia, rfl, i0, i1⟩ := opc_cell HSr.out.inn k hkl
      obtain ⟨la, rfl, l0, l1⟩ := opc_cell (HOs.out wr HSr.out.bel) k hkl
      have e3 : la.add (k * 2 + 1) = ⟨(la.add (k * 2)).block, (la.add (k * 2)).off + 1, none⟩ := by rw [← add_add]; rfl
      have e4 : ia.add (k * 2 + 1) = ⟨(ia.add (k * 2)).block, (ia.add (k * 2)).off + 1, none⟩ := by rw [← add_add]; rfl
      rw [e3] at l1; rw [e4] at i1
      clear e3 e4 hkl
      generalize sg l k = c at *
      generalize rg l k = r at *
      go_wp2_with fail
      go_quiet (fail)
      go_wp2_with fail
      go_roundw
      case rel => exact ⟨k + 1, by omega, by go_num, HBr.out.trans (below_drewN (Below.refl _ _) _ |>.mono HBr.out.size)⟩
      case measure => simp [intOf]; omega
    · have hge : (ln : Int) ≤ k := by omega
      have HTr := Lib.hid (owns_fr HT14.out (Fr.of_below (F := fun _ => False) HBr.out) (fun _ _ h => h))
      have HVr := Lib.hid (owns_fr HV14.out (Fr.of_below (F := fun _ => False) HBr.out) (fun _ _ h => h))
      clear HT14 HV14 HS14
      obtain ⟨bo, bc, rfl, _⟩ := Sv.of_owns HVr.out
      have HBw := Lib.hid HSr.out.bel
      go_wp2_with fail
      have hbA : Below wr.heap.size wr (wr.alloc (.cells #[.slice ao n ac, .slice bo n bc] 36)) := (Below.refl _ _).alloc (Nat.le_refl _) _
      have hls := Sv.lit wr 36 #[.slice ao n ac, .slice bo n bc] 2 1 (by decide) rfl
      have HBA := Lib.hid (HBw.out.trans (hbA.mono HBw.out.size))
      have hT := owns_fr HTr.out (Fr.of_below (F := fun _ => False) hbA) (fun _ _ h => h)
      have hV := owns_fr HVr.out (Fr.of_below (F := fun _ => False) hbA) (fun _ _ h => h)
      refine (apartTw_any mkI (Lib.hid markTw_all) _ w.heap.size 2 (by decide) (by decide) HBA.out.size (some ⟨wr.heap.size, 0, none⟩) 2
        (fun i => if i = 0 then .slice ao n ac else .slice bo n bc) (fun _ => n) (fun _ => T) hls (Two.start (fun i hi => ?_) (fun i j b hi hj h1 h2 => ?_) _ _) (fun _ _ => HTn.out) (fun _ _ => HTl.out)).mono ?_
      · rw [HTn.out]
        by_cases e : i = 0
        · rw [if_pos e]; exact hT
        · rw [if_neg e]; exact hV
      · by_cases e1 : i = 0 <;> by_cases e2 : j = 0
        · omega
        · rw [if_pos e1] at h1; rw [if_neg e2] at h2
          exact (HNe.out b h1 h2).elim
        · rw [if_neg e1] at h1; rw [if_pos e2] at h2
          exact (HNe.out b h2 h1).elim
        · omega
      rintro e wz ⟨rfl, hbz⟩
      have HBz := Lib.hid (HBA.out.trans hbz)
      clear hbz hbA hls hT hV
      go_wp2_with fail
      refine (awake_any wz).mono ?_
      rintro e wy ⟨rfl, hby⟩
      have HBy := Lib.hid (HBz.out.trans (hby.mono HBz.out.size))
      clear hby
      go_wp2_with fail
      go_ret
      exact ⟨rfl, HBy.out⟩

set_option maxRecDepth 100000 in
set_option maxHeartbeats 1000000 in
theorem tells_out (w : World) (lo : Option Addr) (ln lc : Nat) (wo : Option Addr) (wn wc : Nat) (h1 : ln ≤ lc ∧ lc ≤ 9223372036854775807) (h2 : wn ≤ wc ∧ wc ≤ 9223372036854775807) (hout : ¬ (wn ≤ 30 ∧ ln ≤ 40)) (lv p q : Int) :
    Calls Try.prog 3 #[.slice lo ln lc, .slice wo wn wc, .agg #[.int .i64 lv, .int .i64 p, .int .i64 q]] w (Yes w) := by
  obtain ⟨b1, b2⟩ := h1
  obtain ⟨b3, b4⟩ := h2
  have HB0 := Lib.hid ((Below.refl w.heap.size w).alloc (Nat.le_refl _) (.cells #[.int .i64 lv, .int .i64 p, .int .i64 q] 25))
  by_cases h30 : wn ≤ 30
  · have h40 : (40 : Int) < ln := by omega
    have h30' : (wn : Int) ≤ 30 := by omega
    clear hout
    go_enter Try.func3, Try.ntmps3
    go_wp2_with fail
    refine (awake_any _).mono ?_
    rintro e w2 ⟨rfl, hb2⟩
    have HB2 := Lib.hid (HB0.out.trans (hb2.mono HB0.out.size)); clear hb2
    go_wp2_with fail
    go_ret
    exact ⟨rfl, HB2.out⟩
  · have h30' : (30 : Int) < wn := by omega
    clear hout
    go_enter Try.func3, Try.ntmps3
    go_wp2_with fail
    refine (awake_any _).mono ?_
    rintro e w2 ⟨rfl, hb2⟩
    have HB2 := Lib.hid (HB0.out.trans (hb2.mono HB0.out.size)); clear hb2
    go_wp2_with fail
    go_ret
    exact ⟨rfl, HB2.out⟩

theorem tells_any (w : World) (lo : Option Addr) (ln lc : Nat) (wo : Option Addr) (wn wc : Nat) (l : Tab) (W : List Int) (hb : Byt l) (ho : Sv w lo ln lc 2 (opc l)) (hW : Sv w wo wn wc 1 (byc W)) (lv p q : Int) :
    Calls Try.prog 3 #[.slice lo ln lc, .slice wo wn wc, .agg #[.int .i64 lv, .int .i64 p, .int .i64 q]] w (Yes w) := by
  by_cases h : wn ≤ 30 ∧ ln ≤ 40
  · exact tells_in w lo ln lc wo wn wc l W hb ho hW h.1 h.2 lv p q
  · exact tells_out w lo ln lc wo wn wc ho.bound hW.bound h lv p q
end Go.Proofs.Ytmpccinbeepbgaa
