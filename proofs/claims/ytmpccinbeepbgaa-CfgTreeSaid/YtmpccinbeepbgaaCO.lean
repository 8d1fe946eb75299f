/- Walk: CfgTree, where something is derived. -/
import Derived.Test.YtmpccinbeepbgaaCM
import Derived.Test.YtmpccinbeepbgaaTs
import Derived.Deep.RegionHeld3
import Derived.Deep.DeepCutAuto
import Derived.BigRegion
namespace Go.Proofs.Ytmpccinbeepbgaa
open Go.RowKit

theorem Own.sv_fr {w0 w w' : World} {e : TypeId} {size n : Nat} {v : Value} {xs : List Value} {F : Nat → Prop} (h : Own w0 w e size v n xs) (hf : Fr F w w') (hF : ∀ k, F k → k < w0.heap.size) : ∃ ao cap, v = .slice ao n cap ∧ Sv w' ao n cap size xs := by
  refine Sv.of_owns (owns_fr h.1 hf ?_)
  intro k hk hFk
  have := (h.1.lt k hk).1
  have := hF k hFk
  omega
/-- What a twig's kids are, with where they stand. -/
def NdC (l : Tab) (W : List Int) (T : List Tw) (k a b : Nat) (ts : List (List Tw)) : Prop :=
  (ts.length = 0 ∧ isDig (bt W a) ∧ b = a + 1) ∨
  (∃ e m1, ts.length = 1 ∧ starts (k + 1) ts = [((k + 1 : Nat) : Int)] ∧ T[k + 1]? = some (tw 0 (a + 1) e m1) ∧ b = e + 1 ∧ bt W a = 40 ∧ bt W e = 41 ∧ a + 1 < e) ∨
  (∃ i c m1 m2 q, ts.length = 2 ∧ starts (k + 1) ts = [((k + 1 : Nat) : Int), (q : Nat)] ∧ T[k + 1]? = some (tw i a c m1) ∧ T[q]? = some (tw (bh l i) (c + 1) b m2) ∧ i < l.length ∧ bt W c = sg l i ∧ a < c ∧ c + 1 < b)
theorem Nd.kids {l : Tab} {W : List Int} {T : List Tw} {k lv a b m : Nat} {t R : List Tw} (h : T.drop k = (tw lv a b m :: t) ++ R) (hk : KD l W a b t m) :
    ∃ ts : List (List Tw), t = ts.flatten ∧ (∀ u ∈ ts, IsTree u) ∧ NdC l W T k a b ts := by
  have hl : ∀ j, j < t.length → T[k + (j + 1)]? = t[j]? := fun j hj => by
    have := Nd.get (k := j + 1) h (by simp; omega)
    rw [this]; rfl
  cases hk.ndk with
  | dig h1 h2 h3 h4 => exact ⟨[], by simp [h3], by simp, .inl ⟨rfl, h1, h2⟩⟩
  | br e m1 t1 h1 h2 h3 h4 h5 h6 h7 =>
    refine ⟨[t], by simp, ?_, .inr (.inl ⟨e, m1, rfl, rfl, ?_, h2, h1, h3, h4⟩)⟩
    · intro u hu
      simp only [List.mem_singleton] at hu
      subst hu
      rw [h5]; exact h7.tree
    · rw [show k + 1 = k + (0 + 1) by omega, hl 0 (by rw [h5]; simp), h5]; rfl
  | sp i c m1 m2 t1 t2 h1 h2 h3 h4 h5 =>
    have hb := h1.bd
    refine ⟨[tw i a c m1 :: t1, tw (bh l i) (c + 1) b m2 :: t2], by simp [h2], ?_, .inr (.inr ⟨i, c, m1, m2, k + 1 + (t1.length + 1), rfl, by simp [starts], ?_, ?_, h1.1, h1.2.1, hb.1, hb.2.1⟩)⟩
    · intro u hu
      simp only [List.mem_cons, List.not_mem_nil, or_false] at hu
      rcases hu with rfl | rfl
      · exact h4.tree
      · exact h5.tree
    · rw [show k + 1 = k + (0 + 1) by omega, hl 0 (by rw [h2]; simp), h2]; rfl
    · rw [show k + 1 + (t1.length + 1) = k + ((t1.length + 1) + 1) by omega, hl (t1.length + 1) (by rw [h2]; simp), h2, List.getElem?_append_right (by simp)]
      simp

/-- What the law knows of a tree that lies in a block. -/
structure TrAt (w : World) (g n c : Nat) (T : List Tw) : Prop where
  sv : Sv w (some ⟨g, 0, none⟩) n c 5 (T.flatMap twc)
  len : T.length = n
  le : n ≤ 1000
  kids : ∀ x ∈ T, 0 ≤ x.kids ∧ x.kids ≤ 1000000
  forest : forestB T = true
theorem TrAt.below {w w' : World} {g n c : Nat} {T : List Tw} (h : TrAt w g n c T) (hb : Below w.heap.size w w') : TrAt w' g n c T :=
  ⟨h.sv.below hb, h.len, h.le, h.kids, h.forest⟩
theorem TrAt.cell {w : World} {g n c : Nat} {T : List Tw} (h : TrAt w g n c T) {k : Nat} {x : Tw} (hx : T[k]? = some x) (j : Nat) (hj : j < 5) : w.cell? ⟨g, k * 5 + j, none⟩ = (twv x)[j]? := by
  have hk := (List.getElem?_eq_some_iff.1 hx)
  obtain ⟨hk, hxk⟩ := hk
  obtain ⟨a, ha, hc⟩ := h.sv.cell (k * 5 + j) (by rw [fl_len twc_len]; omega)
  cases ha
  have e : (⟨g, 0, none⟩ : Addr).add (k * 5 + j) = ⟨g, k * 5 + j, none⟩ := by unfold Addr.add; split <;> simp_all
  rw [← e, hc, fl_get twc_len T k j hk hj, hxk]
  simp [twc]
theorem TrAt.lt {w : World} {g n c : Nat} {T : List Tw} (h : TrAt w g n c T) (hn : 0 < n) : g < w.heap.size := by
  obtain ⟨x, hx⟩ : ∃ x, T[0]? = some x := ⟨T[0]'(by rw [h.len]; exact hn), List.getElem?_eq_getElem _⟩
  have := h.cell hx 0 (by decide)
  exact World.block_lt_of_cell? w ⟨g, 0 * 5 + 0, none⟩ (this.trans rfl)

set_option maxRecDepth 100000 in
set_option maxHeartbeats 8000000 in
theorem treeL_yes (w : World) (lo : Option Addr) (ln lc : Nat) (l : Tab) (wo : Option Addr) (wn wc : Nat) (W : List Int) (hb : Byt l) (ho : Sv w lo ln lc 2 (opc l)) (hW : Sv w wo wn wc 1 (byc W)) (a b : Nat)
    (h30 : wn ≤ 30) (hl : RightT l) (hab : a ≤ b) (hbn : b ≤ wn) (hd : derB l W 0 a b = true) :
    Calls Try.prog 7 #[.slice lo ln lc, .slice wo wn wc, .int .i64 a, .int .i64 b] w (Yes w) := by
  obtain ⟨h3, h4⟩ := ho.bound
  obtain ⟨h1, h1'⟩ := hW.bound
  have hwl := hW.byte_len
  have hln := ho.ops_len
  have hl32 := hl.le
  have hln32 : ln ≤ 32 := by omega
  have HRi := Lib.hid (fun w' (hb' : Below w.heap.size w w') => right_any w' lo lc ln l (ho.below hb') hb)
  rw [show rightB l = true from (rightB_iff l hb).2 hl] at HRi
  have HTr := Lib.hid (fun w' (hb' : Below w.heap.size w w') => tree_any w' lo ln lc wo wn wc l W hb (by omega) (ho.below hb') (hW.below hb') a b)
  have HDe := Lib.hid (fun w' (hb' : Below w.heap.size w w') (v p q : Int) => der_any w' lo ln lc wo wn wc l W hb (by omega) (ho.below hb') (hW.below hb') v p q)
  obtain ⟨t, m, hk, hT, hnd⟩ := trT_nd hl (w := W) (a := a) (b := b) (by omega) hd
  rw [hd, hT] at HTr
  have hfo := hk.fo hl.le (by omega) (by omega)
  obtain ⟨f, hf⟩ := hk
  have hsz := hf.size
  have hk : KD l W a b t m := ⟨f, hf⟩
  have hroot := hk.root hl.le (by omega) hab (by omega) 0 (by omega)
  have hkids : ∀ x ∈ tw 0 a b m :: t, 0 ≤ x.kids ∧ x.kids ≤ 1000000 := by
    intro x hx
    rcases List.mem_cons.1 hx with rfl | hx
    · simp only [tw]; omega
    · exact hfo.kids x hx
  have haft : afT 1 ((tw 0 a b m :: t).drop 0) = some (t.length + 1) := by
    have := Nd.after (T := tw 0 a b m :: t) (n := 0) (lv := 0) (R := []) (by simp) hk
    rw [this, Nat.add_comm]
  have hT0 : (tw 0 a b m :: t)[0]? = some (tw 0 a b m) := rfl
  have hTl : (tw 0 a b m :: t).length = t.length + 1 := rfl
  rw [hTl] at HTr
  have hn1 : t.length + 1 ≤ 1000 := by omega
  have HK0 := Lib.hid hk
  clear hk hf hfo hT
  generalize tw 0 a b m :: t = T at *
  generalize t.length + 1 = n at *
  have HL := Lib.hid hl; have HLen := Lib.hid hln; have HWl := Lib.hid hwl
  have HNd := Lib.hid hnd; have HAf := Lib.hid haft; have HT0 := Lib.hid hT0; have HTl := Lib.hid hTl; have HKi := Lib.hid hkids; have HRo := Lib.hid hroot
  have HHd := Lib.hid hd
  have hn0 : 0 < n := by rw [← hTl]; exact (List.getElem?_eq_some_iff.1 hT0).1
  have HWs := Lib.hid (fun w' (hb' : Below w.heap.size w w') => hW.below hb')
  have HLs := Lib.hid (fun w' (hb' : Below w.heap.size w w') => ho.below hb')
  have hnz : ((n : Int) == 0) = false := by simp; omega
  clear ho hW hl hb hwl hln hd hnd haft hT0 hTl hkids hroot hsz hl32
  go_enter Try.func7, Try.ntmps7
  go_wp2_with fail
  refine (awake_any _).mono ?_
  rintro e w2 ⟨rfl, hb2⟩
  have HB2 := Lib.hid hb2; clear hb2
  go_wp2_with fail
  refine (HRi.out _ HB2.out).mono ?_
  rintro e w3 ⟨rfl, hb3⟩
  have HB3 := Lib.hid (HB2.out.trans (hb3.mono HB2.out.size)); clear hb3 HRi HB2
  go_wp2_with fail
  refine (HTr.out _ HB3.out).mono ?_
  rintro e w4 ⟨v, rfl, hot⟩
  obtain ⟨g, tc, rfl, _, _⟩ := World.ownsRow.form hot.1 hn0
  obtain ⟨tq, tc', hv, hts⟩ := hot.sv
  cases hv
  have HB4 := Lib.hid (HB3.out.trans (hot.2.mono HB3.out.size)); clear hot HTr HB3
  have HTA : Hid (TrAt w4 g n tc T) := ⟨hts, HTl.out, hn1, HKi.out, HRo.out⟩
  have hntc := hts.bound
  clear hts HKi HRo
  go_wp2_with fail
  refine (HDe.out _ HB4.out _ _ _).mono ?_
  rintro e w5 ⟨rfl, hbx⟩
  rw [show derB l W 0 a b = true from HHd.out]
  have HB5 := Lib.hid (HB4.out.trans (hbx.mono HB4.out.size)); have HT5 := Lib.hid (HTA.out.below hbx); clear hbx HB4 HTA
  go_wp2_with fail
  refine (forest_any w5 _ tc n T HT5.out.sv (by omega) (fun x hx => (HT5.out.kids x hx).2)).mono ?_
  rintro e w6 ⟨rfl, hbx⟩
  rw [HT5.out.forest]
  have HB6 := Lib.hid (HB5.out.trans (hbx.mono HB5.out.size)); have HT6 := Lib.hid (HT5.out.below hbx); clear hbx HB5 HT5
  go_wp2_with fail
  refine (size_any w6 _ tc n T HT6.out.sv (by omega) HT6.out.kids HT6.out.forest 0 n hn0 HAf.out (by omega)).mono ?_
  rintro e w7 ⟨rfl, hbx⟩
  have HB7 := Lib.hid (HB6.out.trans (hbx.mono HB6.out.size)); have HT7 := Lib.hid (HT6.out.below hbx); clear hbx HB6 HT6
  have c2 : w7.cell? ⟨g, 2, none⟩ = some (.int .i64 a) := HT7.out.cell HT0.out 2 (by decide)
  have c3 : w7.cell? ⟨g, 3, none⟩ = some (.int .i64 b) := HT7.out.cell HT0.out 3 (by decide)
  go_wp2_with fail
  clear c2 c3
  have hgw := HT7.out.lt hn0
  have HBT := Lib.hid (fun w' (hb' : Below w7.heap.size w7 w') => HT7.out.below hb')
  have HBw := Lib.hid (fun w' (hb' : Below w7.heap.size w7 w') => HB7.out.trans (hb'.mono HB7.out.size))
  clear HT7 HAf HT0 HK0
  go_loopw [11] (fun i wr => ∃ k : Nat, k ≤ n ∧ i = .int .i64 k ∧ Hid (Below w7.heap.size w7 wr)) (fun i _ => n - (intOf i).toNat)
  case atStart => exact ⟨0, by omega, rfl, Below.refl _ _⟩
  case round =>
    obtain ⟨k, hk, rfl, HBr⟩ := hrel
    by_cases hlt : k < n
    · obtain ⟨lv, a', b', m', t', R, hdrop, hkd, hhr, hlv⟩ := HNd.out k hlt
      obtain ⟨ts, hts1, hts2, hndc⟩ := Nd.kids hdrop hkd
      have hx : T[k]? = some (tw lv a' b' m') := by
        have := Nd.get (k := 0) hdrop (by simp)
        rw [Nat.add_zero] at this
        rw [this]; rfl
      have haft := Nd.after hdrop hkd
      have hsp := Nd.split hdrop (by have := HTl.out; omega)
      have hder : derB l W lv a' b' = true := (derB_nat HL.out hlv hhr.bd.2).2 hhr
      have hbd := hhr.bd
      have HKi := Lib.hid (fun w' (hb' : Below wr.heap.size wr w') => kids_any w' _ tc n T (HBT.out w' (HBr.out.trans (hb'.mono HBr.out.size))).sv (by omega) (HBT.out w' (HBr.out.trans (hb'.mono HBr.out.size))).kids (HBT.out w' (HBr.out.trans (hb'.mono HBr.out.size))).forest _ R ts (by rw [← hts1]; exact hsp.1) hts2 k hsp.2 (by rw [← hts1]; exact haft))
      have HX := Lib.hid hx; have HNC := Lib.hid hndc; have HDr := Lib.hid hder; have HBd := Lib.hid hbd
      have hlv' := hlv
      clear hdrop hkd hhr hts1 hts2 hndc hx haft hsp hder hbd
      have HTr := Lib.hid (HBT.out wr HBr.out)
      have d2 : wr.cell? ⟨g, k * 5 + 2, none⟩ = some (.int .i64 a') := HTr.out.cell HX.out 2 (by decide)
      have d3 : wr.cell? ⟨g, k * 5 + 2 + 1, none⟩ = some (.int .i64 b') := HTr.out.cell HX.out 3 (by decide)
      have HD0 := Lib.hid ((Below.refl wr.heap.size wr).drew)
      have hgr : g < wr.heap.size := HTr.out.lt hn0
      have hzz : ∀ (v : Value) (xs : List Value) (wk : World), Own (wr.drew.alloc (.cells #[.int .i64 0, .int .i64 0] 55)) wk 3 1 v ts.length xs →
          wk.cell? ⟨wr.heap.size, 0, none⟩ = some (.int .i64 0) ∧ wk.cell? ⟨wr.heap.size, 1, none⟩ = some (.int .i64 0) ∧ wk.frozen? ⟨wr.heap.size, 0, none⟩ = false ∧ wk.frozen? ⟨wr.heap.size, 1, none⟩ = false ∧ wr.heap.size < wk.heap.size := fun v xs wk h => by
        have h1 := (hrow.new wr.drew #[.int .i64 0, .int .i64 0] 55).below h.2
        exact ⟨h1.cell 0, h1.cell 1, h1.frozen 0, h1.frozen 1, h1.lt⟩
      have HZZ := Lib.hid hzz; clear hzz
      go_upto_region 15 with (fail)
      go_cut [12, 13] (fun s kd wx => ∃ gs ko kc, s = .pointer (some ⟨gs, 0, none⟩) ∧ hrow wx gs #[.int .i64 a', .int .i64 b'] 55 ∧ kd = .slice ko ts.length kc ∧ Sv wx ko ts.length kc 1 ((starts (k + 1) ts).map (.int .i64)) ∧ Below wr.heap.size wr wx)
      case first =>
       as_aux_lemma =>
        go_region_held3 (fun w' => w'.cell? ⟨g, k * 5 + 2, none⟩ = some (.int .i64 a') ∧ w'.cell? ⟨g, k * 5 + 2 + 1, none⟩ = some (.int .i64 b'))
          (first | (exact ⟨(HDk.out.cell (p := ⟨g, k * 5 + 2, none⟩) hgr).trans d2, (HDk.out.cell (p := ⟨g, k * 5 + 2 + 1, none⟩) hgr).trans d3⟩) | (exact ⟨((HDk.out.alloc HDk.out.size _).cell (p := ⟨g, k * 5 + 2, none⟩) hgr).trans d2, ((HDk.out.alloc HDk.out.size _).cell (p := ⟨g, k * 5 + 2 + 1, none⟩) hgr).trans d3⟩) | (exact ⟨(((HDk.out.setCell (by simp) _).setCell (by simp) _).cell (p := ⟨g, k * 5 + 2, none⟩) hgr).trans d2, (((HDk.out.setCell (by simp) _).setCell (by simp) _).cell (p := ⟨g, k * 5 + 2 + 1, none⟩) hgr).trans d3⟩) | go_keep)
          ((first | (go_at_call 25; refine (HKi.out _ (by first | exact HD0.out | exact HD0.out.alloc HD0.out.size _)).mono ?_; rintro ek wk ⟨vk, rfl, hok⟩; have HDk : Hid (Below wr.heap.size wr wk) := (by first | exact HD0.out.trans (hok.2.mono HD0.out.size) | exact (HD0.out.alloc HD0.out.size _).trans (hok.2.mono (HD0.out.alloc HD0.out.size _).size)); (first | (have hz1 := HZZ.out _ _ _ hok); (have hz2 := hz1.1; have hz3 := hz1.2.1; have hz4 := hz1.2.2.1; have hz5 := hz1.2.2.2.1; have hz6 := hz1.2.2.2.2; clear hz1) | skip); have HOk := Lib.hid hok; clear hok)))
        all_goals go_wp2_with fail
        all_goals go_meet
        · obtain ⟨ko, kc, rfl, hks⟩ := HOk.out.sv
          exact ⟨wk.heap.size, ko, kc, rfl, hrow.new _ _ _, rfl, hks.below ((Below.refl _ _).alloc (Nat.le_refl _) _), HDk.out.alloc HDk.out.size _⟩
        · obtain ⟨ko, kc, rfl, hks⟩ := HOk.out.sv_fr ((Fr.setCell wk ⟨wr.heap.size, 0, none⟩ (.int .i64 a')).trans (Fr.setCell _ ⟨wr.heap.size, 1, none⟩ (.int .i64 b')) (fun _ _ h => h)) (by rintro k rfl; simp)
          exact ⟨wr.heap.size, ko, kc, rfl, (((hrow.new wr.drew #[.int .i64 0, .int .i64 0] 55).below HOk.out.2).setCell 0 _).setCell 1 _, rfl, hks, (HDk.out.setCell (by simp) _).setCell (by simp) _⟩
      case rest =>
      obtain ⟨gs, ko, kc, rfl, hrs, rfl, hks, hbx⟩ := hcut
      have HB8 := Lib.hid (HBr.out.trans (hbx.mono HBr.out.size))
      clear d2 d3 HTr HZZ HD0 hgr hbx
      have HT8 := Lib.hid (HBT.out wc HB8.out)
      have HRs := Lib.hid hrs; have HKs := Lib.hid hks
      clear hrs hks
      have HY := Lib.hid (fun y : Later wc => (⟨HT8.out.below y.ok, HRs.out.below y.ok⟩ : TrAt y.val g n tc T ∧ hrow y.val gs #[.int .i64 a', .int .i64 b'] 55))
      have y0 : ∀ y : Later wc, y.val.cell? ⟨g, k * 5, none⟩ = some (.int .i64 0) := fun y => (HY.out y).1.cell HX.out 0 (by decide)
      have y1 : ∀ y : Later wc, y.val.cell? ⟨g, k * 5 + 1, none⟩ = some (.int .i64 lv) := fun y => (HY.out y).1.cell HX.out 1 (by decide)
      have s0 : ∀ y : Later wc, y.val.cell? ⟨gs, 0, none⟩ = some (.int .i64 a') := fun y => (HY.out y).2.cell 0
      have s1 : ∀ y : Later wc, y.val.cell? ⟨gs, 1, none⟩ = some (.int .i64 b') := fun y => (HY.out y).2.cell 1
      have HCd := Lib.hid (fun y : Later wc => HDe.out y.val (HBw.out _ (HB8.out.trans (y.ok.mono HB8.out.size))) lv a' b')
      rw [HDr.out] at HCd
      have t1 : decide (wn < b') = false := decide_eq_false (by have := HBd.out; have := HWl.out; omega)
      have t2 : decide (b' ≤ a') = false := decide_eq_false (by have := HBd.out; omega)
      have hkn : (k : Int) < n := by omega
      go_wp2_with fail
      refine wp_region_later (by kernel_rfl) (by kernel_rfl) ?_
      repeat (go_big_quiet_step ((go_at_call 13; exact Calls.later (HCd.out _))))
      refine wpQuiet_nil ?_
      intro w9 hw9
      obtain ⟨y, rfl⟩ := hw9
      have HB9 := Lib.hid (HB8.out.trans (y.ok.mono HB8.out.size)); have HT9 := Lib.hid (HT8.out.below y.ok); have HR9 := Lib.hid (HRs.out.below y.ok); have HK9 := Lib.hid (HKs.out.below y.ok)
      clear y0 y1 s0 s1 HCd HY HKs HRs HT8 HB8 t1 t2
      generalize y.val = w9 at *
      have r0 : w9.cell? ⟨gs, 0, none⟩ = some (.int .i64 a') := HR9.out.cell 0
      have r1 : w9.cell? ⟨gs, 1, none⟩ = some (.int .i64 b') := HR9.out.cell 1
      have hWb : ∀ p : Nat, p < wn → ∃ aw, wo = some aw ∧ w9.cell? (aw.add p) = some (.int .u8 (bt W p)) := fun p hp => (HWs.out _ (HBw.out _ HB9.out)).byte p (by have := HWl.out; omega)
      have hbd := HBd.out
      have hwn := HWl.out
      rw [hwn] at hbd
      clear hwn
      rcases HNC.out with ⟨hl0, hdg, rfl⟩ | ⟨e, m1, hl1, hst, hx1, rfl, h40, h41, hae⟩ | ⟨i, c, m1, m2, q, hl2, hst, hx1, hxq, hil, hcs, hac, hcb⟩
      · as_aux_lemma =>
        rw [hl0]
        obtain ⟨aw, rfl, q1⟩ := hWb a' (by omega)
        obtain ⟨g1, g2⟩ := hdg
        clear hWb
        generalize bt W a' = B at *
        have hai : (a' : Int) < wn := by omega
        go_wp2_with fail
        go_roundw
        case rel => exact ⟨k + 1, by omega, by go_num, HB9⟩
        case measure => simp [intOf]; omega
      · as_aux_lemma =>
        rw [hl1]
        have hk1 := HK9.out
        rw [hl1, hst] at hk1
        obtain ⟨ka, rfl, kc0⟩ := hk1.cell 0 (by simp)
        have kc0 : w9.cell? ka = some (.int .i64 ((k : Int) + 1)) := by
          have : ka.add 0 = ka := rfl
          rw [this] at kc0
          rw [kc0]; simp
        have hb1 := hk1.bound
        have hk1n : k + 1 < n := by have := (List.getElem?_eq_some_iff.1 hx1).1; have := HTl.out; omega
        have hk1n' : (k : Int) + 1 < n := by omega
        have HCt : Hid (∀ j v, (#[.int .i64 0, .int .i64 0, .int .i64 ((a' : Int) + 1), .int .i64 e, .int .i64 m1] : Array Value).toList[j]? = some v → w9.cell? ((⟨g, (k + 1) * 5, none⟩ : Addr).add j) = some v) := by
          intro j v hj
          have hj5 : j < 5 := (List.getElem?_eq_some_iff.1 hj).1
          have := HT9.out.cell hx1 j hj5
          have e1 : (⟨g, (k + 1) * 5, none⟩ : Addr).add j = ⟨g, (k + 1) * 5 + j, none⟩ := by unfold Addr.add; split <;> simp_all
          rw [e1, this, ← hj]
          simp [twv, tw]
        have K2 : Hid ((Try.prog.info? 57).map (·.size) = some 5) := by unfold Hid; kernel_rfl
        obtain ⟨aw, rfl, q1⟩ := hWb a' (by omega)
        obtain ⟨aw', haw, q2⟩ := hWb e (by omega)
        cases haw
        rw [h40] at q1; rw [h41] at q2
        have aft : ∀ (o : Obj) (p : Addr) (v : Value), w9.cell? p = some v → (w9.alloc o).cell? p = some v := fun o p v h =>
          (((Below.refl w9.heap.size w9).alloc (Nat.le_refl _) o).cell (World.block_lt_of_cell? w9 _ h)).trans h
        have r0' : ∀ o : Obj, (w9.alloc o).cell? ⟨gs, 0, none⟩ = some (.int .i64 a') := fun o => aft o _ _ r0
        have r1' : ∀ o : Obj, (w9.alloc o).cell? ⟨gs, 1, none⟩ = some (.int .i64 ((e : Int) + 1)) := fun o => aft o _ _ r1
        have q1' : ∀ o : Obj, (w9.alloc o).cell? (aw.add a') = some (.int .u8 40) := fun o => aft o _ _ q1
        have q2' : ∀ o : Obj, (w9.alloc o).cell? (aw.add e) = some (.int .u8 41) := fun o => aft o _ _ q2
        have hai : (a' : Int) < wn := by omega
        have hei : (e : Int) < wn := by omega
        have haft := Lib.hid aft
        clear hl1 hst hx1 hk1 h40 h41 hWb aft
        go_wp2_with (first
          | (refine wpList_load_part rfl 57 (.tmp 162) rfl ⟨g, (k + 1) * 5, none⟩ rfl #[.int .i64 0, .int .i64 0, .int .i64 ((a' : Int) + 1), .int .i64 e, .int .i64 m1] _ HCt.out Try.underlying57 rfl K2.out ?_))
        go_roundw
        case rel => exact ⟨k + 1, by omega, by go_num, HB9.out.alloc HB9.out.size _⟩
        case measure => simp [intOf]; omega
      · as_aux_lemma =>
        rw [hl2]
        have hk2 := HK9.out
        rw [hl2, hst] at hk2
        obtain ⟨ka, rfl, kc0⟩ := hk2.cell 0 (by simp)
        obtain ⟨ka', hka, kc1⟩ := hk2.cell 1 (by simp)
        cases hka
        have kc0 : w9.cell? ka = some (.int .i64 ((k : Int) + 1)) := by
          have : ka.add 0 = ka := rfl
          rw [this] at kc0
          rw [kc0]; simp
        have kc1 : w9.cell? (ka.add 1) = some (.int .i64 q) := by rw [kc1]; rfl
        have hb2 := hk2.bound
        have hk1n : k + 1 < n := by have := (List.getElem?_eq_some_iff.1 hx1).1; have := HTl.out; omega
        have hqn : q < n := by have := (List.getElem?_eq_some_iff.1 hxq).1; have := HTl.out; omega
        have hk1n' : (k : Int) + 1 < n := by omega
        have hqn' : (q : Int) < n := by omega
        have ca := fun j hj => HT9.out.cell hx1 j hj
        have cb := fun j hj => HT9.out.cell hxq j hj
        have a0 : w9.cell? ⟨g, (k + 1) * 5, none⟩ = some (.int .i64 0) := ca 0 (by decide)
        have a1 : w9.cell? ⟨g, (k + 1) * 5 + 1, none⟩ = some (.int .i64 i) := ca 1 (by decide)
        have a2 : w9.cell? ⟨g, (k + 1) * 5 + 2, none⟩ = some (.int .i64 a') := ca 2 (by decide)
        have a3 : w9.cell? ⟨g, (k + 1) * 5 + 3, none⟩ = some (.int .i64 c) := ca 3 (by decide)
        have a4 : w9.cell? ⟨g, (k + 1) * 5 + 4, none⟩ = some (.int .i64 m1) := ca 4 (by decide)
        have b0 : w9.cell? ⟨g, q * 5, none⟩ = some (.int .i64 0) := cb 0 (by decide)
        have b1 : w9.cell? ⟨g, q * 5 + 1, none⟩ = some (.int .i64 (bh l i)) := cb 1 (by decide)
        have b2 : w9.cell? ⟨g, q * 5 + 2, none⟩ = some (.int .i64 ((c : Int) + 1)) := cb 2 (by decide)
        have b3 : w9.cell? ⟨g, q * 5 + 3, none⟩ = some (.int .i64 b') := cb 3 (by decide)
        have b4 : w9.cell? ⟨g, q * 5 + 4, none⟩ = some (.int .i64 m2) := cb 4 (by decide)
        obtain ⟨aw, rfl, q1⟩ := hWb c (by omega)
        rw [hcs] at q1
        obtain ⟨la, rfl, l0, l1⟩ := opc_cell (HLs.out _ (HBw.out _ HB9.out)) i hil
        have e3 : la.add (i * 2 + 1) = ⟨(la.add (i * 2)).block, (la.add (i * 2)).off + 1, none⟩ := by rw [← add_add]; rfl
        rw [e3] at l1
        have hilt : i < ln := by have := HLen.out; omega
        have hilt' : (i : Int) < ln := by omega
        have hci : (c : Int) < wn := by omega
        have hgl := HT9.out.lt hn0
        have hgsl := HR9.out.lt
        have e4 : ka.add 1 = ⟨ka.block, ka.off + 1, none⟩ := rfl
        rw [e4] at kc1
        have hkal := World.block_lt_of_cell? w9 _ kc0
        have hawl := World.block_lt_of_cell? w9 _ q1
        have hlal := World.block_lt_of_cell? w9 _ l0
        have hbhl : rg l i = true ∧ bh l i = i ∨ rg l i = false ∧ bh l i = i + 1 := by unfold bh; cases rg l i <;> simp
        clear hl2 hst hx1 hxq hk2 hcs hil hWb ca cb e3
        go_upto_region 26 with (fail)
        go_cut [16, 17] (fun pa pb wx => ∃ ga gb, pa = .pointer (some ⟨ga, 0, none⟩) ∧ pb = .pointer (some ⟨gb, 0, none⟩) ∧ hrow wx ga #[.int .i64 0, .int .i64 i, .int .i64 a', .int .i64 c, .int .i64 m1] 57 ∧ hrow wx gb #[.int .i64 0, .int .i64 (bh l i), .int .i64 ((c : Int) + 1), .int .i64 b', .int .i64 m2] 57 ∧ Below w9.heap.size w9 wx)
        case first =>
         as_aux_lemma =>
          generalize bh l i = bi at *
          go_region
          all_goals (go_wp2_with fail; go_meet)
          · exact ⟨_, _, rfl, rfl, ((hrow.new w9 _ _).below ((Below.refl _ _).alloc (Nat.le_refl _) _)).below (Below.refl _ _).drew, (by have := hrow.new (w9.alloc (.cells #[.int .i64 0, .int .i64 i, .int .i64 a', .int .i64 c, .int .i64 m1] 57)) #[.int .i64 0, .int .i64 bi, .int .i64 ((c : Int) + 1), .int .i64 b', .int .i64 m2] 57; rw [World.size_alloc] at this; exact this.below (Below.refl _ _).drew), (((Below.refl _ _).alloc (Nat.le_refl _) _).alloc (by simp) _).drew⟩
          · exact ⟨_, _, rfl, rfl, (by have := hrow.new (w9.alloc (.cells #[.int .i64 0, .int .i64 bi, .int .i64 ((c : Int) + 1), .int .i64 b', .int .i64 m2] 57)) #[.int .i64 0, .int .i64 i, .int .i64 a', .int .i64 c, .int .i64 m1] 57; rw [World.size_alloc] at this; exact this.below (Below.refl _ _).drew), ((hrow.new w9 _ _).below ((Below.refl _ _).alloc (Nat.le_refl _) _)).below (Below.refl _ _).drew, (((Below.refl _ _).alloc (Nat.le_refl _) _).alloc (by simp) _).drew⟩
        case rest =>
        obtain ⟨ga, gb, rfl, rfl, hra, hrb, hbx⟩ := hcut
        have HBx := Lib.hid (HB9.out.trans (hbx.mono HB9.out.size))
        have keep : ∀ (p : Addr) (v : Value), w9.cell? p = some v → wc.cell? p = some v := fun p v h => (hbx.cell (World.block_lt_of_cell? w9 _ h)).trans h
        have x1 := hra.cell 1; have x2 := hra.cell 2; have x3 := hra.cell 3
        have z1 := hrb.cell 1; have z2 := hrb.cell 2; have z3 := hrb.cell 3
        simp at x1 x2 x3 z1 z2 z3
        have t1 : decide (i < ln) = true := decide_eq_true (by omega)
        have t2 : decide ((i : Int) < ln) = true := decide_eq_true (by omega)
        have r0 := keep _ _ r0; have r1 := keep _ _ r1; have q1 := keep _ _ q1; have l0 := keep _ _ l0; have l1 := keep _ _ l1
        have lat : ∀ (p : Addr) (v : Value), wc.cell? p = some v → ∀ y : Later wc, y.val.cell? p = some v := fun p v h y => (y.ok.cell (World.block_lt_of_cell? wc _ h)).trans h
        have Lat := Lib.hid lat; clear lat
        clear hbx hra hrb keep a0 a1 a2 a3 a4 b0 b1 b2 b3 b4 kc0 kc1 HB9 HT9 HR9 HK9 hgl hgsl hkal hawl hlal
        rcases hbhl with ⟨h1, h2⟩ | ⟨h1, h2⟩
        · as_aux_lemma =>
          rw [h2] at z1; rw [h1] at l1
          clear h1 h2
          have x1 := Lat.out _ _ x1; have x2 := Lat.out _ _ x2; have x3 := Lat.out _ _ x3; have z1 := Lat.out _ _ z1; have z2 := Lat.out _ _ z2; have z3 := Lat.out _ _ z3
          have r0 := Lat.out _ _ r0; have r1 := Lat.out _ _ r1; have q1 := Lat.out _ _ q1; have l0 := Lat.out _ _ l0; have l1 := Lat.out _ _ l1
          clear Lat
          go_wp2_with fail
          refine wp_region_later (by kernel_rfl) (by kernel_rfl) ?_
          simp only [List.append_eq, List.cons_append, List.nil_append]
          repeat (go_big_quiet_step (fail))
          refine wpQuiet_nil ?_
          intro w9 hw9
          obtain ⟨y, rfl⟩ := hw9
          have HBy := Lib.hid (HBx.out.trans (y.ok.mono HBx.out.size))
          generalize y.val = w9 at *
          go_wp2_with fail
          go_roundw
          case rel => exact ⟨k + 1, by omega, by go_num, HBy⟩
          case measure => simp [intOf]; omega
        · as_aux_lemma =>
          rw [h2] at z1; rw [h1] at l1
          clear h1 h2
          rw [show ((i + 1 : Nat) : Int) = (i : Int) + 1 by omega] at z1
          have ne1 : (((i : Int) + 1) == (i : Int)) = false := by simp; omega
          have x1 := Lat.out _ _ x1; have x2 := Lat.out _ _ x2; have x3 := Lat.out _ _ x3; have z1 := Lat.out _ _ z1; have z2 := Lat.out _ _ z2; have z3 := Lat.out _ _ z3
          have r0 := Lat.out _ _ r0; have r1 := Lat.out _ _ r1; have q1 := Lat.out _ _ q1; have l0 := Lat.out _ _ l0; have l1 := Lat.out _ _ l1
          clear Lat
          go_wp2_with fail
          refine wp_region_later (by kernel_rfl) (by kernel_rfl) ?_
          simp only [List.append_eq, List.cons_append, List.nil_append]
          repeat (go_big_quiet_step (fail))
          refine wpQuiet_nil ?_
          intro w9 hw9
          obtain ⟨y, rfl⟩ := hw9
          have HBy := Lib.hid (HBx.out.trans (y.ok.mono HBx.out.size))
          generalize y.val = w9 at *
          go_wp2_with fail
          go_roundw
          case rel => exact ⟨k + 1, by omega, by go_num, HBy⟩
          case measure => simp [intOf]; omega
    · as_aux_lemma =>
        obtain rfl : k = n := by omega
        clear HNd
        go_wp2_with fail
        go_ret
        exact ⟨rfl, (HBw.out _ HBr.out)⟩

theorem treeL_any (w : World) (lo : Option Addr) (ln lc : Nat) (l : Tab) (wo : Option Addr) (wn wc : Nat) (W : List Int) (hb : Byt l) (ho : Sv w lo ln lc 2 (opc l)) (hW : Sv w wo wn wc 1 (byc W)) (p q : Int) :
    Calls Try.prog 7 #[.slice lo ln lc, .slice wo wn wc, .int .i64 p, .int .i64 q] w (Yes w) := by
  by_cases hin : wn ≤ 30 ∧ rightB l = true
  · obtain ⟨h30, hr⟩ := hin
    have hl := (rightB_iff l hb).1 hr
    have hwl := hW.byte_len
    cases hd : derB l W 0 p q with
    | false => exact treeL_no w lo ln lc l wo wn wc W hb ho hW p q h30 hl hd
    | true =>
      obtain ⟨v, a, b, _, rfl, rfl, _, hab, hbn⟩ := (derB_iff.1 hd).1.nat
      exact treeL_yes w lo ln lc l wo wn wc W hb ho hW a b h30 hl hab (by omega) hd
  · exact treeL_out w lo ln lc l wo wn wc hb ho hW.bound p q hin
end Go.Proofs.Ytmpccinbeepbgaa
