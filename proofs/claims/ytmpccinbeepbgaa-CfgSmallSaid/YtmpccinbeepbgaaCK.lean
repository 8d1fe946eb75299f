/- Walk: CfgOne, where it is asked. -/
import Derived.Test.YtmpccinbeepbgaaCI
import Derived.Deep.DeepCutAuto
namespace Go.Proofs.Ytmpccinbeepbgaa
open Go.RowKit

theorem opc_cell {w : World} {lo : Option Addr} {ln lc : Nat} {l : Tab} (h : Sv w lo ln lc 2 (opc l)) (j : Nat) (hj : j < l.length) :
    ∃ a, lo = some a ∧ w.cell? (a.add (j * 2)) = some (.int .u8 (sg l j)) ∧ w.cell? (a.add (j * 2 + 1)) = some (.bool (rg l j)) := by
  have hl : (opc l).length = l.length * 2 := fl_len (s := 2) (fun _ => rfl) l
  obtain ⟨a, ha, h1⟩ := h.cell (j * 2) (by omega)
  obtain ⟨a', ha', h2⟩ := h.cell (j * 2 + 1) (by omega)
  rw [ha] at ha'; cases ha'
  refine ⟨a, ha, ?_, ?_⟩
  · rw [h1]; have := fl_get (s := 2) (f := fun o : Int × Bool => [.int .u8 o.1, .bool o.2]) (fun _ => rfl) l j 0 hj (by decide)
    rw [Nat.add_zero] at this
    exact this.trans (by simp [sg, List.getD_eq_getElem?_getD, hj])
  · rw [h2]; have := fl_get (s := 2) (f := fun o : Int × Bool => [.int .u8 o.1, .bool o.2]) (fun _ => rfl) l j 1 hj (by decide)
    exact this.trans (by simp [rg, List.getD_eq_getElem?_getD, hj])

theorem wayI_one {l : Tab} {w : List Int} {v p q : Int} {b : Bool} (h : derB l w v p q = b) : wayI l w v p q = if b = true then 1 else 0 := by unfold wayI; rw [h]

set_option maxRecDepth 100000 in
set_option maxHeartbeats 4000000 in
theorem one_in (w : World) (lo : Option Addr) (ln lc : Nat) (l : Tab) (ao : Option Addr) (an ac : Nat) (A : List Int) (bo : Option Addr) (bn bc : Nat) (B : List Int) (hb : Byt l) (ho : Sv w lo ln lc 2 (opc l)) (ha : Sv w ao an ac 1 (byc A)) (hB : Sv w bo bn bc 1 (byc B))
    (lv : Nat) (hsum : an + bn ≤ 30) (hl : RightT l) (hlv : lv < l.length) :
    Calls Try.prog 5 #[.slice lo ln lc, .slice ao an ac, .slice bo bn bc, .int .i64 lv] w (Yes w) := by
  obtain ⟨h3, h4⟩ := ho.bound
  obtain ⟨h1, h1'⟩ := ha.bound
  obtain ⟨h2, h2'⟩ := hB.bound
  have hln := ho.ops_len
  have han := ha.byte_len
  have hbn := hB.byte_len
  have hl32 := hl.le
  have hln32 : ln ≤ 32 := by omega
  have HRi := Lib.hid (fun w' (hb' : Below w.heap.size w w') => right_any w' lo lc ln l (ho.below hb') hb)
  rw [show rightB l = true from (rightB_iff l hb).2 hl] at HRi
  have HWa := Lib.hid (fun w' (hb' : Below w.heap.size w w') k => ways_any w' lo ln lc ao an ac l A hb (by omega) (ho.below hb') (ha.below hb') k 0 an)
  have HDa := Lib.hid (fun w' (hb' : Below w.heap.size w w') k => der_any w' lo ln lc ao an ac l A hb (by omega) (ho.below hb') (ha.below hb') k 0 an)
  have HDb := Lib.hid (fun w' (hb' : Below w.heap.size w w') k => der_any w' lo ln lc bo bn bc l B hb (by omega) (ho.below hb') (hB.below hb') k 0 bn)
  have HWj := Lib.hid (fun w' (hb' : Below w.heap.size w w') jo jn jc (hj : Sv w' jo jn jc 1 (byc (A ++ [sg l lv] ++ B))) (k q : Int) => ways_any w' lo ln lc jo jn jc l _ hb (by simp; omega) (ho.below hb') hj k 0 q)
  have HDj := Lib.hid (fun w' (hb' : Below w.heap.size w w') jo jn jc (hj : Sv w' jo jn jc 1 (byc (A ++ [sg l lv] ++ B))) (k p q : Int) => der_any w' lo ln lc jo jn jc l _ hb (by simp; omega) (ho.below hb') hj k p q)
  have HLo := Lib.hid (fun w' (hb' : Below w.heap.size w w') => opc_cell (ho.below hb') lv hlv)
  have HAs := Lib.hid (fun w' (hb' : Below w.heap.size w w') => ha.below hb')
  have HBs := Lib.hid (fun w' (hb' : Below w.heap.size w w') => hB.below hb')
  have HL := Lib.hid hl
  have HLen := Lib.hid hln; have HAn := Lib.hid han; have HBn := Lib.hid hbn
  have hlv' : (lv : Int) < ln := by omega
  have hsum' : (an : Int) + bn ≤ 30 := by omega
  clear ho ha hB hl hb hln han hbn hlv hsum
  go_enter Try.func5, Try.ntmps5
  go_wp2_with fail
  refine (awake_any _).mono ?_
  rintro e w2 ⟨rfl, hb2⟩
  have HB2 := Lib.hid hb2; clear hb2
  go_wp2_with fail
  refine (HRi.out _ HB2.out).mono ?_
  rintro e w3 ⟨rfl, hb3⟩
  have HB3 := Lib.hid (HB2.out.trans (hb3.mono HB2.out.size)); clear hb3
  clear HRi HB2
  go_wp2_with fail
  have HD0 := Lib.hid ((Below.refl w3.heap.size w3).drew)
  obtain ⟨la, rfl, r0, r1⟩ := HLo.out _ HB3.out
  have hla := World.block_lt_of_cell? w3 _ r0
  have HLa : Hid (((la.add (lv * 2)).block) < w3.heap.size) := hla
  have hA1 := byc_one A; have HA1 := Lib.hid hA1; have HB1 := Lib.hid (byc_one B)
  have HAw := Lib.hid (fun w' (hb' : Below w3.heap.size w3 w') => HAs.out w' (HB3.out.trans (hb'.mono HB3.out.size)))
  have HBw := Lib.hid (fun w' (hb' : Below w3.heap.size w3 w') => HBs.out w' (HB3.out.trans (hb'.mono HB3.out.size)))
  clear r1 hla hA1
  have HLn : Hid (((0 + an + 1 + bn) * 1 ≤ 140737488355328 ∧ 0 + an + 1 + bn ≤ maxLen) ∧ ((0 + an + 1) * 1 ≤ 140737488355328 ∧ 0 + an + 1 ≤ maxLen) ∧ (0 + an) * 1 ≤ 140737488355328 ∧ 0 + an ≤ maxLen) := by unfold Hid maxLen; omega
  have HOn1 : Hid (∀ u ∈ ([.int .u8 (sg l lv)] : List Value), u.oneCell' = true) := by intro u hu; simp only [List.mem_singleton] at hu; subst hu; rfl
  have HOA : Hid (Own w3.drew (w3.drew.alloc (.cells #[] 5)) 5 1 (.slice (some ⟨w3.drew.heap.size, 0, none⟩) 0 0) 0 []) := Own.lit w3.drew 5 #[] 0 1 (by decide) rfl
  have HOB : Hid (Own w3.drew ((w3.drew.alloc (.cells #[] 5)).alloc (.cells #[.int .u8 (sg l lv)] 5)) 5 1 (.slice (some ⟨w3.drew.heap.size, 0, none⟩) 0 0) 0 []) := HOA.out.below ((Below.refl _ _).alloc (Nat.le_refl _) _)
  have HOC : Hid (Own w3.drew ((w3.drew.alloc (.cells #[.int .u8 (sg l lv)] 5)).alloc (.cells #[] 5)) 5 1 (.slice (some ⟨w3.drew.heap.size + 1, 0, none⟩) 0 0) 0 []) := by
    have := (Own.lit (w3.drew.alloc (.cells #[.int .u8 (sg l lv)] 5)) 5 #[] 0 1 (by decide) rfl).since ((Below.refl _ _).alloc (Nat.le_refl _) _)
    rw [World.size_alloc] at this
    exact this
  have HBA : Hid (Below w3.heap.size w3 (w3.drew.alloc (.cells #[] 5))) := HD0.out.alloc HD0.out.size _
  have HBB : Hid (Below w3.heap.size w3 ((w3.drew.alloc (.cells #[] 5)).alloc (.cells #[.int .u8 (sg l lv)] 5))) := HBA.out.alloc HBA.out.size _
  have HBC : Hid (Below w3.heap.size w3 ((w3.drew.alloc (.cells #[.int .u8 (sg l lv)] 5)).alloc (.cells #[] 5))) := (HD0.out.alloc HD0.out.size _).alloc (HD0.out.alloc HD0.out.size _).size _
  have HSgB : Hid (∀ w', Fr (fun k => (Value.slice (some ⟨w3.drew.heap.size, 0, none⟩) 0 0).ownBlock = some k) ((w3.drew.alloc (.cells #[] 5)).alloc (.cells #[.int .u8 (sg l lv)] 5)) w' → Sv w' (some ⟨w3.drew.heap.size + 1, 0, none⟩) 1 1 1 [.int .u8 (sg l lv)]) := fun w' hf => by
    have := Sv.lit (w3.drew.alloc (.cells #[] 5)) 5 #[.int .u8 (sg l lv)] 1 1 (by decide) rfl
    rw [World.size_alloc] at this
    refine this.fr hf ?_
    rintro a ha _ hk
    cases ha
    simp [Value.ownBlock] at hk
  have HSgC : Hid (∀ w', Fr (fun k => (Value.slice (some ⟨w3.drew.heap.size + 1, 0, none⟩) 0 0).ownBlock = some k) ((w3.drew.alloc (.cells #[.int .u8 (sg l lv)] 5)).alloc (.cells #[] 5)) w' → Sv w' (some ⟨w3.drew.heap.size, 0, none⟩) 1 1 1 [.int .u8 (sg l lv)]) := fun w' hf => by
    have := (Sv.lit w3.drew 5 #[.int .u8 (sg l lv)] 1 1 (by decide) rfl).below ((Below.refl _ _).alloc (Nat.le_refl _) (.cells #[] 5))
    refine this.fr hf ?_
    rintro a ha _ hk
    cases ha
    simp [Value.ownBlock] at hk
  go_cut [9] (fun v wx => Own w3 wx 5 1 v (0 + an + 1 + bn) ([] ++ byc A ++ [.int .u8 (sg l lv)] ++ byc B))
  case first =>
    go_region_held3 (fun w' => w'.cell? (la.add (lv * 2)) = some (.int .u8 (sg l lv)))
      (first | (exact (HDc.out.cell HLa.out).trans r0) | (exact ((HDb.out.alloc HDb.out.size _).cell HLa.out).trans r0) | (exact (HDb.out.cell HLa.out).trans r0) | (exact ((HDa.out.alloc HDa.out.size _).cell HLa.out).trans r0) | (exact (HDa.out.cell HLa.out).trans r0) | go_keep)
      ((first
        | (refine step_appz (w0 := w3.drew) (by rfl) (.tmp 39) (.tmp 40) 23 5 (by rfl) elemBy _ 0 [] (by rfl) (by first | exact HOA.out | exact HOB.out | exact HOC.out) ao an ac (byc A) (by rfl) (HAw.out _ (by first | exact HBA.out | exact HBB.out | exact HBC.out)) HA1.out HLn.out.2.2 ?_; intro va wa hoa hfa; have HOa := Lib.hid hoa; have HDa := Lib.hid (HD0.out.trans (hoa.2.mono HD0.out.size)); (first | have HSg := Lib.hid (HSgB.out _ hfa) | have HSg := Lib.hid (HSgC.out _ hfa) | skip); clear hoa hfa)
        | (refine step_appz (w0 := w3.drew) (by rfl) (.tmp 41) (.tmp 47) 23 5 (by rfl) elemBy va (0 + an) _ (by rfl) (by first | exact HOa.out | exact HOa.out.below ((Below.refl _ _).alloc (Nat.le_refl _) _)) _ 1 1 [.int .u8 (sg l lv)] (by rfl) (by first | exact Sv.lit wa 5 #[.int .u8 (sg l lv)] 1 1 (by decide) (by rfl) | exact HSg.out) HOn1.out HLn.out.2.1 ?_; intro vb wb hob hfb; have HOb := Lib.hid hob; have HDb := Lib.hid (HD0.out.trans (hob.2.mono HD0.out.size)); clear hob hfb)
        | (refine step_appz (w0 := w3.drew) (by rfl) (.tmp 48) (.tmp 49) 23 5 (by rfl) elemBy vb (0 + an + 1) _ (by rfl) HOb.out bo bn bc (byc B) (by rfl) (HBw.out _ HDb.out) HB1.out HLn.out.1 ?_; intro vc wc hoc hfc; have HOc := Lib.hid hoc; have HDc := Lib.hid (HD0.out.trans (hoc.2.mono HD0.out.size)); clear hoc hfc)))
    all_goals
      go_wp2_with fail
      go_meet
      exact HOc.out.since HD0.out
  case rest =>
    obtain ⟨jo, jc, rfl, hjs⟩ := hcut.sv
    rw [show ([] ++ byc A ++ [.int .u8 (sg l lv)] ++ byc B : List Value) = byc (A ++ [sg l lv] ++ B) by simp [byc]] at hjs
    have HBc := Lib.hid (HB3.out.trans (hcut.2.mono HB3.out.size))
    have HJ := Lib.hid (fun w' (hb' : Below wc.heap.size wc w') => hjs.below hb')
    have HN : Hid (0 + an + 1 + bn = (A ++ [sg l lv] ++ B).length) := by unfold Hid; simp [HAn.out, HBn.out]; omega
    clear hcut hjs HOA HOB HOC HBA HBB HBC HSgB HSgC HLn HOn1 HA1 HB1 HAw HBw r0 HLa HD0 HAs HBs
    generalize 0 + an + 1 + bn = N at *
    have hN : N ≤ 31 := by have h1 := HN.out; have h2 := HAn.out; have h3 := HBn.out; simp at h1; omega
    go_wp2_with fail
    go_loopw [11] (fun i wr => ∃ k : Nat, k ≤ ln + 1 ∧ i = .int .i64 k ∧ Hid (Below wc.heap.size wc wr)) (fun i _ => ln + 1 - (intOf i).toNat)
    case atStart => exact ⟨0, by omega, rfl, Below.refl _ _⟩
    case round =>
      obtain ⟨k, hk, rfl, HBr⟩ := hrel
      have HBw := Lib.hid (HBc.out.trans (HBr.out.mono HBc.out.size))
      by_cases hlt : k ≤ ln
      · have hfr : derB l (A ++ [sg l lv] ++ B) k 0 an = derB l A k 0 an := by
          rw [List.append_assoc, ← HAn.out]
          exact der_front HL.out A ([sg l lv] ++ B) (by have := HLen.out; omega)
        have hwk : 0 < k → derB l A k 0 an = true → derB l A ((k : Int) - 1) 0 an = true := fun h0 h => by
          obtain ⟨j, rfl⟩ : ∃ j, k = j + 1 := ⟨k - 1, by omega⟩
          rw [← HAn.out] at h ⊢
          have := der_weak HL.out (i := j) (by have := HLen.out; omega) h
          rw [show (((j + 1 : Nat) : Int) - 1) = (j : Int) by omega]
          exact this
        have HWk := Lib.hid hwk; clear hwk
        have HFk := Lib.hid hfr; clear hfr
        have hlt' : (k : Int) ≤ ln := by omega
        cases hdk : derB l A k 0 an
        · have HDk := Lib.hid hdk; clear hdk HWk
          by_cases h0 : 0 < k
          · have h0' : (0 : Int) < k := by omega
            go_wp2_with fail
            refine (HWa.out _ HBw.out _).mono ?_
            rintro e w4 ⟨rfl, hbx⟩
            rw [wayI_one HDk.out]; rw [if_neg (by decide)]
            have HBw4 := Lib.hid (HBr.out.trans (hbx.mono HBr.out.size)); have HQw4 := Lib.hid (HBc.out.trans (HBw4.out.mono HBc.out.size)); clear hbx
            go_wp2_with fail
            refine (HDa.out _ HQw4.out _).mono ?_
            rintro e w5 ⟨rfl, hbx⟩
            rw [HDk.out]
            have HBw5 := Lib.hid (HBw4.out.trans (hbx.mono HBw4.out.size)); have HQw5 := Lib.hid (HBc.out.trans (HBw5.out.mono HBc.out.size)); clear hbx
            go_wp2_with fail
            refine (HWj.out _ HQw5.out jo N jc (HJ.out _ HBw5.out) _ _).mono ?_
            rintro e w7 ⟨rfl, hbx⟩
            rw [wayI_one (HFk.out.trans HDk.out)]; rw [if_neg (by decide)]
            have HBw7 := Lib.hid (HBw5.out.trans (hbx.mono HBw5.out.size)); have HQw7 := Lib.hid (HBc.out.trans (HBw7.out.mono HBc.out.size)); clear hbx
            go_wp2_with fail
            go_roundw
            case rel => exact ⟨k + 1, by have := hlt; have := hlt'; omega, by go_num, HBw7.out⟩
            case measure => (simp [intOf]; try omega)
          · obtain rfl : k = 0 := by omega
            have HDk : Hid (derB l A 0 0 an = false) := HDk
            have HFk : Hid (derB l (A ++ [sg l lv] ++ B) 0 0 an = derB l A 0 0 an) := HFk
            go_wp2_with fail
            refine (HWa.out _ HBw.out _).mono ?_
            rintro e w4 ⟨rfl, hbx⟩
            rw [wayI_one HDk.out]; rw [if_neg (by decide)]
            have HBw4 := Lib.hid (HBr.out.trans (hbx.mono HBr.out.size)); have HQw4 := Lib.hid (HBc.out.trans (HBw4.out.mono HBc.out.size)); clear hbx
            go_wp2_with fail
            refine (HDa.out _ HQw4.out _).mono ?_
            rintro e w5 ⟨rfl, hbx⟩
            rw [HDk.out]
            have HBw5 := Lib.hid (HBw4.out.trans (hbx.mono HBw4.out.size)); have HQw5 := Lib.hid (HBc.out.trans (HBw5.out.mono HBc.out.size)); clear hbx
            go_wp2_with fail
            refine (HWj.out _ HQw5.out jo N jc (HJ.out _ HBw5.out) _ _).mono ?_
            rintro e w7 ⟨rfl, hbx⟩
            rw [wayI_one (HFk.out.trans HDk.out)]; rw [if_neg (by decide)]
            have HBw7 := Lib.hid (HBw5.out.trans (hbx.mono HBw5.out.size)); have HQw7 := Lib.hid (HBc.out.trans (HBw7.out.mono HBc.out.size)); clear hbx
            go_wp2_with fail
            go_roundw
            case rel => exact ⟨1, by omega, by rfl, HBw7.out⟩
            case measure => (simp [intOf]; try omega)
        · have HDk := Lib.hid hdk; clear hdk
          by_cases h0 : 0 < k
          · have h0' : (0 : Int) < k := by omega
            have HWk1 := Lib.hid (HWk.out h0 HDk.out); clear HWk
            go_wp2_with fail
            refine (HWa.out _ HBw.out _).mono ?_
            rintro e w4 ⟨rfl, hbx⟩
            rw [wayI_one HDk.out]; rw [if_pos rfl]
            have HBw4 := Lib.hid (HBr.out.trans (hbx.mono HBr.out.size)); have HQw4 := Lib.hid (HBc.out.trans (HBw4.out.mono HBc.out.size)); clear hbx
            go_wp2_with fail
            refine (HDa.out _ HQw4.out _).mono ?_
            rintro e w5 ⟨rfl, hbx⟩
            rw [HDk.out]
            have HBw5 := Lib.hid (HBw4.out.trans (hbx.mono HBw4.out.size)); have HQw5 := Lib.hid (HBc.out.trans (HBw5.out.mono HBc.out.size)); clear hbx
            go_wp2_with fail
            refine (HDa.out _ HQw5.out _).mono ?_
            rintro e w6 ⟨rfl, hbx⟩
            rw [HWk1.out]
            have HBw6 := Lib.hid (HBw5.out.trans (hbx.mono HBw5.out.size)); have HQw6 := Lib.hid (HBc.out.trans (HBw6.out.mono HBc.out.size)); clear hbx
            go_wp2_with fail
            refine (HWj.out _ HQw6.out jo N jc (HJ.out _ HBw6.out) _ _).mono ?_
            rintro e w7 ⟨rfl, hbx⟩
            rw [wayI_one (HFk.out.trans HDk.out)]; rw [if_pos rfl]
            have HBw7 := Lib.hid (HBw6.out.trans (hbx.mono HBw6.out.size)); have HQw7 := Lib.hid (HBc.out.trans (HBw7.out.mono HBc.out.size)); clear hbx
            go_wp2_with fail
            go_roundw
            case rel => exact ⟨k + 1, by have := hlt; have := hlt'; omega, by go_num, HBw7.out⟩
            case measure => (simp [intOf]; try omega)
          · obtain rfl : k = 0 := by omega
            have HDk : Hid (derB l A 0 0 an = true) := HDk
            have HFk : Hid (derB l (A ++ [sg l lv] ++ B) 0 0 an = derB l A 0 0 an) := HFk
            clear HWk
            go_wp2_with fail
            refine (HWa.out _ HBw.out _).mono ?_
            rintro e w4 ⟨rfl, hbx⟩
            rw [wayI_one HDk.out]; rw [if_pos rfl]
            have HBw4 := Lib.hid (HBr.out.trans (hbx.mono HBr.out.size)); have HQw4 := Lib.hid (HBc.out.trans (HBw4.out.mono HBc.out.size)); clear hbx
            go_wp2_with fail
            refine (HDa.out _ HQw4.out _).mono ?_
            rintro e w5 ⟨rfl, hbx⟩
            rw [HDk.out]
            have HBw5 := Lib.hid (HBw4.out.trans (hbx.mono HBw4.out.size)); have HQw5 := Lib.hid (HBc.out.trans (HBw5.out.mono HBc.out.size)); clear hbx
            go_wp2_with fail
            refine (HWj.out _ HQw5.out jo N jc (HJ.out _ HBw5.out) _ _).mono ?_
            rintro e w7 ⟨rfl, hbx⟩
            rw [wayI_one (HFk.out.trans HDk.out)]; rw [if_pos rfl]
            have HBw7 := Lib.hid (HBw5.out.trans (hbx.mono HBw5.out.size)); have HQw7 := Lib.hid (HBc.out.trans (HBw7.out.mono HBc.out.size)); clear hbx
            go_wp2_with fail
            go_roundw
            case rel => exact ⟨1, by omega, by rfl, HBw7.out⟩
            case measure => (simp [intOf]; try omega)
      · have hge : (ln : Int) < k := by omega
        obtain ⟨la', hla', r0, r1⟩ := HLo.out _ HBw.out
        cases hla'
        have hlf : rg l lv = true ∧ lf l lv = lv + 1 ∧ bh l lv = lv ∨ rg l lv = false ∧ lf l lv = lv ∧ bh l lv = lv + 1 := by
          unfold lf bh; cases rg l lv <;> simp
        have hdj := fun (h1 : derB l A (lf l lv) 0 an = true) (h2 : derB l B (bh l lv) 0 bn = true) => der_both HL.out (a := A) (b := B) (j := lv) (by have := HLen.out; omega) (by rw [HAn.out]; exact h1) (by rw [HBn.out]; exact h2)
        rw [HN.out.symm, HAn.out] at hdj
        have e3 : la.add (lv * 2 + 1) = ⟨(la.add (lv * 2)).block, (la.add (lv * 2)).off + 1, none⟩ := by rw [← add_add]; rfl
        rw [e3] at r1
        clear r0 e3
        rcases hlf with ⟨e1, e2, e3⟩ | ⟨e1, e2, e3⟩
        · rw [e2, e3] at hdj
          rw [e1] at r1
          simp only [Int.natCast_add, Int.cast_ofNat_Int] at hdj
          have HDJ := Lib.hid hdj
          clear hdj e1 e2 e3
          cases hx : derB l A ((lv : Int) + 1) 0 an
          · have HX := Lib.hid hx; clear hx
            go_wp2_with fail
            refine (HDa.out _ HBw.out _).mono ?_
            rintro e w4 ⟨rfl, hbx⟩
            rw [HX.out]
            have HB4 := Lib.hid (HBw.out.trans (hbx.mono HBw.out.size)); clear hbx
            go_wp2_with fail
            go_ret
            exact ⟨rfl, HB4.out⟩
          · have HX := Lib.hid hx; clear hx
            cases hy : derB l B (lv) 0 bn
            · have HY := Lib.hid hy; clear hy
              go_wp2_with fail
              refine (HDa.out _ HBw.out _).mono ?_
              rintro e w4 ⟨rfl, hbx⟩
              rw [HX.out]
              have HB4 := Lib.hid (HBw.out.trans (hbx.mono HBw.out.size)); clear hbx
              go_wp2_with fail
              refine (HDb.out _ HB4.out _).mono ?_
              rintro e w5 ⟨rfl, hbx⟩
              rw [HY.out]
              have HB5 := Lib.hid (HB4.out.trans (hbx.mono HB4.out.size)); clear hbx
              go_wp2_with fail
              go_ret
              exact ⟨rfl, HB5.out⟩
            · have HZ := Lib.hid (HDJ.out HX.out hy)
              have HY := Lib.hid hy; clear hy HDJ
              go_wp2_with fail
              refine (HDa.out _ HBw.out _).mono ?_
              rintro e w4 ⟨rfl, hbx⟩
              rw [HX.out]
              have HB4 := Lib.hid (HBr.out.trans (hbx.mono HBr.out.size)); have HQ4 := Lib.hid (HBc.out.trans (HB4.out.mono HBc.out.size)); clear hbx
              go_wp2_with fail
              refine (HDb.out _ HQ4.out _).mono ?_
              rintro e w5 ⟨rfl, hbx⟩
              rw [HY.out]
              have HB5 := Lib.hid (HB4.out.trans (hbx.mono HB4.out.size)); have HQ5 := Lib.hid (HBc.out.trans (HB5.out.mono HBc.out.size)); clear hbx
              go_wp2_with fail
              refine (HWj.out _ HQ5.out jo N jc (HJ.out _ HB5.out) _ _).mono ?_
              rintro e w6 ⟨rfl, hbx⟩
              rw [wayI_one HZ.out.1, if_pos rfl]
              have HB6 := Lib.hid (HB5.out.trans (hbx.mono HB5.out.size)); have HQ6 := Lib.hid (HBc.out.trans (HB6.out.mono HBc.out.size)); clear hbx
              go_wp2_with fail
              refine (HDj.out _ HQ6.out jo N jc (HJ.out _ HB6.out) _ _ _).mono ?_
              rintro e w7 ⟨rfl, hbx⟩
              rw [HZ.out.2]
              have HB7 := Lib.hid (HQ6.out.trans (hbx.mono HQ6.out.size)); clear hbx
              go_wp2_with fail
              go_ret
              exact ⟨rfl, HB7.out⟩
        · rw [e2, e3] at hdj
          rw [e1] at r1
          simp only [Int.natCast_add, Int.cast_ofNat_Int] at hdj
          have HDJ := Lib.hid hdj
          clear hdj e1 e2 e3
          cases hx : derB l A (lv) 0 an
          · have HX := Lib.hid hx; clear hx
            go_wp2_with fail
            refine (HDa.out _ HBw.out _).mono ?_
            rintro e w4 ⟨rfl, hbx⟩
            rw [HX.out]
            have HB4 := Lib.hid (HBw.out.trans (hbx.mono HBw.out.size)); clear hbx
            go_wp2_with fail
            go_ret
            exact ⟨rfl, HB4.out⟩
          · have HX := Lib.hid hx; clear hx
            cases hy : derB l B ((lv : Int) + 1) 0 bn
            · have HY := Lib.hid hy; clear hy
              go_wp2_with fail
              refine (HDa.out _ HBw.out _).mono ?_
              rintro e w4 ⟨rfl, hbx⟩
              rw [HX.out]
              have HB4 := Lib.hid (HBw.out.trans (hbx.mono HBw.out.size)); clear hbx
              go_wp2_with fail
              refine (HDb.out _ HB4.out _).mono ?_
              rintro e w5 ⟨rfl, hbx⟩
              rw [HY.out]
              have HB5 := Lib.hid (HB4.out.trans (hbx.mono HB4.out.size)); clear hbx
              go_wp2_with fail
              go_ret
              exact ⟨rfl, HB5.out⟩
            · have HZ := Lib.hid (HDJ.out HX.out hy)
              have HY := Lib.hid hy; clear hy HDJ
              go_wp2_with fail
              refine (HDa.out _ HBw.out _).mono ?_
              rintro e w4 ⟨rfl, hbx⟩
              rw [HX.out]
              have HB4 := Lib.hid (HBr.out.trans (hbx.mono HBr.out.size)); have HQ4 := Lib.hid (HBc.out.trans (HB4.out.mono HBc.out.size)); clear hbx
              go_wp2_with fail
              refine (HDb.out _ HQ4.out _).mono ?_
              rintro e w5 ⟨rfl, hbx⟩
              rw [HY.out]
              have HB5 := Lib.hid (HB4.out.trans (hbx.mono HB4.out.size)); have HQ5 := Lib.hid (HBc.out.trans (HB5.out.mono HBc.out.size)); clear hbx
              go_wp2_with fail
              refine (HWj.out _ HQ5.out jo N jc (HJ.out _ HB5.out) _ _).mono ?_
              rintro e w6 ⟨rfl, hbx⟩
              rw [wayI_one HZ.out.1, if_pos rfl]
              have HB6 := Lib.hid (HB5.out.trans (hbx.mono HB5.out.size)); have HQ6 := Lib.hid (HBc.out.trans (HB6.out.mono HBc.out.size)); clear hbx
              go_wp2_with fail
              refine (HDj.out _ HQ6.out jo N jc (HJ.out _ HB6.out) _ _ _).mono ?_
              rintro e w7 ⟨rfl, hbx⟩
              rw [HZ.out.2]
              have HB7 := Lib.hid (HQ6.out.trans (hbx.mono HQ6.out.size)); clear hbx
              go_wp2_with fail
              go_ret
              exact ⟨rfl, HB7.out⟩
end Go.Proofs.Ytmpccinbeepbgaa
