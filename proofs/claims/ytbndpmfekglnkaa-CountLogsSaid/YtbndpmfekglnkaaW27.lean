/- Walk: CountLogs. -/
import Derived.Test.YtbndpmfekglnkaaW26
import Derived.Deep.DeepCutAuto
namespace Go.Proofs.Ytbndpmfekglnkaa
open Go.RowKit

set_option maxRecDepth 100000 in
set_option maxHeartbeats 4000000 in
theorem logs_any (ao : Option Addr) (cap n : Nat) (copies : Int) (L : List (List Int)) (w : World) (hn : n = L.length) (hR : RowsAt w ao cap L) :
    Calls Try.prog 7 #[.slice ao n cap, .int .i64 copies] w fun r w' => r = .returned (.bool true) ∧ Below w.heap.size w w' := by
  subst hn
  obtain ⟨h1, h2, h3, h4⟩ := hR
  have HR := Lib.hid (RowsAt.mk h1 h2 h3 h4)
  clear h3 h4
  have HS := Lib.hid (sumL_snoc L)
  have HM := Lib.hid (sumL_mono L)
  go_enter Try.func7, Try.ntmps7
  go_wp2_with fail
  go_loop [5, 6] (fun s i => ∃ k : Nat, k ≤ L.length ∧ i = .int .i64 k ∧ s = .int .i64 (sumL (L.take k)) ∧ sumL (L.take k) ≤ 1000000000000000) (fun _ i => L.length - (intOf i).toNat)
  case atStart => exact ⟨0, by omega, rfl, rfl, by simp [sumL]⟩
  case round =>
    obtain ⟨k, hk, rfl, rfl, hs⟩ := hrel
    by_cases hlt : k < L.length
    · by_cases h150 : sumL (L.take k) ≤ 150
      · obtain ⟨a, x, c, rfl, hc, hsl, hb⟩ := HR.out.row k hlt
        obtain ⟨hc1, hc2⟩ := hsl.bound
        have hsn := HS.out k hlt
        clear hsl
        generalize (L.getD k []).length = rl at *
        have HSn := Lib.hid hsn; clear hsn
        generalize sumL (L.take k) = s at *
        have hd : decide (s ≤ 150) = true := by simp; omega
        go_wp2
        go_round
        case rel => exact ⟨k + 1, by omega, by go_num, by rw [HSn.out]; go_num, by rw [HSn.out]; omega⟩
        case measure => simp [intOf]; omega
      · generalize sumL (L.take k) = s at *
        have hd : decide (s ≤ 150) = false := by simp; omega
        have hd2 : decide (150 < s) = true := by simp; omega
        go_wp2_with (go_at_call 9; refine (awake_any _).mono ?_; rintro e w' ⟨rfl, hb⟩)
        go_ret
        exact ⟨rfl, by assumption⟩
    · have hke : k = L.length := by omega
      subst hke
      have hsum : sumL (L.take L.length) = sumL L := by rw [List.take_length]
      rw [hsum] at hs ⊢
      by_cases hsm : sumL L ≤ 150 ∧ L.length ≤ 30
      · obtain ⟨hs1, hs2⟩ := hsm
        clear hsum hs hk hlt
        have HSum := Lib.hid hs1
        generalize hgs : sumL L = s at *
        have HG := Lib.hid hgs; clear hgs
        have hd2 : decide (150 < s) = false := by simp; omega
        go_wp2_with (go_at_call 16; refine (new_any _).mono ?_; rintro e w2 ⟨rfl, rfl⟩)
        have HL0 := Lib.hid (LI.start w)
        revert HL0
        generalize w.alloc (.cells (Mt.zero.cells (.slice none 0 0) (.bool true) (.slice none 0 0)) 55) = wn
        intro HL0
        go_loopw [7, 8, 9] (fun gp lv i wr => ∃ (k p : Nat) (m : Mt) (tr : List Int), k ≤ L.length ∧ i = .int .i64 k ∧ gp = .pointer (some ⟨p, 0, none⟩) ∧ Hid (Whole tr m ∧ tr.length ≤ sumL (L.take k) ∧ LI w wr p m tr lv tr NoG)) (fun _ _ i _ => L.length - (intOf i).toNat)
        case atStart => exact ⟨0, _, Mt.zero, [], by omega, rfl, rfl, Whole.nil, by simp, HL0.out⟩
        case round =>
          obtain ⟨k, p, m, tr, hk, rfl, rfl, hI⟩ := hrel
          have HWh := Lib.hid hI.out.1
          have HTl := Lib.hid hI.out.2.1
          have HLI := Lib.hid hI.out.2.2
          clear hI HL0
          obtain ⟨wo, rfl⟩ : ∃ wo : World, wo = wr := ⟨_, rfl⟩
          by_cases hlt : k < L.length
          · obtain ⟨a, x, c, rfl, hc, hsl, hb⟩ := HR.out.row k hlt
            obtain ⟨hc1, hc2⟩ := hsl.bound
            have hrl : (L.getD k []).length + sumL (L.take k) ≤ 150 := by
              have h1 := HS.out k hlt
              have h2 := HM.out (k + 1) L.length hlt
              rw [List.take_length] at h2
              have := HSum.out; have := HG.out
              omega
            have HSn := Lib.hid (HS.out k hlt)
            generalize L.getD k [] = r at *
            have hr150 : r.length ≤ 150 := by omega
            have htr : tr.length + r.length ≤ 150 := by have := HTl.out; omega
            have HRl := Lib.hid hrl; have HSl := Lib.hid hsl; have HC := Lib.hid hc
            clear hrl hsl hc
            have hco : wo.cell? (a.add k) = some (.slice x r.length c) := (HLI.out.below.cell (World.block_lt_of_cell? w _ HC.out)).trans HC.out
            go_upto_if 54 with (fail)
            go_cut [7] (fun gp w' => ∃ p' : Nat, gp = .pointer (some ⟨p', 0, none⟩) ∧ Hid (LI w w' p' m tr u8 tr NoG))
            case first =>
              by_cases hcp : (k : Int) = copies
              · have hq : ((k : Int) == copies) = true := by simp [hcp]
                have HCp := Lib.hid hcp
                clear hcp
                have HOp := Lib.hid (HWh.out.ok)
                have hol := HOp.out.o
                go_wp2_with fail
                refine (HLI.out.copy (by omega) (by omega)).mono ?_
                rintro e w2 ⟨rfl, hl2, hm2, hs2⟩
                have HL2 := Lib.hid hl2; have HM2 := Lib.hid hm2; have HS2 := Lib.hid hs2
                clear hl2 hm2 hs2
                have hco2 : w2.cell? (a.add k) = some (.slice x r.length c) := (HL2.out.below.cell (World.block_lt_of_cell? w _ HC.out)).trans HC.out
                go_wp2_with fail
                refine (HL2.out.add (fun k hk => hk.2) _ HOp.out x c r.length r rfl (HSl.out.below HL2.out.below) (HSl.out.apart (fun k hk => hk.1)) (by omega) (by omega)).mono ?_
                rintro e w3 ⟨rfl, hl3, hf3⟩
                have HL3 := Lib.hid hl3; have HF3 := Lib.hid hf3
                clear hl3 hf3
                have HM3 := Lib.hid (HM2.out.fr HF3.out (fun h => h.2 ⟨Nat.le_refl _, HS2.out⟩) (fun k h1 h2 h => h.2 ⟨by omega, h2⟩))
                have HS3 := Lib.hid HF3.out.size
                clear HM2 HF3
                obtain ⟨m3, tr3, hL3, hOk3, hTr3⟩ : ∃ m3 tr3, Hid (LI w w3 p m3 tr3 u8 tr fun k => wo.heap.size ≤ k ∧ k < w2.heap.size) ∧ Hid (m3.ok 1000) ∧ Hid (tr3.length ≤ 1000) :=
                  ⟨_, _, HL3.out, (addM_ok' r m _ 0 HOp.out).mono (by omega), by unfold Hid; simp; omega⟩
                clear HL3
                generalize addM m r 0 = R at *
                go_wp2_with fail
                have HL4 := Lib.hid ((hL3.out.avoid (fun k => k = w3.heap.size) (fun k hk => by omega)).later ((Below.refl _ _).alloc (Nat.le_refl _) (.cells #[.int .i64 1, .int .i64 2] 36)))
                refine (HL4.out.add (by rintro k (hk | hk) <;> (have := HS3.out; simp; omega)) _ hOk3.out (some ⟨w3.heap.size, 0, none⟩) 2 2 [1, 2] rfl (Sl.lit w3 36 [1, 2] (by simp)) (by intro _ a ha hF; cases ha; exact hF.2.1 (.inr rfl)) (by simp) (by have := hTr3.out; simp; omega)).mono ?_
                rintro e w4 ⟨rfl, hl5, hf5⟩
                have HL5 := Lib.hid hl5
                have HM5 := Lib.hid ((HM3.out.later ((Below.refl _ _).alloc (Nat.le_refl _) (.cells #[.int .i64 1, .int .i64 2] 36))).fr hf5 (fun h => h.2 (.inl ⟨Nat.le_refl _, HS2.out⟩)) (fun k h1 h2 h => h.2 (.inl ⟨by omega, h2⟩)))
                clear hl5 hf5 HL4 HM3 hL3
                generalize addM m3 [1, 2] 0 = R3 at *
                go_wp2_with fail
                go_meet
                case rel => exact ⟨_, rfl, (HL5.out.weak (fun k => wo.heap.size ≤ k ∧ k < w2.heap.size) (fun k h => .inl h)).moved HM5.out HLI.out.below.size HS2.out⟩
              · have hq : ((k : Int) == copies) = false := by simp [hcp]
                clear hcp
                go_wp2_with fail
                go_meet
                case rel => exact ⟨_, rfl, HLI.out⟩
            case rest =>
              obtain ⟨p1, rfl, hL1⟩ := hcut
              clear HLI hco
              obtain ⟨al, cl, rfl, _⟩ := hL1.out.sl
              have hco : wc.cell? (a.add k) = some (.slice x r.length c) := (hL1.out.below.cell (World.block_lt_of_cell? w _ HC.out)).trans HC.out
              have HOp := Lib.hid (HWh.out.ok)
              have HWs := Lib.hid (HWh.out.step r)
              have HPt := Lib.hid (HWh.out.put r)
              have HFs := Lib.hid (addM_fst r m 0)
              go_wp2_with fail
              refine (lent_any x c r wc (HSl.out.below hL1.out.below) (by omega)).mono ?_
              rintro e w2 ⟨rfl, hle, hb2⟩
              have HLe := Lib.hid hle
              have HL2 := Lib.hid (((hL1.out.avoid (fun k => k = wc.heap.size) (fun k hk => by omega)).weak (fun k => k = wc.heap.size) (fun k hk => .inr hk)).later hb2)
              have hg1 : w.heap.size ≤ wc.heap.size := hL1.out.below.size
              have HG1 := Lib.hid hg1
              clear hle hb2 hL1 hco hg1
              generalize wc.heap.size = g1 at *
              have HAd := Lib.hid (HL2.out.add (fun k hk => by rw [hk]; exact lt_of_block HLe.out.blk) _ HOp.out (some ⟨g1, 0, none⟩) (r.length + 12) r.length r rfl (HLe.out.sl (by omega)) (by intro _ a ha hF; cases ha; exact hF.2.1 rfl) (by omega) (by omega))
              clear HOp
              generalize addM m r 0 = R at *
              obtain ⟨kk, e, m'⟩ := R
              simp only [] at HWs HPt HFs HAd
              go_wp2_with fail
              refine (HAd.out).mono ?_
              rintro e1 w3 ⟨rfl, hl3, hf3⟩
              have HL3 := Lib.hid hl3
              have HLe3 := Lib.hid (LentAt.mk ((hf3.block g1 (lt_of_block HLe.out.blk) (fun h => h.2 rfl)).trans HLe.out.blk))
              have hco : w3.cell? (a.add k) = some (.slice x r.length c) := (HL3.out.below.cell (World.block_lt_of_cell? w _ HC.out)).trans HC.out
              clear hl3 hf3 HAd HL2 HLe
              go_wp2_with fail
              obtain ⟨al', cl', hal, hsl3⟩ := HL3.out.sl
              simp only [Value.slice.injEq, true_and] at hal
              obtain ⟨rfl, rfl⟩ := hal
              refine (put_any al x cl c tr r w3 hsl3 (HSl.out.below HL3.out.below) (by omega)).mono ?_
              rintro e1 w4 ⟨rfl, hb4⟩
              rw [HPt.out.1, HPt.out.2]
              have HL4 := Lib.hid (HL3.out.later hb4)
              have HLe4 := Lib.hid (HLe3.out.later hb4)
              have hco4 : w4.cell? (a.add k) = some (.slice x r.length c) := (HL4.out.below.cell (World.block_lt_of_cell? w _ HC.out)).trans HC.out
              clear hsl3 hb4 HL3 HLe3 hco
              go_wp2_with fail
              refine (kept_any g1 x c r w4 HLe4.out (HSl.out.below HL4.out.below) (by omega)).mono ?_
              rintro e1 w5 ⟨rfl, hb5⟩
              have HL5 := Lib.hid (HL4.out.later hb5)
              have HLe5 := Lib.hid (HLe4.out.later hb5)
              clear hb5 HL4 HLe4 hco4
              go_wp2_with fail
              refine (over_any g1 r.length _ w5 HLe5.out.blk (by simp [marks_len]) (by omega)).mono ?_
              rintro e1 w6 ⟨rfl, hf6⟩
              have HL6 := Lib.hid ((HL5.out.over hf6 (fun k hk => by rw [hk]; exact HG1.out)).weak NoG (fun k hk => hk.elim))
              have hco6 : w6.cell? (a.add k) = some (.slice x r.length c) := (HL6.out.below.cell (World.block_lt_of_cell? w _ HC.out)).trans HC.out
              clear hf6 HL5 HLe5
              have hkk : kk ≤ r.length := by have := HFs.out; omega
              obtain ⟨ov6, tv6, _, ho6, _⟩ := HL6.out
              have HO6 := Lib.hid ho6
              have HB6 := Lib.hid HL6.out.below.size
              have HKl := Lib.hid (show kk = (r.take kk).length by simp; omega)
              have HSr := Lib.hid ((HSl.out.below HL6.out.below).take kk)
              have HBg := Lib.hid (show tr.length + (r.take kk).length ≤ 1000000000 by simp; omega)
              clear ho6
              go_upto_region 25 with (at_builtin; refine wpList_apps_at w6 rfl _ _ 22 36 rfl Try.ie22 w.heap.size _ tr.length tr rfl rfl HO6.out HB6.out x c kk (r.take kk) HKl.out rfl HSr.out HBg.out ?_; intro v7 w7 ho7 hg7 hk7; obtain ⟨a7, c7, rfl⟩ := owns_form ho7; have HL7 := Lib.hid (HL6.out.app ho7 hg7 hk7); clear ho7 hg7 hk7)
              have hlen : (tr ++ r.take kk).length ≤ sumL (L.take (k + 1)) := by have := HTl.out; rw [HSn.out]; simp; omega
              have hl150 : (tr ++ r.take kk).length ≤ 150 := by simp; omega
              have HLen := Lib.hid hlen
              clear HO6 HB6 HKl HSr HBg HL6 hco6 HFs HPt hlen
              have hnt : (tr ++ r.take kk).length = tr.length + kk := by simp; omega
              generalize tr ++ r.take kk = tn at *
              generalize tr.length + kk = nt at *
              rw [hnt] at hl150 HL7
              have HOf := Lib.hid (fun w h => hnt ▸ HWs.out.of ▸ of_any a7 c7 tn w h (by omega))
              have HTr := Lib.hid (fun w' h => hnt ▸ LI.trace (w := w) (wr := w') (p := p1) (m := m') (tr := tn) (lv := .slice a7 nt c7) (tl := tn) (G := NoG) h (by omega))
              have HCt := Lib.hid (fun w' G h => LI.counts (w := w) (wr := w') (p := p1) (m := m') (tr := tn) (lv := .slice a7 nt c7) (tl := tn) (G := G) h _ HWs.out.ok (by omega))
              have HSm := Lib.hid (fun ao ca w (h1 : Sl w ao ca tn) (h2 : Sl w a7 c7 tn) => same_any ao a7 nt ca c7 tn w hnt.symm h1 h2)
              have HSl7 : Hid (∀ w' G, LI w w' p1 m' tn (.slice a7 nt c7) tn G → Sl w' a7 c7 tn) := fun w' G h => by
                obtain ⟨a, c, he, hs⟩ := h.sl
                simp only [Value.slice.injEq] at he
                obtain ⟨rfl, _, rfl⟩ := he
                exact hs
              have HNt := Lib.hid hnt
              clear hnt
              generalize m'.cn = d at *
              simp only [] at HOf
              go_wp2_with fail
              refine (HOf.out w7 (HSl7.out _ _ HL7.out)).mono ?_
              rintro e1 w8 ⟨rfl, hb8⟩
              simp only [Cn.vals]
              have HL9 := Lib.hid ((HL7.out.later hb8).later ((Below.refl _ _).alloc (Nat.le_refl _) (.cells #[.int .i64 d.calls, .int .i64 d.bodies, .int .i64 d.grows, .int .i64 d.seeds, .int .i64 d.hits, .int .i64 d.puts, .int .i64 d.drops, .int .i64 d.ends, .int .i64 d.live, .int .i64 d.peak, .int .i64 d.opn, .int .i64 d.deep, .int .i64 d.most] 30)))
              have HD9 := Lib.hid (show hrow (w8.alloc (.cells #[.int .i64 d.calls, .int .i64 d.bodies, .int .i64 d.grows, .int .i64 d.seeds, .int .i64 d.hits, .int .i64 d.puts, .int .i64 d.drops, .int .i64 d.ends, .int .i64 d.live, .int .i64 d.peak, .int .i64 d.opn, .int .i64 d.deep, .int .i64 d.most] 30)) w8.heap.size _ _ from heap_alloc_new w8 (.cells #[.int .i64 d.calls, .int .i64 d.bodies, .int .i64 d.grows, .int .i64 d.seeds, .int .i64 d.hits, .int .i64 d.puts, .int .i64 d.drops, .int .i64 d.ends, .int .i64 d.live, .int .i64 d.peak, .int .i64 d.opn, .int .i64 d.deep, .int .i64 d.most] 30))
              clear hb8 HL7 HOf
              go_upto_region 26 with (fail)
              revert HL9 HD9
              generalize w8.heap.size = gd
              generalize w8.alloc (.cells #[.int .i64 d.calls, .int .i64 d.bodies, .int .i64 d.grows, .int .i64 d.seeds, .int .i64 d.hits, .int .i64 d.puts, .int .i64 d.drops, .int .i64 d.ends, .int .i64 d.live, .int .i64 d.peak, .int .i64 d.opn, .int .i64 d.deep, .int .i64 d.most] 30) = w9
              intro HL9 HD9
              go_wp2_with fail
              refine (HTr.out w9 HL9.out).mono ?_
              rintro e1 w10 ⟨au, cu, rfl, hO⟩
              have HO := Lib.hid hO
              have HB9 := Lib.hid HL9.out.below.size
              have HL10 := Lib.hid (((HL9.out.avoid (fun k => (Value.slice au nt cu).ownBlock = some k) (fun k hk => (hO.1.lt k hk).1)).weak (fun k => (Value.slice au nt cu).ownBlock = some k) (fun k hk => .inr hk)).later hO.2)
              have hsu : Sl w10 au cu tn := by
                obtain ⟨a, c, he, hs⟩ := hO.sl
                simp only [Value.slice.injEq] at he
                obtain ⟨rfl, _, rfl⟩ := he
                exact hs
              have HSu := Lib.hid hsu
              have HD10 := Lib.hid (HD9.out.later hO.2)
              clear hO hsu HL9 HD9 HTr
              have hcd : ∀ (x : Later w10) o, x.val.cell? ⟨gd, o, none⟩ = _ := fun x o => (HD10.out.later x.ok).cell o
              have HSx : Hid (∀ x : Later w10, Calls Try.prog 23 #[.slice au nt cu, .slice a7 nt c7] x.val fun r w' => r = .returned (.bool true) ∧ Below x.val.heap.size x.val w') := fun x => HSm.out au cu x.val (HSu.out.below x.ok) (HSl7.out _ _ (HL10.out.later x.ok))
              have HCx : Hid (∀ x : Later w10, Calls Try.prog 18 #[.pointer (some ⟨p1, 0, none⟩)] x.val fun r w' => r = .returned (.agg #[.int .i64 d.calls, .int .i64 d.bodies, .int .i64 d.grows, .int .i64 d.seeds, .int .i64 d.hits, .int .i64 d.puts, .int .i64 d.drops, .int .i64 d.ends, .int .i64 d.live, .int .i64 d.peak, .int .i64 d.opn, .int .i64 d.deep, .int .i64 d.most]) ∧ Below x.val.heap.size x.val w') := fun x => HCt.out x.val _ (HL10.out.later x.ok)
              have HVx : Hid (∀ x : Later w10, Calls Try.prog 13 #[.agg #[.int .i64 d.calls, .int .i64 d.bodies, .int .i64 d.grows, .int .i64 d.seeds, .int .i64 d.hits, .int .i64 d.puts, .int .i64 d.drops, .int .i64 d.ends, .int .i64 d.live, .int .i64 d.peak, .int .i64 d.opn, .int .i64 d.deep, .int .i64 d.most]] x.val fun r w' => r = .returned (.agg #[.int .i64 d.calls, .int .i64 d.bodies, .int .i64 d.grows, .int .i64 d.seeds, .int .i64 d.hits, .int .i64 d.puts, .int .i64 d.drops, .int .i64 d.ends, .int .i64 d.live, .int .i64 d.peak, .int .i64 d.opn, .int .i64 d.deep, .int .i64 d.most]) ∧ Below x.val.heap.size x.val w') := fun x => conv_any d x.val
              go_upto_region 27 with (fail)
              refine wp_region_later (by kernel_rfl) (by kernel_rfl) ?_
              repeat (go_big_quiet_step (first
                | (go_at_call 23; exact Calls.later (HSx.out _))
                | (go_at_call 18; exact Calls.later (HCx.out _))
                | (go_at_call 13; exact Calls.later (HVx.out _))))
              refine wpQuiet_nil ?_
              intro w5 hw5
              obtain ⟨x11, rfl⟩ := hw5
              have HL11 := Lib.hid (HL10.out.later x11.ok)
              have HO11 := Lib.hid (owns_fr HO.out.1 (F := fun _ => False) (Fr.of_below x11.ok) (fun _ _ h => h))
              clear hcd HSx HCx HVx HSm HCt HSl7 HL10 HO HSu HD10
              generalize x11.val = w11 at *
              clear x11
              generalize w9.heap.size = B9 at *
              go_wp2_with fail
              rw [HNt.out] at HO11
              go_loopw [19] (fun i wr => ∃ j : Nat, j ≤ nt ∧ i = .int .i64 j ∧ Hid (∃ xs, wr.ownsRow B9 36 1 (.slice au nt cu) nt xs ∧ LI w wr p1 m' tn (.slice a7 nt c7) tn (fun k => (Value.slice au nt cu).ownBlock = some k))) (fun i _ => nt - (intOf i).toNat)
              case atStart => exact ⟨0, by omega, rfl, _, HO11.out, HL11.out⟩
              case round =>
                obtain ⟨j, hj, rfl, hI⟩ := hrel
                obtain ⟨xs, hxo, hxl⟩ := hI.out
                have HXo := Lib.hid hxo; have HXl := Lib.hid hxl
                clear hI hxo hxl HL11 HO11
                by_cases hjl : j < nt
                · obtain ⟨gu, cap', hv, hcp, _⟩ := World.ownsRow.form HXo.out (by omega)
                  simp only [Value.slice.injEq, true_and] at hv
                  obtain ⟨rfl, rfl⟩ := hv
                  have hxs : xs.length = nt * 1 := HXo.out.1
                  have hcj : wr.cell? ⟨gu, j, none⟩ = some (xs[j]'(by omega)) := by rw [HXo.out.cellAt j (by omega), List.getElem?_eq_getElem]
                  have hfj : wr.frozen? ⟨gu, j, none⟩ = false := HXo.out.frozenAt j
                  have hcu : nt ≤ cu ∧ cu ≤ 9223372036854775807 := by
                    rcases HXo.out.2 with ⟨h, _⟩ | ⟨g', c', cur, h, _, _, h4, h5, _⟩
                    · cases h
                    · simp only [Value.slice.injEq] at h; unfold maxLen at h5; obtain ⟨_, _, rfl⟩ := h; omega
                  generalize xs[j]'_ = old at *
                  have hnt63 : nt ≤ 9223372036854775807 := by omega
                  have HXs := Lib.hid hxs; clear hxs
                  go_wp2_with fail
                  go_roundw
                  case rel =>
                    refine ⟨j + 1, by omega, by go_num, _, (HXo.out.stored j (.int .i64 99)).1, HXl.out.over ((Fr.refl _ wr).trans (Fr.setCell wr ⟨gu, j, none⟩ (.int .i64 99)) (fun i _ hi => by rw [hi]; rfl)) (fun k hk => ?_)⟩
                    have := (HXo.out.lt k hk).1; have := HB9.out; omega
                  case measure => simp [intOf]; omega
                · have hjn : j = nt := by omega
                  subst hjn
                  have hkb : (k : Int) ≤ 100 := by omega
                  go_wp2_with fail
                  go_roundw
                  case rel => exact ⟨k + 1, p1, m', tn, by omega, by go_num, rfl, HWs.out, HLen.out, HXl.out.weak NoG (fun k hk => hk.elim)⟩
                  case measure => simp [intOf]; omega
          · have hke : k = L.length := by omega
            subst hke
            go_wp2_with (go_at_call 9; refine (awake_any _).mono ?_; rintro e w1 ⟨rfl, hb1⟩; have HB1 := Lib.hid hb1; clear hb1)
            go_ret
            exact ⟨rfl, HLI.out.below.trans (HB1.out.mono HLI.out.below.size)⟩
      · generalize sumL L = s at *
        by_cases h150 : s ≤ 150
        · have h30 : 30 < L.length := by omega
          have hd2 : decide (150 < s) = false := by simp; omega
          go_wp2_with (go_at_call 9; refine (awake_any _).mono ?_; rintro e w' ⟨rfl, hb⟩)
          go_ret
          exact ⟨rfl, by assumption⟩
        · have hd2 : decide (150 < s) = true := by simp; omega
          go_wp2_with (go_at_call 9; refine (awake_any _).mono ?_; rintro e w' ⟨rfl, hb⟩)
          go_ret
          exact ⟨rfl, by assumption⟩
end Go.Proofs.Ytbndpmfekglnkaa
