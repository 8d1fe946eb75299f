/- Walk: CountSmall. -/
import Derived.Test.YtbndpmfekglnkaaW22
namespace Go.Proofs.Ytbndpmfekglnkaa
open Go.RowKit

theorem tells_any (ao : Option Addr) (cap n : Nat) (zs : List Int) (w : World) (hn : n = zs.length) (hs : Sl w ao cap zs) :
    Calls Try.prog 3 #[.slice ao n cap] w fun r w' => r = .returned (.bool true) ∧ Below w.heap.size w w' := by
  subst hn
  by_cases h : zs.length ≤ 150
  · exact tells_short ao cap zs w hs h (ofM_eq_ofR zs)
  · exact tells_long ao cap zs w hs (by omega)

theorem Sl.sub {w : World} {g cap : Nat} {zs : List Int} (h : Sl w (some ⟨g, 0, none⟩) cap zs) (i n : Nat) (hi : i + n ≤ zs.length) : Sl w (some ⟨g, i, none⟩) (cap - i) ((zs.drop i).take n) := by
  have h1 := h.1
  have h2 := h.2.1
  refine ⟨?_, by omega, (fun h => nomatch h), fun j hj => ⟨_, rfl, ?_⟩⟩
  · rw [List.length_take, List.length_drop]; omega
  · rw [List.length_take, List.length_drop] at hj
    obtain ⟨a, ha, hc⟩ := h.2.2.2 (i + j) (by omega)
    cases ha
    have e1 : (⟨g, i, none⟩ : Addr).add j = ⟨g, i + j, none⟩ := by unfold Addr.add; split <;> simp_all
    have e2 : (⟨g, 0, none⟩ : Addr).add (i + j) = ⟨g, i + j, none⟩ := by unfold Addr.add; split <;> simp_all
    rw [e1, ← e2, hc]
    simp [List.getD_eq_getElem?_getD, show j < n by omega]

/-- What is known of a world that grew out of w0. -/
def hrow (w : World) (g : Nat) (cs : Array Value) (t : TypeId) : Prop := w.heap[g]? = some (.cells cs t (0, 0))
theorem hrow.later {w w' : World} {g : Nat} {cs : Array Value} {t : TypeId} (h : hrow w g cs t) (hb : Below w.heap.size w w') : hrow w' g cs t := (hb.block _ (lt_of_block h)).trans h
theorem hrow.cell {w : World} {g : Nat} {cs : Array Value} {t : TypeId} (h : hrow w g cs t) (o : Nat) : w.cell? ⟨g, o, none⟩ = cs[o]? := cell_of_row _ g o _ _ _ h

set_option maxRecDepth 100000 in
set_option maxHeartbeats 4000000 in
theorem small_any (w : World) : Calls Try.prog 8 #[] w fun r w' => r = .returned (.bool true) ∧ Below w.heap.size w w' := by
  obtain ⟨N, hN⟩ : ∃ N : Nat, N = 32768 := ⟨_, rfl⟩
  have HN := Lib.hid hN
  clear hN
  go_enter Try.func8, Try.ntmps8
  go_wp2_with fail
  go_loopw [1] (fun i wr => ∃ k : Nat, k ≤ N ∧ i = .int .i64 k ∧ Hid (Below w.heap.size w wr)) (fun i _ => N - (intOf i).toNat)
  case atStart => exact ⟨0, by omega, rfl, Below.refl _ _⟩
  case round =>
    obtain ⟨k, hk, rfl, hB⟩ := hrel
    obtain ⟨wo, rfl⟩ : ∃ wo : World, wo = wr := ⟨_, rfl⟩
    have hkI : (k : Int) ≤ 32768 := by have := HN.out; omega
    have hk0 : (0 : Int) ≤ k := by omega
    by_cases hlt : (k : Int) < 32768
    · have HK := Lib.hid hk
      clear hk
      go_wp2_with fail
      have hO := Own.lit wo 36 [1, 2] (by simp)
      have HO := Lib.hid hO; clear hO
      have hkN : k < N := by have := HN.out; omega
      have HKN := Lib.hid hkN
      clear hlt hkI hk0 hkN
      go_loopw [2, 3, 4] (fun v m i w1 => ∃ (j : Nat) (x : Int) (l : List Int), j ≤ 5 ∧ (0 ≤ x ∧ x ≤ N) ∧ m = .int .i64 x ∧ i = .int .i64 j ∧ Hid (l.length = 2 + j ∧ Own wo w1 36 v l)) (fun _ _ i _ => 5 - (intOf i).toNat)
      case atStart => exact ⟨0, k, [1, 2], by omega, by have := HK.out; omega, rfl, rfl, rfl, HO.out⟩
      case round =>
        obtain ⟨j, x, l, hj, hx, rfl, rfl, hI⟩ := hrel
        have HLn := Lib.hid hI.out.1
        have HOw := Lib.hid hI.out.2
        clear hI
        have hxI : x ≤ 32768 := by have := HN.out; omega
        have hx0 : 0 ≤ x := hx.1
        have HX := Lib.hid hx
        clear hx
        by_cases hj5 : j < 5
        · go_wp2_with (first
            | (at_builtin; refine wpList_app1 wo _ rfl _ _ 22 36 rfl Try.ie22 _ l rfl HOw.out _ rfl (by have := HLn.out; omega) ?_; intro v' w1 hO1; have HO3 := Lib.hid hO1; clear hO1))
          go_roundw
          case rel => exact ⟨j + 1, x / 8, _, by omega, by have := HX.out; omega, rfl, by go_num, by have := HLn.out; simp; omega, HO3.out⟩
          case measure => simp [intOf]; omega
        · have hj6 : j = 5 := by omega
          subst hj6
          obtain ⟨g, cap, hv, _, _⟩ := World.ownsRow.form HOw.out.1 (by have := HLn.out; omega)
          subst hv
          have hsl : Sl wr (some ⟨g, 0, none⟩) cap l := by
            obtain ⟨ao', cap', hv', hs'⟩ := HOw.out.sl
            simp only [Value.slice.injEq] at hv'
            obtain ⟨rfl, _, rfl⟩ := hv'
            exact hs'
          have hln : l.length = 7 := by have := HLn.out; omega
          rw [hln]
          obtain ⟨hcap, hcap2⟩ := hsl.bound
          rw [hln] at hcap
          have HSl := Lib.hid hsl
          have HSs := Lib.hid (hsl.sub 2 4 (by omega))
          have hl4 : ((l.drop 2).take 4).length = 4 := by simp; omega
          have HP1 := Lib.hid (fun a c w h => hln ▸ ofM_eq_ofR l ▸ ofP_any a c l w h (by omega))
          have HR1 := Lib.hid (fun a c w h => hln ▸ of_any a c l w h (by omega))
          have HP2 := Lib.hid (fun a c w h => hl4 ▸ ofM_eq_ofR ((l.drop 2).take 4) ▸ ofP_any a c ((l.drop 2).take 4) w h (by omega))
          have HR2 := Lib.hid (fun a c w h => hl4 ▸ of_any a c ((l.drop 2).take 4) w h (by omega))
          generalize ofR l = R1 at *
          generalize ofR ((l.drop 2).take 4) = R2 at *
          obtain ⟨c, e⟩ := R1
          obtain ⟨d, f⟩ := R2
          simp only [] at HP1 HR1 HP2 HR2
          have HBA := Lib.hid (HOw.out.2)
          clear hsl hln hl4 HOw HLn
          go_upto_region 11 with fail
          go_upto_region 12 with (go_at_call 11; ((with_reducible refine (HP1.out _ _ _ HSl.out).mono ?_)); rintro e' w4 ⟨rfl, hb4⟩; have HB4 := Lib.hid hb4; clear hb4; simp only [Cn.vals])
          have hN : Below wr.heap.size wr (w4.alloc (.cells #[.int .i64 c.calls, .int .i64 c.bodies, .int .i64 c.grows, .int .i64 c.seeds, .int .i64 c.hits, .int .i64 c.puts, .int .i64 c.drops, .int .i64 c.ends, .int .i64 c.live, .int .i64 c.peak, .int .i64 c.opn, .int .i64 c.deep, .int .i64 c.most] 26)) := HB4.out.alloc HB4.out.size _
          have HC1 := Lib.hid (show hrow (w4.alloc (.cells #[.int .i64 c.calls, .int .i64 c.bodies, .int .i64 c.grows, .int .i64 c.seeds, .int .i64 c.hits, .int .i64 c.puts, .int .i64 c.drops, .int .i64 c.ends, .int .i64 c.live, .int .i64 c.peak, .int .i64 c.opn, .int .i64 c.deep, .int .i64 c.most] 26)) w4.heap.size _ _ from heap_alloc_new w4 (.cells #[.int .i64 c.calls, .int .i64 c.bodies, .int .i64 c.grows, .int .i64 c.seeds, .int .i64 c.hits, .int .i64 c.puts, .int .i64 c.drops, .int .i64 c.ends, .int .i64 c.live, .int .i64 c.peak, .int .i64 c.opn, .int .i64 c.deep, .int .i64 c.most] 26))
          replace HBA := Lib.hid (HBA.out.trans (hN.mono HBA.out.size))
          replace HSl := Lib.hid (HSl.out.below hN)
          replace HSs := Lib.hid (HSs.out.below hN)
          clear hN HB4
          revert HC1 HBA HSl HSs
          generalize w4.heap.size = g1
          generalize w4.alloc (.cells #[.int .i64 c.calls, .int .i64 c.bodies, .int .i64 c.grows, .int .i64 c.seeds, .int .i64 c.hits, .int .i64 c.puts, .int .i64 c.drops, .int .i64 c.ends, .int .i64 c.live, .int .i64 c.peak, .int .i64 c.opn, .int .i64 c.deep, .int .i64 c.most] 26) = wx1
          intro HC1 HBA HSl HSs
          go_upto_region 13 with (go_at_call 12; ((with_reducible refine (HR1.out _ _ _ HSl.out).mono ?_)); rintro e' w4 ⟨rfl, hb4⟩; have HB4 := Lib.hid hb4; clear hb4; simp only [Cn.vals])
          have hN : Below wx1.heap.size wx1 (w4.alloc (.cells #[.int .i64 c.calls, .int .i64 c.bodies, .int .i64 c.grows, .int .i64 c.seeds, .int .i64 c.hits, .int .i64 c.puts, .int .i64 c.drops, .int .i64 c.ends, .int .i64 c.live, .int .i64 c.peak, .int .i64 c.opn, .int .i64 c.deep, .int .i64 c.most] 30)) := HB4.out.alloc HB4.out.size _
          have HC2 := Lib.hid (show hrow (w4.alloc (.cells #[.int .i64 c.calls, .int .i64 c.bodies, .int .i64 c.grows, .int .i64 c.seeds, .int .i64 c.hits, .int .i64 c.puts, .int .i64 c.drops, .int .i64 c.ends, .int .i64 c.live, .int .i64 c.peak, .int .i64 c.opn, .int .i64 c.deep, .int .i64 c.most] 30)) w4.heap.size _ _ from heap_alloc_new w4 (.cells #[.int .i64 c.calls, .int .i64 c.bodies, .int .i64 c.grows, .int .i64 c.seeds, .int .i64 c.hits, .int .i64 c.puts, .int .i64 c.drops, .int .i64 c.ends, .int .i64 c.live, .int .i64 c.peak, .int .i64 c.opn, .int .i64 c.deep, .int .i64 c.most] 30))
          replace HBA := Lib.hid (HBA.out.trans (hN.mono HBA.out.size))
          replace HSl := Lib.hid (HSl.out.below hN)
          replace HSs := Lib.hid (HSs.out.below hN)
          replace HC1 := Lib.hid (HC1.out.later hN)
          clear hN HB4
          revert HC2 HBA HSl HSs HC1
          generalize w4.heap.size = g2
          generalize w4.alloc (.cells #[.int .i64 c.calls, .int .i64 c.bodies, .int .i64 c.grows, .int .i64 c.seeds, .int .i64 c.hits, .int .i64 c.puts, .int .i64 c.drops, .int .i64 c.ends, .int .i64 c.live, .int .i64 c.peak, .int .i64 c.opn, .int .i64 c.deep, .int .i64 c.most] 30) = wx2
          intro HC2 HBA HSl HSs HC1
          go_upto_region 14 with (go_at_call 11; ((with_reducible refine (HP2.out _ _ _ HSs.out).mono ?_)); rintro e' w4 ⟨rfl, hb4⟩; have HB4 := Lib.hid hb4; clear hb4; simp only [Cn.vals])
          have hN : Below wx2.heap.size wx2 (w4.alloc (.cells #[.int .i64 d.calls, .int .i64 d.bodies, .int .i64 d.grows, .int .i64 d.seeds, .int .i64 d.hits, .int .i64 d.puts, .int .i64 d.drops, .int .i64 d.ends, .int .i64 d.live, .int .i64 d.peak, .int .i64 d.opn, .int .i64 d.deep, .int .i64 d.most] 26)) := HB4.out.alloc HB4.out.size _
          have HC3 := Lib.hid (show hrow (w4.alloc (.cells #[.int .i64 d.calls, .int .i64 d.bodies, .int .i64 d.grows, .int .i64 d.seeds, .int .i64 d.hits, .int .i64 d.puts, .int .i64 d.drops, .int .i64 d.ends, .int .i64 d.live, .int .i64 d.peak, .int .i64 d.opn, .int .i64 d.deep, .int .i64 d.most] 26)) w4.heap.size _ _ from heap_alloc_new w4 (.cells #[.int .i64 d.calls, .int .i64 d.bodies, .int .i64 d.grows, .int .i64 d.seeds, .int .i64 d.hits, .int .i64 d.puts, .int .i64 d.drops, .int .i64 d.ends, .int .i64 d.live, .int .i64 d.peak, .int .i64 d.opn, .int .i64 d.deep, .int .i64 d.most] 26))
          replace HBA := Lib.hid (HBA.out.trans (hN.mono HBA.out.size))
          replace HSl := Lib.hid (HSl.out.below hN)
          replace HSs := Lib.hid (HSs.out.below hN)
          replace HC1 := Lib.hid (HC1.out.later hN)
          replace HC2 := Lib.hid (HC2.out.later hN)
          clear hN HB4
          revert HC3 HBA HSl HSs HC1 HC2
          generalize w4.heap.size = g3
          generalize w4.alloc (.cells #[.int .i64 d.calls, .int .i64 d.bodies, .int .i64 d.grows, .int .i64 d.seeds, .int .i64 d.hits, .int .i64 d.puts, .int .i64 d.drops, .int .i64 d.ends, .int .i64 d.live, .int .i64 d.peak, .int .i64 d.opn, .int .i64 d.deep, .int .i64 d.most] 26) = wx3
          intro HC3 HBA HSl HSs HC1 HC2
          go_upto_region 15 with (go_at_call 12; ((with_reducible refine (HR2.out _ _ _ HSs.out).mono ?_)); rintro e' w4 ⟨rfl, hb4⟩; have HB4 := Lib.hid hb4; clear hb4; simp only [Cn.vals])
          have hN : Below wx3.heap.size wx3 (w4.alloc (.cells #[.int .i64 d.calls, .int .i64 d.bodies, .int .i64 d.grows, .int .i64 d.seeds, .int .i64 d.hits, .int .i64 d.puts, .int .i64 d.drops, .int .i64 d.ends, .int .i64 d.live, .int .i64 d.peak, .int .i64 d.opn, .int .i64 d.deep, .int .i64 d.most] 30)) := HB4.out.alloc HB4.out.size _
          have HC4 := Lib.hid (show hrow (w4.alloc (.cells #[.int .i64 d.calls, .int .i64 d.bodies, .int .i64 d.grows, .int .i64 d.seeds, .int .i64 d.hits, .int .i64 d.puts, .int .i64 d.drops, .int .i64 d.ends, .int .i64 d.live, .int .i64 d.peak, .int .i64 d.opn, .int .i64 d.deep, .int .i64 d.most] 30)) w4.heap.size _ _ from heap_alloc_new w4 (.cells #[.int .i64 d.calls, .int .i64 d.bodies, .int .i64 d.grows, .int .i64 d.seeds, .int .i64 d.hits, .int .i64 d.puts, .int .i64 d.drops, .int .i64 d.ends, .int .i64 d.live, .int .i64 d.peak, .int .i64 d.opn, .int .i64 d.deep, .int .i64 d.most] 30))
          replace HBA := Lib.hid (HBA.out.trans (hN.mono HBA.out.size))
          replace HSl := Lib.hid (HSl.out.below hN)
          replace HSs := Lib.hid (HSs.out.below hN)
          replace HC1 := Lib.hid (HC1.out.later hN)
          replace HC2 := Lib.hid (HC2.out.later hN)
          replace HC3 := Lib.hid (HC3.out.later hN)
          clear hN HB4
          revert HC4 HBA HSl HSs HC1 HC2 HC3
          generalize w4.heap.size = g4
          generalize w4.alloc (.cells #[.int .i64 d.calls, .int .i64 d.bodies, .int .i64 d.grows, .int .i64 d.seeds, .int .i64 d.hits, .int .i64 d.puts, .int .i64 d.drops, .int .i64 d.ends, .int .i64 d.live, .int .i64 d.peak, .int .i64 d.opn, .int .i64 d.deep, .int .i64 d.most] 30) = wx4
          intro HC4 HBA HSl HSs HC1 HC2 HC3
          have hcx1 : ∀ (x : Later wx4) o, x.val.cell? ⟨g1, o, none⟩ = _ := fun x o => (HC1.out.later x.ok).cell o
          have hcx2 : ∀ (x : Later wx4) o, x.val.cell? ⟨g2, o, none⟩ = _ := fun x o => (HC2.out.later x.ok).cell o
          have hcx3 : ∀ (x : Later wx4) o, x.val.cell? ⟨g3, o, none⟩ = _ := fun x o => (HC3.out.later x.ok).cell o
          have hcx4 : ∀ (x : Later wx4) o, x.val.cell? ⟨g4, o, none⟩ = _ := fun x o => (HC4.out.later x.ok).cell o
          have HCxc : Hid (∀ x : Later wx4, Calls Try.prog 13 #[.agg #[.int .i64 c.calls, .int .i64 c.bodies, .int .i64 c.grows, .int .i64 c.seeds, .int .i64 c.hits, .int .i64 c.puts, .int .i64 c.drops, .int .i64 c.ends, .int .i64 c.live, .int .i64 c.peak, .int .i64 c.opn, .int .i64 c.deep, .int .i64 c.most]] x.val fun r w' => r = .returned (.agg #[.int .i64 c.calls, .int .i64 c.bodies, .int .i64 c.grows, .int .i64 c.seeds, .int .i64 c.hits, .int .i64 c.puts, .int .i64 c.drops, .int .i64 c.ends, .int .i64 c.live, .int .i64 c.peak, .int .i64 c.opn, .int .i64 c.deep, .int .i64 c.most]) ∧ Below x.val.heap.size x.val w') := fun x => conv_any c x.val
          have HCxd : Hid (∀ x : Later wx4, Calls Try.prog 13 #[.agg #[.int .i64 d.calls, .int .i64 d.bodies, .int .i64 d.grows, .int .i64 d.seeds, .int .i64 d.hits, .int .i64 d.puts, .int .i64 d.drops, .int .i64 d.ends, .int .i64 d.live, .int .i64 d.peak, .int .i64 d.opn, .int .i64 d.deep, .int .i64 d.most]] x.val fun r w' => r = .returned (.agg #[.int .i64 d.calls, .int .i64 d.bodies, .int .i64 d.grows, .int .i64 d.seeds, .int .i64 d.hits, .int .i64 d.puts, .int .i64 d.drops, .int .i64 d.ends, .int .i64 d.live, .int .i64 d.peak, .int .i64 d.opn, .int .i64 d.deep, .int .i64 d.most]) ∧ Below x.val.heap.size x.val w') := fun x => conv_any d x.val
          refine wp_region_later (by kernel_rfl) (by kernel_rfl) ?_
          repeat (go_big_quiet_step (first
            | (go_at_call 13; ((with_reducible exact Calls.later (HCxc.out _))))
            | (go_at_call 13; ((with_reducible exact Calls.later (HCxd.out _))))))
          refine wpQuiet_nil ?_
          intro w5 hw5
          obtain ⟨x5, rfl⟩ := hw5
          have HBZ := Lib.hid (HBA.out.trans (x5.ok.mono HBA.out.size))
          clear hcx1 hcx2 hcx3 hcx4 HCxc HCxd HC1 HC2 HC3 HC4 HSl HSs HP1 HP2 HR1 HR2
          have hkJ : (k : Int) ≤ 1000000 := by have := HKN.out; have := HN.out; omega
          have hkJ0 : (0 : Int) ≤ k := by omega
          go_wp2_with fail
          go_roundw
          case rel => exact ⟨k + 1, HKN.out, by go_num, hB.out.trans (HBZ.out.mono hB.out.size)⟩
          case measure => have := HKN.out; simp [intOf]; omega
    · have hd : decide ((k : Int) < 32768) = false := decide_eq_false hlt
      clear hlt hkI hk0 hk HN
      go_upto_region 18 with (fail)
      obtain ⟨E, hE⟩ : ∃ E : Array Value, E = #[.int .i64 (-9223372036854775808), .int .i64 (-1), .int .i64 0, .int .i64 9, .int .i64 9223372036854775807] := ⟨_, rfl⟩
      have hEc : ∀ j, j < 5 → ∃ x, E[j]? = some (.int .i64 x) := by
        intro j hj
        rw [hE]
        have : j = 0 ∨ j = 1 ∨ j = 2 ∨ j = 3 ∨ j = 4 := by omega
        rcases this with rfl | rfl | rfl | rfl | rfl <;> exact ⟨_, rfl⟩
      rw [← hE]
      have hrE : hrow (wo.alloc (.cells E 3)) wo.heap.size E 3 := heap_alloc_new _ _
      have HEc := Lib.hid hEc; have HrE := Lib.hid hrE
      have HBE := Lib.hid (hB.out.alloc hB.out.size (.cells E 3))
      clear hE hEc hrE hd
      revert HrE HBE
      generalize wo.heap.size = ge
      generalize wo.alloc (.cells E 3) = we
      intro HrE HBE
      go_wp2_with fail
      go_loopw [14] (fun i wr => ∃ j : Nat, j ≤ 5 ∧ i = .int .i64 j ∧ Hid (Below w.heap.size w wr ∧ hrow wr ge E 3)) (fun i _ => 5 - (intOf i).toNat)
      case atStart => exact ⟨0, by omega, rfl, HBE.out, HrE.out⟩
      case round =>
        obtain ⟨j, hj, rfl, hI⟩ := hrel
        have HI1 := Lib.hid hI.out.1
        have HI2 := Lib.hid hI.out.2
        clear hI HrE HBE
        by_cases hj5 : j < 5
        · obtain ⟨x, hx⟩ := HEc.out j hj5
          have hcx : wr.cell? ⟨ge, j, none⟩ = some (.int .i64 x) := (HI2.out.cell j).trans hx
          clear hx
          have HBl := Lib.hid (Below.refl wr.heap.size wr)
          go_wp2_with fail
          refine (evs _ [1, 2, x] (by simp)).mono ?_
          rintro e w1 ⟨a1, c1, rfl, hs1, hb1⟩
          have HS1 := Lib.hid hs1
          replace HBl := Lib.hid (HBl.out.trans (hb1.mono HBl.out.size))
          clear hs1 hb1
          go_wp2_with fail
          refine (tells_any _ _ _ [1, 2, x] _ rfl HS1.out).mono ?_
          rintro e u1 ⟨rfl, hb1⟩
          replace HBl := Lib.hid (HBl.out.trans (hb1.mono HBl.out.size))
          have hcx1 : u1.cell? ⟨ge, j, none⟩ = some (.int .i64 x) := ((HI2.out.later HBl.out).cell j).trans ((HI2.out.cell j).symm.trans hcx)
          clear hb1
          go_wp2_with fail
          refine (evs _ [x, 1] (by simp)).mono ?_
          rintro e w2 ⟨a2, c2, rfl, hs2, hb2⟩
          have HS2 := Lib.hid hs2
          replace HBl := Lib.hid (HBl.out.trans (hb2.mono HBl.out.size))
          clear hs2 hb2
          go_wp2_with fail
          refine (tells_any _ _ _ [x, 1] _ rfl HS2.out).mono ?_
          rintro e u2 ⟨rfl, hb2⟩
          replace HBl := Lib.hid (HBl.out.trans (hb2.mono HBl.out.size))
          have hcx2 : u2.cell? ⟨ge, j, none⟩ = some (.int .i64 x) := ((HI2.out.later HBl.out).cell j).trans ((HI2.out.cell j).symm.trans hcx)
          clear hb2
          go_wp2_with fail
          refine (evs _ [1, x] (by simp)).mono ?_
          rintro e w3 ⟨a3, c3, rfl, hs3, hb3⟩
          have HS3 := Lib.hid hs3
          replace HBl := Lib.hid (HBl.out.trans (hb3.mono HBl.out.size))
          clear hs3 hb3
          go_wp2_with fail
          refine (tells_any _ _ _ [1, x] _ rfl HS3.out).mono ?_
          rintro e u3 ⟨rfl, hb3⟩
          replace HBl := Lib.hid (HBl.out.trans (hb3.mono HBl.out.size))
          have hcx3 : u3.cell? ⟨ge, j, none⟩ = some (.int .i64 x) := ((HI2.out.later HBl.out).cell j).trans ((HI2.out.cell j).symm.trans hcx)
          clear hb3
          go_wp2_with fail
          go_roundw
          case rel => exact ⟨j + 1, by omega, by go_num, HI1.out.trans (HBl.out.mono HI1.out.size), HI2.out.later HBl.out⟩
          case measure => simp [intOf]; omega
        · have hj6 : j = 5 := by omega
          subst hj6
          go_upto_region 24 with (fail)
          have hz0 := (show hrow (wr.alloc (.cells #[.int .i64 0, .int .i64 0, .int .i64 0, .int .i64 0, .int .i64 0, .int .i64 0, .int .i64 0, .int .i64 0, .int .i64 0, .int .i64 0, .int .i64 0, .int .i64 0, .slice none 0 0, .bool false, .slice none 0 0] 55)) wr.heap.size _ _ from heap_alloc_new wr (.cells #[.int .i64 0, .int .i64 0, .int .i64 0, .int .i64 0, .int .i64 0, .int .i64 0, .int .i64 0, .int .i64 0, .int .i64 0, .int .i64 0, .int .i64 0, .int .i64 0, .slice none 0 0, .bool false, .slice none 0 0] 55)).later ((Below.refl _ _).alloc (Nat.le_refl _) (.cells #[.pointer none, .pointer (some ⟨wr.heap.size, 0, none⟩)] 38))
          have hl0 := show hrow ((wr.alloc (.cells #[.int .i64 0, .int .i64 0, .int .i64 0, .int .i64 0, .int .i64 0, .int .i64 0, .int .i64 0, .int .i64 0, .int .i64 0, .int .i64 0, .int .i64 0, .int .i64 0, .slice none 0 0, .bool false, .slice none 0 0] 55)).alloc (.cells #[.pointer none, .pointer (some ⟨wr.heap.size, 0, none⟩)] 38)) (wr.alloc (.cells #[.int .i64 0, .int .i64 0, .int .i64 0, .int .i64 0, .int .i64 0, .int .i64 0, .int .i64 0, .int .i64 0, .int .i64 0, .int .i64 0, .int .i64 0, .int .i64 0, .slice none 0 0, .bool false, .slice none 0 0] 55)).heap.size _ _ from heap_alloc_new (wr.alloc (.cells #[.int .i64 0, .int .i64 0, .int .i64 0, .int .i64 0, .int .i64 0, .int .i64 0, .int .i64 0, .int .i64 0, .int .i64 0, .int .i64 0, .int .i64 0, .int .i64 0, .slice none 0 0, .bool false, .slice none 0 0] 55)) (.cells #[.pointer none, .pointer (some ⟨wr.heap.size, 0, none⟩)] 38)
          simp only [World.size_alloc] at hl0
          have HZ0 := Lib.hid hz0; have HL0 := Lib.hid hl0
          have HBL := Lib.hid ((HI1.out.alloc HI1.out.size (.cells #[.int .i64 0, .int .i64 0, .int .i64 0, .int .i64 0, .int .i64 0, .int .i64 0, .int .i64 0, .int .i64 0, .int .i64 0, .int .i64 0, .int .i64 0, .int .i64 0, .slice none 0 0, .bool false, .slice none 0 0] 55)).alloc (by have := HI1.out.size; simp; omega) (.cells #[.pointer none, .pointer (some ⟨wr.heap.size, 0, none⟩)] 38))
          clear hz0 hl0 HI1 HI2
          revert HZ0 HL0 HBL
          generalize (wr.alloc (.cells #[.int .i64 0, .int .i64 0, .int .i64 0, .int .i64 0, .int .i64 0, .int .i64 0, .int .i64 0, .int .i64 0, .int .i64 0, .int .i64 0, .int .i64 0, .int .i64 0, .slice none 0 0, .bool false, .slice none 0 0] 55)).alloc (.cells #[.pointer none, .pointer (some ⟨wr.heap.size, 0, none⟩)] 38) = wl
          generalize wr.heap.size = gz
          intro HZ0 HL0 HBL
          go_wp2_with fail
          go_loopw [16] (fun i wr => ∃ j : Nat, j ≤ 2 ∧ i = .int .i64 j ∧ Hid (Below w.heap.size w wr ∧ hrow wr (gz + 1) #[.pointer none, .pointer (some ⟨gz, 0, none⟩)] 38 ∧ hrow wr gz (Mt.zero.cells (.slice none 0 0) (.bool false) (.slice none 0 0)) 55)) (fun i _ => 2 - (intOf i).toNat)
          case atStart => exact ⟨0, by omega, rfl, HBL.out, HL0.out, HZ0.out⟩
          case round =>
            obtain ⟨j, hj, rfl, hI⟩ := hrel
            have HI1 := Lib.hid hI.out.1
            have HI2 := Lib.hid hI.out.2.1
            have HI3 := Lib.hid hI.out.2.2
            clear hI HZ0 HL0 HBL
            by_cases hj2 : j < 2
            · obtain ⟨v, hv, HNo⟩ : ∃ v, (#[.pointer none, .pointer (some ⟨gz, 0, none⟩)] : Array Value)[j]? = some (.pointer v) ∧ Hid (NoLog wr v) := by
                have : j = 0 ∨ j = 1 := by omega
                rcases this with rfl | rfl
                · exact ⟨_, rfl, .inl rfl⟩
                · exact ⟨_, rfl, .inr ⟨gz, rfl, HI3.out⟩⟩
              have hcx : wr.cell? ⟨gz + 1, j, none⟩ = some (.pointer v) := (HI2.out.cell j).trans hv
              have HV := Lib.hid hv
              clear hv
              go_upto_region 29 with (go_at_call 17; ((with_reducible refine (add_no _ v (HNo.out.later ((Below.refl _ _).alloc (Nat.le_refl _) _)) _ _ _).mono ?_); rintro e w4 ⟨rfl, rfl⟩))
              have hq0 := show hrow ((wr.alloc (.cells #[.int .i64 1, .int .i64 2] 36)).alloc (.cells #[.int .i64 0, .int .i64 0, .int .i64 0, .int .i64 0, .int .i64 0, .int .i64 0, .int .i64 0, .int .i64 0, .int .i64 0, .int .i64 0, .int .i64 0, .int .i64 0, .int .i64 0] 26)) (wr.alloc (.cells #[.int .i64 1, .int .i64 2] 36)).heap.size _ _ from heap_alloc_new (wr.alloc (.cells #[.int .i64 1, .int .i64 2] 36)) (.cells #[.int .i64 0, .int .i64 0, .int .i64 0, .int .i64 0, .int .i64 0, .int .i64 0, .int .i64 0, .int .i64 0, .int .i64 0, .int .i64 0, .int .i64 0, .int .i64 0, .int .i64 0] 26)
              simp only [World.size_alloc] at hq0
              have hbq := ((Below.refl wr.heap.size wr).alloc (Nat.le_refl _) (.cells #[.int .i64 1, .int .i64 2] 36)).alloc (by simp) (.cells #[.int .i64 0, .int .i64 0, .int .i64 0, .int .i64 0, .int .i64 0, .int .i64 0, .int .i64 0, .int .i64 0, .int .i64 0, .int .i64 0, .int .i64 0, .int .i64 0, .int .i64 0] 26)
              have HQ0 := Lib.hid hq0; have HBQ := Lib.hid hbq
              clear hq0 hbq hcx
              revert HQ0 HBQ
              generalize (wr.alloc (.cells #[.int .i64 1, .int .i64 2] 36)).alloc (.cells #[.int .i64 0, .int .i64 0, .int .i64 0, .int .i64 0, .int .i64 0, .int .i64 0, .int .i64 0, .int .i64 0, .int .i64 0, .int .i64 0, .int .i64 0, .int .i64 0, .int .i64 0] 26) = wq
              generalize wr.heap.size + 1 = gq
              intro HQ0 HBQ
              have hcq : ∀ x : Later wq, x.val.cell? ⟨gz + 1, j, none⟩ = some (.pointer v) := fun x => (((HI2.out.later HBQ.out).later x.ok).cell j).trans HV.out
              have hcz : ∀ (x : Later wq) o, x.val.cell? ⟨gq, o, none⟩ = _ := fun x o => (HQ0.out.later x.ok).cell o
              have HNx : Hid (∀ x : Later wq, NoLog x.val v) := fun x => (HNo.out.later HBQ.out).later x.ok
              have HCn : Hid (∀ x : Later wq, Calls Try.prog 18 #[.pointer v] x.val fun r w' => r = .returned (.agg #[.int .i64 0, .int .i64 0, .int .i64 0, .int .i64 0, .int .i64 0, .int .i64 0, .int .i64 0, .int .i64 0, .int .i64 0, .int .i64 0, .int .i64 0, .int .i64 0, .int .i64 0]) ∧ Below x.val.heap.size x.val w') := fun x => counts_no _ v (HNx.out x)
              have HTr : Hid (∀ x : Later wq, Calls Try.prog 19 #[.pointer v] x.val fun r w' => r = .returned (.slice none 0 0) ∧ x.val = w') := fun x => trace_no _ v (HNx.out x)
              have HCp : Hid (∀ x : Later wq, Calls Try.prog 20 #[.pointer v] x.val fun r w' => r = .returned (.pointer none) ∧ x.val = w') := fun x => copy_no _ v (HNx.out x)
              refine wp_region_later (by kernel_rfl) (by kernel_rfl) ?_
              repeat (go_big_quiet_step (first
                | (go_at_call 18; exact Calls.later (HCn.out _))
                | (go_at_call 19; exact Calls.later_same (HTr.out _))
                | (go_at_call 20; exact Calls.later_same (HCp.out _))))
              refine wpQuiet_nil ?_
              intro w5 hw5
              obtain ⟨x5, rfl⟩ := hw5
              have HBZ := Lib.hid (HBQ.out.trans (x5.ok.mono HBQ.out.size))
              clear hcq hcz HNx HCn HTr HCp HQ0
              go_wp2_with fail
              go_roundw
              case rel => ((repeat apply Exists.intro); exact ⟨⟨j + 1, by omega, by go_num, HI1.out.trans (HBZ.out.mono HI1.out.size), HI2.out.later HBZ.out, HI3.out.later HBZ.out⟩, rfl⟩)
              case measure => simp [intOf]; omega
            · have hj3 : j = 2 := by omega
              subst hj3
              go_wp2_with (go_at_call 9; refine (awake_any _).mono ?_; rintro e w1 ⟨rfl, hb1⟩; have HB1 := Lib.hid hb1; clear hb1)
              go_ret
              exact ⟨rfl, HI1.out.trans (HB1.out.mono HI1.out.size)⟩
end Go.Proofs.Ytbndpmfekglnkaa
