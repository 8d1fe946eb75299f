/- Walks: the reference's Of. -/
import Derived.Test.YtbndpmfekglnkaaW4
import Derived.Test.YtbndpmfekglnkaaLater
import Derived.Deep.Cut
import Derived.Deep.RegionWith
import Derived.Laws.CopyOwn
namespace Go.Proofs.Ytbndpmfekglnkaa
open Go.RowKit

theorem times_n (ao : Option Addr) (cap n : Nat) (zs : List Int) (e : Int) (w : World) (hs : Sl w ao cap zs) (hn : zs.length = n) :
    Calls Try.prog 27 #[.slice ao n cap, .int .i64 e] w fun r w' => r = .returned (.int .i64 (cnt e zs)) ∧ w = w' := by
  subst hn; exact times_any ao cap zs e w hs

def Cn.vals (c : Cn) : Array Value := #[.int .i64 c.calls, .int .i64 c.bodies, .int .i64 c.grows, .int .i64 c.seeds, .int .i64 c.hits, .int .i64 c.puts, .int .i64 c.drops, .int .i64 c.ends, .int .i64 c.live, .int .i64 c.peak, .int .i64 c.opn, .int .i64 c.deep, .int .i64 c.most]

/-- The counters of zs, but for the three that the loop reckons. -/
def cnOf (zs : List Int) (p d m : Int) : Cn :=
  ⟨cnt 1 zs, cnt 2 zs, cnt 3 zs, cnt 4 zs, cnt 5 zs, cnt 6 zs, cnt 7 zs, cnt 8 zs, (cnt 6 zs : Int) - cnt 7 zs, p, (cnt 1 zs : Int) - cnt 8 zs, d, m⟩

/-- The worlds of Of's loop: c is the counters' variable; the result's variable is the first that the call has made. -/
structure OfI (zs : List Int) (w : World) (c : Nat) (wr : World) (p d m : Int) : Prop where
  hc : wr.heap[c]? = some (.cells (cnOf zs p d m).vals 30 (0, 0))
  hr : wr.heap[w.heap.size]? = some (.cells Cn.zero.vals 30 (0, 0))
  hb : Below w.heap.size w wr
  lt : w.heap.size < c

theorem OfI.later {zs : List Int} {w : World} {c : Nat} {wr w' : World} {p d m : Int} (h : OfI zs w c wr p d m) (hb : Below wr.heap.size wr w') : OfI zs w c w' p d m :=
  ⟨(hb.block _ (lt_of_block h.hc)).trans h.hc, (hb.block _ (lt_of_block h.hr)).trans h.hr, h.hb.trans (hb.mono h.hb.size), h.lt⟩

theorem OfI.set {zs : List Int} {w : World} {c : Nat} {wr : World} {p d m p' d' m' : Int} (h : OfI zs w c wr p d m) (o : Nat) (v : Value) (hv : (cnOf zs p d m).vals.setIfInBounds o v = (cnOf zs p' d' m').vals) :
    OfI zs w c (wr.setCell ⟨c, o, none⟩ v) p' d' m' := by
  refine ⟨?_, ?_, h.hb.setCell (by have := h.lt; simp; omega) _, h.lt⟩
  · rw [heap_setCell_same _ _ _ _ _ _ h.hc, hv]
  · rw [heap_setCell_other _ _ _ _ (by have := h.lt; simp; omega)]; exact h.hr

theorem Sl.take {w : World} {ao : Option Addr} {cap : Nat} {zs : List Int} (h : Sl w ao cap zs) (k : Nat) : Sl w ao cap (zs.take k) := by
  refine ⟨?_, h.2.1, h.2.2.1, fun j hj => ?_⟩
  · have := h.1; simp; omega
  · have hj2 : j < zs.length := by simp at hj; omega
    have hj3 : j < k := by simp at hj; omega
    obtain ⟨a, h1, h2⟩ := h.2.2.2 j hj2
    exact ⟨a, h1, h2.trans (by simp [List.getD, hj3])⟩

theorem Sl.drew {w : World} {ao : Option Addr} {cap : Nat} {zs : List Int} (h : Sl w ao cap zs) : Sl w.drew ao cap zs := h

/-- A contract on a fresh row, read at once: what own hands back. -/
theorem own_sl (ao : Option Addr) (cap : Nat) (zs : List Int) (n : Nat) (w : World) (hs : Sl w ao cap zs) (hn : n < zs.length) (hbig : zs.length ≤ 1000000) :
    Calls Try.prog 29 #[.slice ao zs.length cap, .int .i64 n] w fun r w' => ∃ ao' cap', r = .returned (.slice ao' (ownR zs n).length cap') ∧ Sl w' ao' cap' (ownR zs n) ∧ Below w.heap.size w w' := by
  refine (own_any ao cap zs n w hs hn hbig).mono ?_
  rintro e w' ⟨v, rfl, hown, hb⟩
  obtain ⟨ao', cap', rfl, hsl⟩ := Sl.of_owns hown
  exact ⟨ao', cap', rfl, hsl, hb⟩

/-- The round of Of's loop, up to its test. -/
theorem peaksR_succ (l : List Int) (f n : Nat) (p d m : Int) : peaksR l (f + 1) n (p, d, m) =
    peaksR l f (n + 1) (max p ((cnt 6 (l.take n) : Int) - cnt 7 (l.take n)), max d ((cnt 1 (l.take n) : Int) - cnt 8 (l.take n)), if n < l.length ∧ l.getD n 0 = 1 then max m (bodiesR (ownR l n) : Int) else m) := rfl


theorem results_row_tmp {P : Program} {fn : Func} {p u : Tmp} {ty : TypeId} (h : fn.results = #[.cell p ty, .tmp u]) (tmps : Array Value) (w : World) (g : Nat) (t : TypeId) (cs : Array Value) (fr : Nat × Nat) (d : TypeDesc)
    (hp : tmps.getD p undef = .pointer (some ⟨g, 0, none⟩)) (hg : w.heap[g]? = some (.cells cs t fr))
    (hu : P.underlying ty = some d) (hd : (match d with | .struct _ | .array _ _ => true | _ => false) = true) (hi : (P.info? ty).map (·.size) = some cs.size) :
    (results fn tmps).run P w = .ok (.tuple #[.agg cs, tmps.getD u undef]) w := by
  have hp' : tmps[p]?.getD undef = .pointer (some ⟨g, 0, none⟩) := by simpa using hp
  simp [results, h, hp', asAddr, run_loadVar_row w g t ty cs fr d hg hu hd hi]

theorem max_if (p t : Int) : (if p < t then t else p) = max p t := by rw [Int.max_def]; split <;> split <;> omega

set_option maxRecDepth 100000 in
set_option maxHeartbeats 2000000 in
theorem of_ok (ao : Option Addr) (cap : Nat) (zs : List Int) (w : World) (hs : Sl w ao cap zs) (hbig : zs.length ≤ 100000) (hp2 : (putR [] zs 0).2 = 0) :
    Calls Try.prog 12 #[.slice ao zs.length cap] w fun r w' => r = .returned (.tuple #[.agg (ofR zs).1.vals, .int .i64 (ofR zs).2]) ∧ Below w.heap.size w w' := by
  obtain ⟨h1, h2⟩ := hs.bound
  have HSl := Lib.hid hs; clear hs
  obtain ⟨p, hp⟩ : ∃ p, putR [] zs 0 = p := ⟨_, rfl⟩
  have HPut := Lib.hid (fun w' (h : Sl w' ao cap zs) => hp ▸ put_any none ao 0 cap [] zs w' (Sl.nil _) h (by simp; omega))
  have HR : Hid (ofR zs = if p.2 ≠ 0 then (Cn.zero, p.2) else
    let t := peaksR zs (zs.length + 1) 0 (0, 0, 0)
    (cnOf zs t.1 t.2.1 t.2.2, 0)) := by subst hp; rfl
  rw [hp] at hp2
  clear hp
  obtain ⟨p1, p2⟩ := p
  simp only [List.length_nil] at HPut hp2
  subst hp2
  have hc := fun e => cnt_le e zs
  have hc6 := hc 6
  have hc7 := hc 7
  have hc1 := hc 1
  have hc8 := hc 8
  clear hc
  go_enter Try.func12, Try.ntmps12
  go_wp2_with (first
    | (go_at_call 21; refine (HPut.out _ (HSl.out.below ((Below.refl _ _).alloc (Nat.le_refl _) _))).mono ?_; rintro e w1 ⟨rfl, hb1⟩; have HB1 := Lib.hid hb1; clear hb1)
    | (go_at_call 27; refine (times_any _ _ _ _ _ (HSl.out.below (((Below.refl _ _).alloc (Nat.le_refl _) _).trans (HB1.out.mono (by simp))))).mono ?_; rintro e w' ⟨rfl, rfl⟩))
  have hw1 : w.heap.size + 1 ≤ w1.heap.size := by have := HB1.out.size; simpa using this
  have HI0 : Hid (OfI zs w w1.heap.size (w1.alloc (.cells (cnOf zs 0 0 0).vals 30)) 0 0 0) := by
    refine ⟨heap_alloc_new _ _, ?_, (((Below.refl _ _).alloc (Nat.le_refl _) _).trans (HB1.out.mono (by simp))).alloc (by omega) _, by omega⟩
    rw [Below.heap_alloc _ _ _ (by omega), HB1.out.block _ (by simp)]; exact heap_alloc_new w _
  clear HB1
  generalize w1.heap.size = c at *
  go_loopw [7] (fun i wr => ∃ (k : Nat) (p d m : Int), k ≤ zs.length + 1 ∧ i = .int .i64 k ∧ Hid (OfI zs w c wr p d m ∧ peaksR zs (zs.length + 1 - k) k (p, d, m) = peaksR zs (zs.length + 1) 0 (0, 0, 0))) (fun i _ => zs.length + 1 - (intOf i).toNat)
  case atStart => exact ⟨0, 0, 0, 0, by omega, rfl, HI0.out, rfl⟩
  case round =>
    clear HI0
    obtain ⟨k, p, d, m, hk, rfl, hI⟩ := hrel
    have HO := Lib.hid hI.out.1
    have HP := Lib.hid hI.out.2
    clear hI
    by_cases hlt : k ≤ zs.length
    · have hlc : (k : Int) ≤ cap := by omega
      have hkl : (zs.take k).length = k := by simp; omega
      have Hkl := Lib.hid hkl; clear hkl
      have ht : ∀ e, cnt e (zs.take k) ≤ zs.length := fun e => Nat.le_trans (cnt_le _ _) (by simp; omega)
      have ht6 := ht 6
      have ht7 := ht 7
      have ht1 := ht 1
      have ht8 := ht 8
      clear ht
      have HS1 : Hid (∀ x : Later wr, Sl x.val ao cap (zs.take k)) := fun x => ((HSl.out.below HO.out.hb).below x.ok).take k
      have hl9 : ∀ x : Later wr, x.val.cell? ⟨c, 9, none⟩ = some (.int .i64 p) := fun x => cell_of_row _ c 9 _ _ _ (HO.out.later x.ok).hc
      have hf9 : ∀ x : Later wr, x.val.frozen? ⟨c, 9, none⟩ = false := fun x => frozen_of_row _ c 9 _ _ (HO.out.later x.ok).hc
      go_wp2_with fail
      refine wp_region_later_tail 13 (by kernel_rfl) (by kernel_rfl) ?_
      simp only [List.take_succ_cons, List.take_zero, List.drop_succ_cons, List.drop_zero]
      repeat (go_big_quiet_step ((go_at_call 27; exact Calls.later_same (times_n _ _ _ (zs.take k) _ _ (HS1.out _) Hkl.out))))
      refine wpQuiet_nil ?_
      intro w2 hw2
      obtain ⟨x, rfl⟩ := hw2
      simp only [max_if]
      go_wp2_with fail
      have HO2 := Lib.hid ((HO.out.later x.ok).set 9 (.int .i64 (max p ((cnt 6 (zs.take k) : Int) - cnt 7 (zs.take k)))) (p' := max p ((cnt 6 (zs.take k) : Int) - cnt 7 (zs.take k))) (d' := d) (m' := m) rfl)
      revert HO2
      clear hl9 hf9 HS1
      obtain ⟨p', hp'⟩ : ∃ p', p' = max p ((cnt 6 (zs.take k) : Int) - cnt 7 (zs.take k)) := ⟨_, rfl⟩
      rw [← hp']
      have HP' := Lib.hid hp'; clear hp'
      generalize x.val.setCell ⟨c, 9, none⟩ (.int .i64 p') = w3
      intro HO2
      have HS1 : Hid (∀ x : Later w3, Sl x.val ao cap (zs.take k)) := fun x => ((HSl.out.below HO2.out.hb).below x.ok).take k
      have hl9 : ∀ x : Later w3, x.val.cell? ⟨c, 11, none⟩ = some (.int .i64 d) := fun x => cell_of_row _ c 11 _ _ _ (HO2.out.later x.ok).hc
      have hf9 : ∀ x : Later w3, x.val.frozen? ⟨c, 11, none⟩ = false := fun x => frozen_of_row _ c 11 _ _ (HO2.out.later x.ok).hc
      refine wp_region_later_tail 13 (by kernel_rfl) (by kernel_rfl) ?_
      simp only [List.take_succ_cons, List.take_zero, List.drop_succ_cons, List.drop_zero]
      repeat (go_big_quiet_step ((go_at_call 27; exact Calls.later_same (times_n _ _ _ (zs.take k) _ _ (HS1.out _) Hkl.out))))
      refine wpQuiet_nil ?_
      intro w4 hw4
      obtain ⟨y, rfl⟩ := hw4
      simp only [max_if]
      go_upto_region 12 with (fail)
      have HO3 := Lib.hid ((HO2.out.later y.ok).set 11 (.int .i64 (max d ((cnt 1 (zs.take k) : Int) - cnt 8 (zs.take k)))) (p' := p') (d' := max d ((cnt 1 (zs.take k) : Int) - cnt 8 (zs.take k))) (m' := m) rfl)
      revert HO3
      clear hl9 hf9 HS1 ht6 ht7 ht1 ht8
      obtain ⟨d', hd'⟩ : ∃ d', d' = max d ((cnt 1 (zs.take k) : Int) - cnt 8 (zs.take k)) := ⟨_, rfl⟩
      rw [← hd']
      have HD' := Lib.hid hd'; clear hd'
      generalize y.val.setCell ⟨c, 11, none⟩ (.int .i64 d') = w5
      intro HO3
      have HPn := Lib.hid (show peaksR zs (zs.length + 1 - (k + 1)) (k + 1) (p', d', if k < zs.length ∧ zs.getD k 0 = 1 then max m (bodiesR (ownR zs k) : Int) else m) = peaksR zs (zs.length + 1) 0 (0, 0, 0) by
        have := HP.out
        rw [show zs.length + 1 - k = (zs.length + 1 - (k + 1)) + 1 by omega, peaksR_succ, ← HP'.out, ← HD'.out] at this; exact this)
      clear HP HP' HD'
      by_cases hlt2 : k < zs.length
      · obtain ⟨a, rfl, hcell⟩ := (HSl.out.below HO3.out.hb).2.2.2 k hlt2
        have hkx : ∀ x, zs.getD k 0 = x → True := fun _ _ => trivial
        by_cases hx1 : zs.getD k 0 = 1
        · rw [hx1] at hcell
          have HPn := Lib.hid (show peaksR zs (zs.length + 1 - (k + 1)) (k + 1) (p', d', max m (bodiesR (ownR zs k) : Int)) = peaksR zs (zs.length + 1) 0 (0, 0, 0) by have := HPn.out; rw [if_pos ⟨hlt2, hx1⟩] at this; exact this)
          have HSa := Lib.hid (HSl.out.below HO3.out.hb)
          have hc12 : w5.cell? ⟨c, 12, none⟩ = some (.int .i64 m) := cell_of_row _ c 12 _ _ _ HO3.out.hc
          have hf12 : w5.frozen? ⟨c, 12, none⟩ = false := frozen_of_row _ c 12 _ _ HO3.out.hc
          have hcl := lt_of_block HO3.out.hc
          clear hkx hx1 HSl HR HPut HO HO2
          go_wp2_with fail
          go_region_with (first
            | (go_at_call 29; refine (own_sl _ _ _ _ _ (by exact HSa.out) hlt2 (by omega)).mono ?_; rintro e w6 ⟨ao', cap', rfl, hsl, hb6⟩; have HSb := Lib.hid hsl; have HB6 := Lib.hid hb6; have hc13 := (hb6.cell (p := ⟨c, 12, none⟩) hcl).trans hc12; have hf13 := (hb6.frozen (p := ⟨c, 12, none⟩) hcl).trans hf12; clear hsl hb6)
            | (go_at_call 28; refine (bodies_any _ _ _ _ (by exact HSb.out)).mono ?_; rintro e w7 ⟨rfl, rfl⟩))
          all_goals simp only [max_if]
          all_goals go_wp2_with fail
          all_goals go_roundw
          all_goals first
            | (simp [intOf]; done)
            | (simp only [intOf]; omega)
            | (refine ⟨k + 1, p', d', max m (bodiesR (ownR zs k)), by omega, by go_num, ?_, HPn.out⟩)
          all_goals exact OfI.set (HO3.out.later ((Below.refl _ _).drew.trans HB6.out)) 12 _ rfl
        · have hx2 : (zs.getD k 0 == 1) = false := by simpa using hx1
          have HX := Lib.hid hx1
          have HPn := Lib.hid (show peaksR zs (zs.length + 1 - (k + 1)) (k + 1) (p', d', m) = peaksR zs (zs.length + 1) 0 (0, 0, 0) by have := HPn.out; rw [if_neg (fun h => HX.out h.2)] at this; exact this)
          clear hx1 hkx
          generalize zs.getD k 0 = x at hcell hx2
          go_wp2_with fail
          go_roundw
          case rel => exact ⟨k + 1, p', d', m, by omega, by go_num, HO3.out, HPn.out⟩
          case measure => simp [intOf]; omega
      · have HPn := Lib.hid (show peaksR zs (zs.length + 1 - (k + 1)) (k + 1) (p', d', m) = peaksR zs (zs.length + 1) 0 (0, 0, 0) by have := HPn.out; rw [if_neg (fun h => hlt2 h.1)] at this; exact this)
        go_wp2_with fail
        go_roundw
        case rel => exact ⟨k + 1, p', d', m, by omega, by go_num, HO3.out, HPn.out⟩
        case measure => simp [intOf]; omega
    · have hke : k = zs.length + 1 := by omega
      subst hke
      have HT := Lib.hid (show (p, d, m) = peaksR zs (zs.length + 1) 0 (0, 0, 0) by have := HP.out; simpa [peaksR] using this)
      clear HP
      have K1 : Hid ((Try.prog.info? 30).map (·.size) = some (cnOf zs p d m).vals.size) := by unfold Hid; kernel_rfl
      have K2 : Hid (Cn.zero.vals.size = (cnOf zs p d m).vals.size) := rfl
      have K3 : Hid ((cnOf zs p d m).vals.all (·.oneCell') = true) := by unfold Hid; simp [cnOf, Cn.vals, Value.oneCell']
      go_wp2_with (first
        | (with_reducible refine wpList_load_row rfl 30 (.tmp 6) rfl c rfl 30 _ _ _ HO.out.hc Try.underlying30 rfl (by kernel_rfl) ?_)
        | (with_reducible refine wpList_store_row rfl 30 (.tmp 2) (.tmp 97) rfl w.heap.size (cnOf zs p d m).vals rfl rfl 30 _ HO.out.hr K1.out K2.out K3.out ?_))
      refine bodyPost_ret (results_row_tmp rfl _ _ w.heap.size 30 _ _ _ rfl (setRow_heap _ _ _ _ _ _ HO.out.hr) Try.underlying30 rfl (by kernel_rfl)) rfl ?_
      refine ⟨?_, ?_⟩
      · rw [HR.out, ← HT.out]; rfl
      · exact below_setRow HO.out.hb (Nat.le_refl _) _
end Go.Proofs.Ytbndpmfekglnkaa
