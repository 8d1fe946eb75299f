/- Walks: words: WordsJoin. -/
import Derived.Test.YtnfkcdnkmcifbaaDoorBa
namespace Go.Proofs.YtnfkcdnkmcifbaaDoor
open Go.RowKit
set_option maxRecDepth 100000
set_option maxHeartbeats 4000000

theorem pick_any (w : World) (x n : Int) (h1 : 1 ≤ n) (hn : n ≤ 1000000) : Calls Tryd.prog 9 #[.int .i64 x, .int .i64 n] w fun r w' => r = .returned (.int .i64 (x % n)) ∧ w = w' := by
 have hd : n ≠ 0 := by omega
 have ht : decide (n < 1) = false := decide_eq_false (by omega)
 have hlt := Int.tmod_lt_of_pos x (show 0 < n by omega)
 have hgt : -n < x.tmod n := by have h := Int.tmod_lt_of_pos (-x) (show 0 < n by omega); rw [Int.neg_tmod] at h; omega
 by_cases hx : x.tmod n < 0
 ·have hr : x % n = x.tmod n + n := by
   have h1 := Int.tmod_eq_emod (a := x) (b := n)
   have h2 := Int.emod_nonneg x hd
   have h3 := Int.emod_lt_of_pos x (show 0 < n by omega)
   split at h1 <;> omega
  rw [hr]
  clear hr
  go_enter Tryd.func9, Tryd.ntmps9
  go_wp2_with fail
  go_ret
  exact ⟨rfl, rfl⟩
 ·have hr : x % n = x.tmod n := by
   have h1 := Int.tmod_eq_emod (a := x) (b := n)
   have h2 := Int.emod_nonneg x hd
   have h3 := Int.emod_lt_of_pos x (show 0 < n by omega)
   split at h1 <;> omega
  have hx' : 0 ≤ x.tmod n := by omega
  rw [hr]
  clear hr
  go_enter Tryd.func9, Tryd.ntmps9
  go_wp2_with fail
  go_ret
  exact ⟨rfl, rfl⟩
theorem wordsF_len (l : List UInt8) : ∀ (f k : Nat), (wordsF l f k).1.length ≤ f
 | 0, _ => Nat.le_refl _
 | f + 1, k => by
  unfold wordsF
  cases nextW l k with
  | none => simp
  | some w =>
   simp only []
   split
   ·simp
   ·have := wordsF_len l f w.nx
    simp; omega
theorem wordsF_in {l : List UInt8} : ∀ (f k : Nat), k ≤ l.length → ∀ x ∈ (wordsF l f k).1, x.at_ ≤ l.length ∧ x.nx ≤ l.length
 | 0, k, _, x, hx => by simp [wordsF] at hx
 | f + 1, k, hk, x, hx => by
  unfold wordsF at hx
  cases hw : nextW l k with
  | none => rw [hw] at hx; simp at hx
  | some w =>
   rw [hw] at hx
   simp only [] at hx
   obtain ⟨h1, h2, h3, h4, _⟩ := nextW_some hw hk
   split at hx
   ·simp at hx; subst hx; exact ⟨by omega, h4⟩
   ·rcases List.mem_cons.1 hx with rfl | hx
    ·exact ⟨by omega, h4⟩
    ·exact wordsF_in f w.nx h4 x hx
/-- Whatever it tells. -/
theorem AllP.some {l : List UInt8} {w w' : World} {e : Ending} (h : AllP l w e w') : ∃ ao n cap p q, e = .returned (.tuple #[.slice ao n cap, .int .i64 p, .int .i64 q]) ∧ Below w.heap.size w w' ∧ (q = 0 ↔ (wordsOf l).2 = none) := by
 unfold AllP at h
 cases hq : (wordsOf l).2 with
 | none =>
  rw [hq] at h
  obtain ⟨v, rfl, hO⟩ := h
  obtain ⟨ao, cap, rfl, _⟩ := hO.sv
  exact ⟨_, _, _, _, _, rfl, hO.2, by simp⟩
 | some p =>
  rw [hq] at h
  obtain ⟨rfl, hb⟩ := h
  exact ⟨_, _, _, _, _, rfl, hb, by simp⟩
theorem ba_data (a b : ByteArray) : (a ++ b).data.toList = a.data.toList ++ b.data.toList := by simp
def gapA : Array Value := #[.string ⟨#[10]⟩, .string ⟨#[10, 32, 9, 13]⟩, .string ⟨#[10, 35, 120, 10]⟩, .string ⟨#[32, 10, 35, 10, 10]⟩]
theorem gapA_at (r : Nat) (hr : r < 4) : ∃ g : ByteArray, gapA[r]? = some (.string g) ∧ Gap g.data.toList ∧ g.size ≤ 5 := by
 match r, hr with
 | 0, _ => exact ⟨_, rfl, gap_ok 0 (by decide), by decide⟩
 | 1, _ => exact ⟨_, rfl, gap_ok 1 (by decide), by decide⟩
 | 2, _ => exact ⟨_, rfl, gap_ok 2 (by decide), by decide⟩
 | 3, _ => exact ⟨_, rfl, gap_ok 3 (by decide), by decide⟩
theorem nine_later {wx : World} {p : Addr} {x0 x1 x2 x3 x4 x5 x6 x7 x8 : Value} (h : ∀ j v, (#[x0, x1, x2, x3, x4, x5, x6, x7, x8] : Array Value).toList[j]? = some v → wx.cell? (p.add j) = some v) : (∀ x : Later wx, x.val.cell? p = some x0) ∧ (∀ x : Later wx, x.val.cell? (p.add 1) = some x1) ∧ (∀ x : Later wx, x.val.cell? (p.add 2) = some x2) ∧ (∀ x : Later wx, x.val.cell? (p.add 3) = some x3) ∧ (∀ x : Later wx, x.val.cell? (p.add 4) = some x4) ∧ (∀ x : Later wx, x.val.cell? (p.add 5) = some x5) ∧ (∀ x : Later wx, x.val.cell? (p.add 6) = some x6) ∧ (∀ x : Later wx, x.val.cell? (p.add 7) = some x7) ∧ (∀ x : Later wx, x.val.cell? (p.add 8) = some x8) := by
 have H : ∀ j v, (#[x0, x1, x2, x3, x4, x5, x6, x7, x8] : Array Value).toList[j]? = some v → ∀ x : Later wx, x.val.cell? (p.add j) = some v := fun j v hj x => (x.ok.cell (World.block_lt_of_cell? wx _ (h j v hj))).trans (h j v hj)
 exact ⟨fun x => by have := H 0 _ rfl x; rw [show p.add 0 = p by unfold Addr.add; simp] at this; exact this, H 1 _ rfl, H 2 _ rfl, H 3 _ rfl, H 4 _ rfl, H 5 _ rfl, H 6 _ rfl, H 7 _ rfl, H 8 _ rfl⟩
theorem part_later {wx : World} {p : Addr} {x0 x1 x2 x3 x4 x5 x6 x7 x8 : Value} (h : ∀ j v, (#[x0, x1, x2, x3, x4, x5, x6, x7, x8] : Array Value).toList[j]? = some v → wx.cell? (p.add j) = some v) :
  (∀ x : Later wx, (loadVar 33 p).run Tryd.prog x.val = .ok (.agg #[x0, x1, x2, x3, x4, x5, x6, x7, x8]) x.val) ∧ (∀ x : Later wx, (loadCells p 9).run Tryd.prog x.val = .ok #[x0, x1, x2, x3, x4, x5, x6, x7, x8] x.val) := by
 have H : ∀ (x : Later wx) j v, (#[x0, x1, x2, x3, x4, x5, x6, x7, x8] : Array Value).toList[j]? = some v → x.val.cell? (p.add j) = some v := fun x j v hj => (x.ok.cell (World.block_lt_of_cell? wx _ (h j v hj))).trans (h j v hj)
 exact ⟨fun x => run_loadVar_part x.val p _ _ _ (H x) Tryd.underlying33 rfl wd_sz9, fun x => run_loadCells_list (P := Tryd.prog) x.val p _ (H x)⟩
/-- A load of several cells at a step of a drawn region. -/
theorem wpQuiet_load_part {P : Program} {ops : Array Oper} {C : World → Prop} {rest : List Oper} {o : Oper} {a : Act} {Q : Act → Prop} (hw : Region.wanted o (yielded ops a.tmps) = true) (ty : TypeId) (x : Operand) (ho : o.op = .load ty x)
  (p : Addr) (hx : a.eval x = .pointer (some p)) (cs : Array Value) (hl : ∀ w, C w → (loadVar ty p).run P w = .ok (.agg cs) w)
  (h : wpQuiet P ops C Q rest (a.put o.dst (.agg cs))) : wpQuiet P ops C Q (o :: rest) a :=
 wpQuiet_step fun K hK => by
  rw [if_pos hw]
  refine ⟨_, fun w hc => ?_, hK _ h⟩
  unfold Oper.quietAt execOp
  simp only [ho, hx, Instr.loadAt, Instr.sureAddr, Sem.run_bind, Sem.run_pure, Result.andThen_ok, hl w hc]
  exact ⟨rfl, rfl⟩
theorem later_all {wx : World} {p : Addr} {ty : TypeId} {P : Program} {v : Value} (h : ∀ x : Later wx, (loadVar ty p).run P x.val = .ok v x.val) : ∀ w, (∃ x : Later wx, w = x.val) → (loadVar ty p).run P w = .ok v w := fun w ⟨x, e⟩ => by subst e; exact h x
theorem block_later {wx : World} {g : Nat} {x0 x1 x2 x3 x4 x5 x6 x7 x8 : Value} {t : TypeId} (h : hrow wx g #[x0, x1, x2, x3, x4, x5, x6, x7, x8] t) : (∀ x : Later wx, x.val.cell? ⟨g, 0, none⟩ = some x0) ∧ (∀ x : Later wx, x.val.cell? ⟨g, 1, none⟩ = some x1) ∧ (∀ x : Later wx, x.val.cell? ⟨g, 2, none⟩ = some x2) ∧ (∀ x : Later wx, x.val.cell? ⟨g, 3, none⟩ = some x3) ∧ (∀ x : Later wx, x.val.cell? ⟨g, 4, none⟩ = some x4) ∧ (∀ x : Later wx, x.val.cell? ⟨g, 5, none⟩ = some x5) ∧ (∀ x : Later wx, x.val.cell? ⟨g, 6, none⟩ = some x6) ∧ (∀ x : Later wx, x.val.cell? ⟨g, 7, none⟩ = some x7) ∧ (∀ x : Later wx, x.val.cell? ⟨g, 8, none⟩ = some x8) :=
 ⟨fun x => hrow.cell (h.below x.ok) 0, fun x => hrow.cell (h.below x.ok) 1, fun x => hrow.cell (h.below x.ok) 2, fun x => hrow.cell (h.below x.ok) 3, fun x => hrow.cell (h.below x.ok) 4, fun x => hrow.cell (h.below x.ok) 5, fun x => hrow.cell (h.below x.ok) 6, fun x => hrow.cell (h.below x.ok) 7, fun x => hrow.cell (h.below x.ok) 8⟩
theorem join_any (a b : ByteArray) (turn : Int) (w : World) (hma : a.size ≤ 140737488355328) (hmb : b.size ≤ 140737488355328) : Calls Tryd.prog 4 #[.string a, .string b, .int .i64 turn] w fun e w' => e = .returned (.bool true) ∧ Below w.heap.size w w' := by
 have HAw := Lib.hid (awake_any w)
 have HM := Lib.hid hma; have HM2 := Lib.hid hmb; clear hma hmb
 go_enter Tryd.func4, Tryd.ntmps4
 go_wp2_with fail
 refine HAw.out.mono ?_
 rintro e w1 ⟨rfl, hb⟩
 have B1 := Lib.hid hb; clear hb HAw
 by_cases hbig : 500 < a.size
 ·have hI : (500 : Int) < a.size := by omega
  clear hbig
  go_wp2_with fail
  go_ret
  exact ⟨rfl, B1.out⟩
 have hI : ¬ (500 : Int) < a.size := by omega
 by_cases hbigb : 500 < b.size
 ·have hIb : (500 : Int) < b.size := by omega
  clear hbigb hbig
  go_wp2_with fail
  go_ret
  exact ⟨rfl, B1.out⟩
 have hIb : ¬ (500 : Int) < b.size := by omega
 have HSa := Lib.hid hbig; have HSb := Lib.hid hbigb; clear hbig hbigb
 obtain ⟨r, hr⟩ : ∃ r : Nat, turn % 4 = r := ⟨(turn % 4).toNat, by omega⟩
 have hr4 : r < 4 := by omega
 have hrI : (r : Int) < 4 := by omega
 have hr0 : (0 : Int) ≤ r := by omega
 have HP := Lib.hid (fun x => pick_any x turn 4 (by decide) (by decide))
 rw [hr] at HP
 obtain ⟨g, hg, hgap, hgs⟩ := gapA_at r hr4
 have HG := Lib.hid hgap; have HGs := Lib.hid hgs
 have hgc : (w1.alloc (.cells #[.string ⟨#[10]⟩, .string ⟨#[10, 32, 9, 13]⟩, .string ⟨#[10, 35, 120, 10]⟩, .string ⟨#[32, 10, 35, 10, 10]⟩] 9)).cell? ⟨w1.heap.size, r, none⟩ = some (.string g) := ((hrow.new w1 gapA 9).cell r).trans hg
 clear hr hg hgap hgs
 go_wp2_with fail
 refine (HP.out _).mono ?_
 rintro e x ⟨rfl, rfl⟩
 go_wp2_with fail
 have B2 := Lib.hid (B1.out.alloc B1.out.size (.cells #[.string ⟨#[10]⟩, .string ⟨#[10, 32, 9, 13]⟩, .string ⟨#[10, 35, 120, 10]⟩, .string ⟨#[32, 10, 35, 10, 10]⟩] 9))
 clear HP hgc hr4 hrI hr0 B1
 generalize w1.alloc (.cells #[.string ⟨#[10]⟩, .string ⟨#[10, 32, 9, 13]⟩, .string ⟨#[10, 35, 120, 10]⟩, .string ⟨#[32, 10, 35, 10, 10]⟩] 9) = w2 at *
 have HAa := Lib.hid (fun x => all_any a x (by have := HSa.out; omega))
 have HAb := Lib.hid (fun x => all_any b x (by have := HSb.out; omega))
 have HAc := Lib.hid (fun x => all_any (a ++ g ++ b) x (by have := HSa.out; have := HSb.out; have := HGs.out; rw [ByteArray.size_append, ByteArray.size_append]; omega))
 have HL : Hid (((a.size : Int) ≤ 500 ∧ (b.size : Int) ≤ 500) ∧ (g.size : Int) ≤ 5) := ⟨⟨hI, hIb⟩, by have := HGs.out; omega⟩
 have hgI : (g.size : Int) ≤ 5 := HL.out.2
 have hc1 : ¬ 9223372036854775807 < a.size + g.size := by omega
 have hc2 : ¬ 9223372036854775807 < a.size + g.size + b.size := by omega
 refine (HAa.out _).mono ?_
 intro e w3 hPa
 by_cases hqa : (wordsOf a.data.toList).2 = none
 case neg =>
  obtain ⟨ao, na, ca, pa, qa, rfl, hba, hea⟩ := hPa.some
  have hqa1 : ¬ qa = 0 := fun h => hqa (hea.1 h)
  have B3 := Lib.hid (B2.out.trans (hba.mono B2.out.size))
  clear hea hqa hba B2 HAa
  go_wp2_with fail
  refine (HAb.out _).mono ?_
  intro e w4 hPb
  obtain ⟨bo, nb, cb, pb, qb, rfl, hbb, heb⟩ := hPb.some
  have B4 := Lib.hid (B3.out.trans (hbb.mono B3.out.size))
  clear heb hbb B3 HAb
  go_wp2_with fail
  refine (HAc.out _).mono ?_
  intro e w5 hPc
  obtain ⟨co, nc, cc, pc, qc, rfl, hbc, hec⟩ := hPc.some
  have B5 := Lib.hid (B4.out.trans (hbc.mono B4.out.size))
  clear hec hbc B4 HAc
  go_wp2_with fail
  go_ret
  exact ⟨rfl, B5.out⟩
 have hch := wordsF_ok _ _ (Nat.zero_le _) (by omega) hqa
 have hjn := join_words HG.out b.data.toList _ 0 ((a.data.toList ++ (g.data.toList ++ b.data.toList)).length + 1) (Nat.zero_le _) hch (by omega)
 have hab : (a ++ g ++ b).data.toList = a.data.toList ++ (g.data.toList ++ b.data.toList) := by rw [ba_data, ba_data, List.append_assoc]
 have HJ : Hid (wordsOf (a ++ g ++ b).data.toList = ((wordsOf a.data.toList).1.dropLast ++ (wordsOf b.data.toList).1.map (Wd.far (a.data.toList.length + g.data.toList.length)), (wordsOf b.data.toList).2.map (a.data.toList.length + g.data.toList.length + ·))) := by rw [hab]; exact hjn
 clear hjn hab
 unfold AllP at hPa
 rw [hqa] at hPa
 obtain ⟨v, rfl, hOa⟩ := hPa
 have hne : 0 < (wordsOf a.data.toList).1.length := by
  rcases hw : (wordsOf a.data.toList).1 with _ | ⟨x, r⟩
  ·unfold wordsOf at hw; rw [hw] at hch; exact hch.elim
  ·simp
 have hla : (wordsOf a.data.toList).1.length ≤ 501 := by have := wordsF_len a.data.toList (a.data.toList.length + 1) 0; have := HSa.out; have := ba_len a; unfold wordsOf; omega
 clear hch hqa
 obtain ⟨ao, ca, rfl, hSa⟩ := hOa.sv
 have B3 := Lib.hid (B2.out.trans (hOa.2.mono B2.out.size))
 have SA := Lib.hid hSa
 have hbda := hSa.bound
 clear hOa hSa B2 HAa
 generalize hwa : (wordsOf a.data.toList).1 = wa at *
 clear hwa
 generalize hna : wa.length = n at *
 have HNA := Lib.hid hna; clear hna
 go_wp2_with fail
 refine (HAb.out _).mono ?_
 intro e w4 hPb
 unfold AllP at hPb
 cases hqb : (wordsOf b.data.toList).2 with
 | some p =>
  rw [hqb] at hPb HJ
  obtain ⟨rfl, hbb⟩ := hPb
  have hpI : (p : Int) ≤ 500 := by have := (wordsF_err _ _ (Nat.zero_le _) (by omega) hqb).1; have := HSb.out; have := ba_len b; omega
  have B4 := Lib.hid (B3.out.trans (hbb.mono B3.out.size))
  clear hbb B3 HAb
  go_wp2_with fail
  refine (HAc.out _).mono ?_
  intro e w5 hPc
  unfold AllP at hPc
  rw [HJ.out] at hPc
  obtain ⟨rfl, hbc⟩ := hPc
  have B5 := Lib.hid (B4.out.trans (hbc.mono B4.out.size))
  rw [ba_len, ba_len] at *
  clear hbc B4 HAc HJ
  go_wp2_with fail
  go_ret
  exact ⟨by simp, B5.out⟩
 | none =>
  rw [hqb] at hPb HJ
  obtain ⟨v, rfl, hOb⟩ := hPb
  have hlb : (wordsOf b.data.toList).1.length ≤ 501 := by have := wordsF_len b.data.toList (b.data.toList.length + 1) 0; have := HSb.out; have := ba_len b; unfold wordsOf; omega
  obtain ⟨bo, cb, rfl, hSb⟩ := hOb.sv
  have B4 := Lib.hid (B3.out.trans (hOb.2.mono B3.out.size))
  have SA4 := Lib.hid (SA.out.below hOb.2)
  have SB := Lib.hid hSb
  have hbdb := hSb.bound
  clear hOb hSb B3 HAb SA
  have HWB : Hid (∀ x ∈ (wordsOf b.data.toList).1, x.at_ ≤ 500 ∧ x.nx ≤ 500) := fun x hx => by
   have h1 := wordsF_in (l := b.data.toList) _ _ (Nat.zero_le _) x hx
   have := HSb.out; have := ba_len b
   omega
  generalize hwb : (wordsOf b.data.toList).1 = wb at *
  clear hwb hqb
  generalize hnb : wb.length = m at *
  have HNB := Lib.hid hnb; clear hnb
  go_wp2_with fail
  refine (HAc.out _).mono ?_
  intro e w5 hPc
  unfold AllP at hPc
  rw [HJ.out] at hPc
  obtain ⟨v, rfl, hOc⟩ := hPc
  obtain ⟨co, cc, rfl, hSc⟩ := hOc.sv
  have hlc : (wa.dropLast ++ wb.map (Wd.far (a.data.toList.length + g.data.toList.length))).length = n - 1 + m := by have := HNA.out; have := HNB.out; simp; omega
  have B5 := Lib.hid (B4.out.trans (hOc.2.mono B4.out.size))
  have SA5 := Lib.hid (SA4.out.below hOc.2)
  have SB5 := Lib.hid (SB.out.below hOc.2)
  rw [hlc] at hSc
  have SC5 := Lib.hid hSc
  have hbdc := hSc.bound
  simp only [hlc]
  have HLC := Lib.hid hlc
  clear hlc hOc hSc B4 HAc HJ SA4 SB
  have HLA := Lib.hid (ba_len a); have HLG := Lib.hid (ba_len g)
  obtain ⟨n1, rfl⟩ : ∃ n1, n = n1 + 1 := ⟨n - 1, by omega⟩
  simp only [Nat.add_sub_cancel] at *
  have HC1 : Hid (∀ j, j < n1 → (wa.dropLast ++ wb.map (Wd.far (a.data.toList.length + g.data.toList.length)))[j]? = wa[j]?) := fun j hj => by
   have := HNA.out
   rw [List.getElem?_append_left (by simp; omega), List.dropLast_eq_take, List.getElem?_take, if_pos (by omega)]
  have HC2 : Hid (∀ j, (wa.dropLast ++ wb.map (Wd.far (a.data.toList.length + g.data.toList.length)))[n1 + j]? = (wb[j]?).map (Wd.far (a.size + g.size))) := fun j => by
   have := HNA.out
   rw [List.getElem?_append_right (by simp; omega), List.getElem?_map, HLA.out, HLG.out]
   congr 2
   simp; omega
  generalize wa.dropLast ++ wb.map (Wd.far (a.data.toList.length + g.data.toList.length)) = wc at *
  clear HG
  have hb2 : ((n1 : Int) + m != (n1 : Int) + 1 + m - 1) = false := by simp; omega
  go_wp2_with fail
  go_loopw [18] (fun i wr => ∃ j : Nat, j ≤ n1 + m ∧ i = .int .i64 j ∧ Hid (Sv wr ao (n1 + 1) ca 9 (wa.flatMap fun x => (wdD x).toList) ∧ Sv wr bo m cb 9 (wb.flatMap fun x => (wdD x).toList) ∧ Sv wr co (n1 + m) cc 9 (wc.flatMap fun x => (wdD x).toList) ∧ Below w.heap.size w wr)) (fun i _ => n1 + m - (intOf i).toNat)
  case atStart => exact ⟨0, Nat.zero_le _, by go_num, SA5.out, SB5.out, SC5.out, B5.out⟩
  case round =>
   clear SA5 SB5 SC5 B5
   obtain ⟨j, hj, rfl, HI⟩ := hrel
   by_cases hlt : j < n1 + m
   ·have hltI : (j : Int) < n1 + m := by omega
    have hj0 : (0 : Int) ≤ j := by omega
    have hjc : j < wc.length := by rw [HLC.out]; exact hlt
    obtain ⟨c, hc, hcc⟩ := Sv.at wdD_len HI.out.2.2.1 (by decide) j hjc
    by_cases hfst : j < n1
    ·have hfI : (j : Int) < n1 := by omega
     have hja : j < wa.length := by rw [HNA.out]; omega
     obtain ⟨ad, ha, haa⟩ := Sv.at wdD_len HI.out.1 (by decide) j hja
     obtain ⟨d, hd⟩ : ∃ d, wa[j] = d := ⟨_, rfl⟩
     have he : wc[j] = d := by
      have := HC1.out j hfst
      rw [List.getElem?_eq_getElem hjc, List.getElem?_eq_getElem hja, Option.some.injEq] at this
      rw [this, hd]
     rw [he] at hcc
     rw [hd] at haa
     subst hc ha
     have HCc := Lib.hid (show ∀ j_1 v, (#[.int .i64 d.kind, .int .i64 d.at_, .int .i64 d.nx, .string (tx d.tx), .int .i64 d.lv, .int .u64 (clsW d.cl 0), .int .u64 (clsW d.cl 1), .int .u64 (clsW d.cl 2), .int .u64 (clsW d.cl 3)] : Array Value).toList[j_1]? = some v → _ from hcc)
     have HCa := Lib.hid haa
     have HS := Lib.hid HI.out
     clear hcc haa he hd HI hja hjc hlt hfst
     go_wp2_with (refine wpList_load_part rfl 33 (.tmp 97) rfl (c.add (j * 9)) rfl #[.int .i64 d.kind, .int .i64 d.at_, .int .i64 d.nx, .string (tx d.tx), .int .i64 d.lv, .int .u64 (clsW d.cl 0), .int .u64 (clsW d.cl 1), .int .u64 (clsW d.cl 2), .int .u64 (clsW d.cl 3)] _ HCc.out Tryd.underlying33 rfl wd_sz9 ?_)
     have HR := Lib.hid (hrow.new wr #[.int .i64 d.kind, .int .i64 d.at_, .int .i64 d.nx, .string (tx d.tx), .int .i64 d.lv, .int .u64 (clsW d.cl 0), .int .u64 (clsW d.cl 1), .int .u64 (clsW d.cl 2), .int .u64 (clsW d.cl 3)] 33)
     have hbl := (Below.refl _ wr).alloc (Nat.le_refl _) (.cells #[.int .i64 d.kind, .int .i64 d.at_, .int .i64 d.nx, .string (tx d.tx), .int .i64 d.lv, .int .u64 (clsW d.cl 0), .int .u64 (clsW d.cl 1), .int .u64 (clsW d.cl 2), .int .u64 (clsW d.cl 3)] 33)
     have HT := Lib.hid hbl
     have HS4 := Lib.hid (⟨HS.out.1.below hbl, HS.out.2.1.below hbl, HS.out.2.2.1.below hbl, HS.out.2.2.2.alloc HS.out.2.2.2.size (.cells #[.int .i64 d.kind, .int .i64 d.at_, .int .i64 d.nx, .string (tx d.tx), .int .i64 d.lv, .int .u64 (clsW d.cl 0), .int .u64 (clsW d.cl 1), .int .u64 (clsW d.cl 2), .int .u64 (clsW d.cl 3)] 33)⟩ : _ ∧ _ ∧ _ ∧ _)
     have HCb : Hid (∀ j_1 v, (wdD d).toList[j_1]? = some v → (wr.alloc (.cells #[.int .i64 d.kind, .int .i64 d.at_, .int .i64 d.nx, .string (tx d.tx), .int .i64 d.lv, .int .u64 (clsW d.cl 0), .int .u64 (clsW d.cl 1), .int .u64 (clsW d.cl 2), .int .u64 (clsW d.cl 3)] 33)).cell? ((ad.add (j * 9)).add j_1) = some v) := fun i v h => (hbl.cell (World.block_lt_of_cell? wr _ (HCa.out i v h))).trans (HCa.out i v h)
     clear HS HCc HCa hbl HT
     generalize wr.alloc (.cells #[.int .i64 d.kind, .int .i64 d.at_, .int .i64 d.nx, .string (tx d.tx), .int .i64 d.lv, .int .u64 (clsW d.cl 0), .int .u64 (clsW d.cl 1), .int .u64 (clsW d.cl 2), .int .u64 (clsW d.cl 3)] 33) = wx at *
     generalize wr.heap.size = gg at *
     have hwe := wd_eq
     have HP1 := Lib.hid (later_all (part_later (show ∀ j_1 v, (#[.int .i64 d.kind, .int .i64 d.at_, .int .i64 d.nx, .string (tx d.tx), .int .i64 d.lv, .int .u64 (clsW d.cl 0), .int .u64 (clsW d.cl 1), .int .u64 (clsW d.cl 2), .int .u64 (clsW d.cl 3)] : Array Value).toList[j_1]? = some v → _ from HCb.out)).1)
     obtain ⟨q0, q1, q2, q3, q4, q5, q6, q7, q8⟩ := block_later HR.out
     go_wp2_with fail
     refine wp_region_later (by kernel_rfl) (by kernel_rfl) ?_
     repeat (first | go_big_quiet_step (fail) | (refine wpQuiet_load_part rfl 33 (.tmp 107) rfl (ad.add (j * 9)) rfl _ HP1.out ?_; simp only [Act.put, List.setIfInBounds_toArray, List.set_cons_succ, List.set_cons_zero]))
     refine wpQuiet_nil ?_
     intro w5 hw5
     obtain ⟨x, rfl⟩ := hw5
     have HS5 := Lib.hid (⟨HS4.out.1.below x.ok, HS4.out.2.1.below x.ok, HS4.out.2.2.1.below x.ok, HS4.out.2.2.2.trans (x.ok.mono HS4.out.2.2.2.size)⟩ : _ ∧ _ ∧ _ ∧ _)
     clear HS4 HP1 q0 q1 q2 q3 q4 q5 q6 q7 q8 hwe
     generalize x.val = wy at *
     clear x
     go_wp2_with fail
     go_roundw
     case rel => exact ⟨j + 1, by omega, by go_num, HS5.out⟩
     case measure => simp [intOf]; omega
    ·have hfI : ¬ (j : Int) < n1 := by omega
     obtain ⟨k, rfl⟩ : ∃ k, j = n1 + k := ⟨j - n1, by omega⟩
     have hkm : k < m := by omega
     have hkmI : (k : Int) < m := by omega
     have hk0 : (0 : Int) ≤ k := by omega
     have hjb : k < wb.length := by rw [HNB.out]; exact hkm
     obtain ⟨bd, hb, hbb⟩ := Sv.at wdD_len HI.out.2.1 (by decide) k hjb
     obtain ⟨d, hd⟩ : ∃ d, wb[k] = d := ⟨_, rfl⟩
     have he : wc[n1 + k] = d.far (a.size + g.size) := by
      have := HC2.out k
      rw [List.getElem?_eq_getElem hjc, List.getElem?_eq_getElem hjb, Option.map_some, Option.some.injEq] at this
      rw [this, hd]
     rw [he] at hcc
     rw [hd] at hbb
     subst hc hb
     have hcast1 : (((d.far (a.size + g.size)).at_ : Nat) : Int) - ((a.size : Int) + g.size) = d.at_ := by show ((a.size + g.size + d.at_ : Nat) : Int) - _ = _; omega
     have hcast2 : (((d.far (a.size + g.size)).nx : Nat) : Int) - ((a.size : Int) + g.size) = d.nx := by show ((a.size + g.size + d.nx : Nat) : Int) - _ = _; omega
     have hdb := HWB.out d (by rw [← hd]; exact List.getElem_mem hjb)
     have hb1 : 0 ≤ (((d.far (a.size + g.size)).at_ : Nat) : Int) := by omega
     have hb2' : 0 ≤ (((d.far (a.size + g.size)).nx : Nat) : Int) := by omega
     have HCc : Hid (∀ j_1 v, (#[.int .i64 d.kind, .int .i64 ((d.far (a.size + g.size)).at_ : Nat), .int .i64 ((d.far (a.size + g.size)).nx : Nat), .string (tx d.tx), .int .i64 d.lv, .int .u64 (clsW d.cl 0), .int .u64 (clsW d.cl 1), .int .u64 (clsW d.cl 2), .int .u64 (clsW d.cl 3)] : Array Value).toList[j_1]? = some v → wr.cell? ((c.add ((n1 + k) * 9)).add j_1) = some v) := hcc
     have HCb := Lib.hid hbb
     have HS := Lib.hid HI.out
     have HKM := Lib.hid hkm
     clear hcc hbb he hd HI hjc hlt hfst hjb hkm
     generalize (((d.far (a.size + g.size)).at_ : Nat) : Int) = X1 at *
     generalize (((d.far (a.size + g.size)).nx : Nat) : Int) = Y1 at *
     have hX1 : X1 ≤ 2000 := by omega
     have hY1 : Y1 ≤ 2000 := by omega
     have HCe : Hid (∀ j_1 v, (#[.int .i64 d.kind, .int .i64 d.at_, .int .i64 d.nx, .string (tx d.tx), .int .i64 d.lv, .int .u64 (clsW d.cl 0), .int .u64 (clsW d.cl 1), .int .u64 (clsW d.cl 2), .int .u64 (clsW d.cl 3)] : Array Value).toList[j_1]? = some v → wr.cell? ((bd.add (k * 9)).add j_1) = some v) := HCb.out
     clear HCb hdb
     generalize (d.at_ : Int) = XA at *
     generalize (d.nx : Int) = XN at *
     have hix : ((n1 + k : Nat) : Int) - (n1 + 1) + 1 = k := by omega
     have HJ : Hid (n1 + k < n1 + m) := by unfold Hid; omega
     generalize n1 + k = j at *
     go_wp2_with (refine wpList_load_part rfl 33 (.tmp 97) rfl (c.add (j * 9)) rfl #[.int .i64 d.kind, .int .i64 X1, .int .i64 Y1, .string (tx d.tx), .int .i64 d.lv, .int .u64 (clsW d.cl 0), .int .u64 (clsW d.cl 1), .int .u64 (clsW d.cl 2), .int .u64 (clsW d.cl 3)] _ HCc.out Tryd.underlying33 rfl wd_sz9 ?_)
     have HR := Lib.hid (hrow.new wr #[.int .i64 d.kind, .int .i64 XA, .int .i64 XN, .string (tx d.tx), .int .i64 d.lv, .int .u64 (clsW d.cl 0), .int .u64 (clsW d.cl 1), .int .u64 (clsW d.cl 2), .int .u64 (clsW d.cl 3)] 33)
     have hbl := (Below.refl _ wr).alloc (Nat.le_refl _) (.cells #[.int .i64 d.kind, .int .i64 XA, .int .i64 XN, .string (tx d.tx), .int .i64 d.lv, .int .u64 (clsW d.cl 0), .int .u64 (clsW d.cl 1), .int .u64 (clsW d.cl 2), .int .u64 (clsW d.cl 3)] 33)
     have HS4 := Lib.hid (⟨HS.out.1.below hbl, HS.out.2.1.below hbl, HS.out.2.2.1.below hbl, HS.out.2.2.2.alloc HS.out.2.2.2.size (.cells #[.int .i64 d.kind, .int .i64 XA, .int .i64 XN, .string (tx d.tx), .int .i64 d.lv, .int .u64 (clsW d.cl 0), .int .u64 (clsW d.cl 1), .int .u64 (clsW d.cl 2), .int .u64 (clsW d.cl 3)] 33)⟩ : _ ∧ _ ∧ _ ∧ _)
     have HCf : Hid (∀ j_1 v, (#[.int .i64 d.kind, .int .i64 XA, .int .i64 XN, .string (tx d.tx), .int .i64 d.lv, .int .u64 (clsW d.cl 0), .int .u64 (clsW d.cl 1), .int .u64 (clsW d.cl 2), .int .u64 (clsW d.cl 3)] : Array Value).toList[j_1]? = some v → (wr.alloc (.cells #[.int .i64 d.kind, .int .i64 XA, .int .i64 XN, .string (tx d.tx), .int .i64 d.lv, .int .u64 (clsW d.cl 0), .int .u64 (clsW d.cl 1), .int .u64 (clsW d.cl 2), .int .u64 (clsW d.cl 3)] 33)).cell? ((bd.add (k * 9)).add j_1) = some v) := fun i v h => (hbl.cell (World.block_lt_of_cell? wr _ (HCe.out i v h))).trans (HCe.out i v h)
     clear HS HCc HCe hbl hcast1 hcast2 hX1 hY1 hb1 hb2'
     generalize wr.alloc (.cells #[.int .i64 d.kind, .int .i64 XA, .int .i64 XN, .string (tx d.tx), .int .i64 d.lv, .int .u64 (clsW d.cl 0), .int .u64 (clsW d.cl 1), .int .u64 (clsW d.cl 2), .int .u64 (clsW d.cl 3)] 33) = wx at *
     generalize wr.heap.size = gg at *
     have hwe := wd_eq
     have HP1 := Lib.hid (later_all (part_later HCf.out).1)
     obtain ⟨q0, q1, q2, q3, q4, q5, q6, q7, q8⟩ := block_later HR.out
     clear HCf HR
     refine wp_region_later (by kernel_rfl) (by kernel_rfl) ?_
     repeat (first | go_big_quiet_step (fail) | (refine wpQuiet_load_part rfl 33 (.tmp 127) rfl (bd.add (k * 9)) rfl _ HP1.out ?_; simp only [Act.put, List.setIfInBounds_toArray, List.set_cons_succ, List.set_cons_zero]))
     refine wpQuiet_nil ?_
     intro w5 hw5
     obtain ⟨x, rfl⟩ := hw5
     have HS5 := Lib.hid (⟨HS4.out.1.below x.ok, HS4.out.2.1.below x.ok, HS4.out.2.2.1.below x.ok, HS4.out.2.2.2.trans (x.ok.mono HS4.out.2.2.2.size)⟩ : _ ∧ _ ∧ _ ∧ _)
     clear HS4 HP1 q0 q1 q2 q3 q4 q5 q6 q7 q8 hwe
     generalize x.val = wy at *
     clear x
     go_wp2_with fail
     go_roundw
     case rel => exact ⟨j + 1, HJ.out, by go_num, HS5.out⟩
     case measure => have := HJ.out; simp [intOf]; omega
   ·have hltI : ¬ (j : Int) < n1 + m := by omega
    have B9 := Lib.hid HI.out.2.2.2
    go_wp2_with fail
    go_ret
    exact ⟨rfl, B9.out⟩
end Go.Proofs.YtnfkcdnkmcifbaaDoor
