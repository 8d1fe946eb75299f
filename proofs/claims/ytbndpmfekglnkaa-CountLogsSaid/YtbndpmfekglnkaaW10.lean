/- Walks: the log's count. -/
import Derived.Test.YtbndpmfekglnkaaW9
import Derived.Deep.CutBlock
namespace Go.Proofs.Ytbndpmfekglnkaa
open Go.RowKit

theorem check_pos {m : Mt} {e : Int} (h : m.check e = 0) (he : e = 2 ∨ e = 3 ∨ e = 8) : ∃ l f, m.opn = l ++ [f] := by
  rcases List.eq_nil_or_concat m.opn with ho | ⟨l, f, ho⟩
  · exfalso
    have hn : m.now = 0 := by simp [Mt.now, ho]
    rcases he with rfl | rfl | rfl <;> simp [Mt.check, hn, mayM] at h
  · exact ⟨l, f, by rw [ho, List.concat_eq_append]⟩

theorem LogAt.mko {w : World} {p : Nat} {m m' : Mt} {tr : List Int} {ov ov' tv : Value} (hb : w.heap[p]? = some (.cells (m.cells ov (.bool true) tv) 55 (0, 0)))
    (hv : (m.cells ov (.bool true) tv).setIfInBounds 12 ov' = m'.cells ov' (.bool true) tv) (ho : w.ownsRow 0 66 2 ov' m'.opn.length (flat m'.opn)) (ht : w.ownsRow 0 36 1 tv tr.length (tr.map (.int .i64))) :
    LogAt (w.setCell ⟨p, 12, none⟩ ov') p m' tr ov' tv := by
  have hf := Fr.setCell w ⟨p, 12, none⟩ ov'
  refine ⟨?_, ?_, ?_⟩
  · rw [heap_setCell_same _ _ _ _ _ _ hb, hv]
  · exact owns_fr ho hf (fun k hk he => owns_ne ho hb (by decide) (by rw [hk, he]))
  · exact owns_fr ht hf (fun k hk he => owns_ne ht hb (by decide) (by rw [hk, he]))

theorem flat_set (l : List (Int × Int)) (f : Int × Int) (a b : Int) : (flat (l ++ [f])).set (l.length * 2) (.int .i64 a) = flat (l ++ [(a, f.2)]) ∧ (flat (l ++ [f])).set (l.length * 2 + 1) (.int .i64 b) = flat (l ++ [(f.1, b)]) := by
  simp only [flat_append, flat_one, ← flat_len]
  constructor <;> simp

/-- The last frame's cells. -/
theorem LogAt.last {w : World} {p : Nat} {m : Mt} {tr : List Int} {ao : Option Addr} {n cap : Nat} {tv : Value} (h : LogAt w p m tr (.slice ao n cap) tv) {l : List (Int × Int)} {f : Int × Int} (ho : m.opn = l ++ [f]) :
    ∃ g, ao = some ⟨g, 0, none⟩ ∧ n = l.length + 1 ∧ n ≤ cap ∧ g ≠ p ∧ w.cell? ⟨g, l.length * 2, none⟩ = some (.int .i64 f.1) ∧ w.cell? ⟨g, l.length * 2 + 1, none⟩ = some (.int .i64 f.2) ∧ (∀ o, w.frozen? ⟨g, o, none⟩ = false) ∧
      w.ownsRow 0 66 2 (.slice (some ⟨g, 0, none⟩) (l.length + 1) cap) (l.length + 1) (flat (l ++ [f])) := by
  have hown := h.own
  rw [ho] at hown
  have hne := owns_ne h.own h.blk (by decide)
  obtain ⟨g, c, hv, _, _⟩ := World.ownsRow.form hown (by simp)
  simp only [Value.slice.injEq] at hv
  obtain ⟨rfl, hn, rfl⟩ := hv
  have hn' : n = l.length + 1 := by simpa using hn
  subst hn'
  have hl : (l ++ [f]).length = l.length + 1 := by simp
  rw [hl] at hown
  refine ⟨g, rfl, rfl, ?_, fun e => hne (by simp [Value.ownBlock, e]), ?_, ?_, fun o => hown.frozenAt o, hown⟩
  · rcases hown.2 with ⟨h1, _⟩ | ⟨g', cap', cur, h1, _, _, h4, _⟩
    · cases h1
    · cases h1; exact h4
  · rw [hown.cellAt _ (by omega)]; exact (flat_last l f).1
  · rw [hown.cellAt _ (by omega)]; exact (flat_last l f).2

theorem LogAt.setl {w : World} {p : Nat} {m m' : Mt} {tr : List Int} {g cap k : Nat} {tv : Value} (h : LogAt w p m tr (.slice (some ⟨g, 0, none⟩) k cap) tv) {l : List (Int × Int)} {f f' : Int × Int} (ho : m.opn = l ++ [f]) (hk : k = l.length + 1) (o : Nat) (u : Value)
    (hs : (flat (l ++ [f])).set o u = flat (l ++ [f'])) (hm : m'.cells (.slice (some ⟨g, 0, none⟩) k cap) (.bool true) tv = m.cells (.slice (some ⟨g, 0, none⟩) k cap) (.bool true) tv) (ho' : m'.opn = l ++ [f']) :
    LogAt (w.setCell ⟨g, o, none⟩ u) p m' tr (.slice (some ⟨g, 0, none⟩) k cap) tv := by
  subst hk
  have hne := owns_ne h.own h.blk (by decide)
  have hown := h.own
  rw [ho] at hown
  have hf := Fr.setCell w ⟨g, o, none⟩ u
  have hl : (l ++ [f]).length = l.length + 1 := by simp
  have hl' : (l ++ [f']).length = l.length + 1 := by simp
  rw [hl] at hown
  refine ⟨?_, ?_, ?_⟩
  · rw [hm]; exact (hf.block p h.lt (fun e => hne (by simp [Value.ownBlock, e]))).trans h.blk
  · rw [ho', hl', ← hs]; exact (hown.stored o u).1
  · exact owns_fr h.trc hf (fun k hk he => owns_apart h.own h.trc (by decide) k (by simp [Value.ownBlock, he]) hk)

theorem turn2 {m : Mt} {l : List (Int × Int)} {f : Int × Int} (h : m.opn = l ++ [f]) : m.turn 2 = { m with opn := l ++ [(2, f.2 + 1)], ms := max m.ms (f.2 + 1) } := by simp [Mt.turn, h]
theorem turn3 {m : Mt} {l : List (Int × Int)} {f : Int × Int} (h : m.opn = l ++ [f]) : m.turn 3 = { m with opn := l ++ [(3, f.2)] } := by simp [Mt.turn, h]
theorem turn8 {m : Mt} {l : List (Int × Int)} {f : Int × Int} (h : m.opn = l ++ [f]) : m.turn 8 = { m with opn := l } := by simp [Mt.turn, h]

theorem two_new (w : World) (a b : Value) (t : TypeId) : ∀ j u, ([a, b] : List Value)[j]? = some u → (w.alloc (.cells #[a, b] t)).cell? ((⟨w.heap.size, 0, none⟩ : Addr).add j) = some u := by
  intro j u hj
  match j, hj with
  | 0, hj => simp at hj; subst hj; simp [Addr.add]
  | 1, hj => simp at hj; subst hj; simp [Addr.add]

theorem Try.info66 : (Try.prog.info? 66).map (fun i => (i.zero, i.size, i.bytes)) = some (some (.agg #[.int .i64 0, .int .i64 0]), 2, 16) := by kernel_rfl

theorem max_if2 (p t : Int) : (if p < t then t else p) = max p t := by rw [Int.max_def]; split <;> split <;> omega

def CountPost (w : World) (p : Nat) (m' : Mt) (tr : List Int) (ov tv : Value) (w' : World) : Prop :=
  ∃ ov', LogAt w' p m' tr ov' tv ∧ Fr (fun k => k = p ∨ ov.ownBlock = some k) w w' ∧ (∀ k, ov'.ownBlock = some k → ov.ownBlock = some k ∨ w.heap.size ≤ k)

set_option maxRecDepth 100000 in
set_option maxHeartbeats 2000000 in
theorem count_any (w : World) (p : Nat) (m : Mt) (tr : List Int) (ov tv : Value) (n : Nat) (h : LogAt w p m tr ov tv) (hk : m.ok n) (hn : n ≤ 900000) (e : Nat) (he1 : 1 ≤ e) (he8 : e ≤ 8) (hch : m.check e = 0) :
    Calls Try.prog 32 #[.pointer (some ⟨p, 0, none⟩), .int .i64 e] w fun r w' => r = .returned (.tuple #[]) ∧ CountPost w p (m.count e) tr ov tv w' := by
  have hc : ∀ x : Later w, x.val.cell? ⟨p, e, none⟩ = some (.int .i64 (m.nth e)) := fun x => ((h.later x.ok).cell e).trans (m.nth_cell e he1 he8 _ _ _)
  have hf : ∀ x : Later w, x.val.frozen? ⟨p, e, none⟩ = false := fun x => (h.later x.ok).frozen e
  have hbd := Mt.nth_bd hk e
  have HL := Lib.hid h
  have HK := Lib.hid hk
  have HC := Lib.hid hch
  clear h hk hch
  go_enter Try.func32, Try.ntmps32
  go_wp2_with fail
  refine wp_region_later_tail 10 (by kernel_rfl) (by kernel_rfl) ?_
  simp only [List.take_succ_cons, List.take_zero, List.drop_succ_cons, List.drop_zero]
  repeat (go_big_quiet_step (fail))
  refine wpQuiet_nil ?_
  intro w2 hw2
  obtain ⟨x, rfl⟩ := hw2
  go_upto_region 1 with (fail)
  have HL1 := Lib.hid ((HL.out.later x.ok).setm e (.int .i64 (m.nth e + 1)) (m' := m.bump e) (m.nth_set e he1 he8 _ _ _) (m.bump_opn e))
  have HF1 := Lib.hid ((Fr.of_below (F := fun k => k = p ∨ ov.ownBlock = some k) x.ok).trans (Fr.setCell x.val ⟨p, e, none⟩ (.int .i64 (m.nth e + 1))) (fun i _ hi => .inl hi))
  revert HL1 HF1
  generalize x.val.setCell ⟨p, e, none⟩ (.int .i64 (m.nth e + 1)) = w3
  intro HL1 HF1
  clear hc hf hbd x
  have hov : ∃ ao cap, ov = .slice ao m.opn.length cap ∧ (m.opn.length ≤ cap ∧ cap ≤ 9223372036854775807) := by
    have := HL.out.own
    rcases this.2 with ⟨h1, h0⟩ | ⟨g, cap, cur, h1, _, _, h2, h3, _⟩
    · exact ⟨none, 0, by rw [h1, h0], by omega, by omega⟩
    · unfold maxLen at h3; exact ⟨_, cap, h1, h2, by omega⟩
  obtain ⟨ao, cap, rfl, hcap⟩ := hov
  have hlen := HK.out.o
  have h12 : w3.cell? ⟨p, 12, none⟩ = some (.slice ao m.opn.length cap) := HL1.out.cell 12
  go_upto_block 0 with (fail)
  go_cut [4] from 5 (fun _ w' => CountPost w p ((m.bump e).turn e) tr (.slice ao m.opn.length cap) tv w')
  case rest =>
    obtain ⟨ov', hl, hfr, hob⟩ := hcut
    have HK2 := Lib.hid ((HK.out.bump e).turn e)
    have hcn : m.count e = ((m.bump e).turn e).tops := rfl
    have HCN := Lib.hid hcn
    clear hcn HL1 HF1 h12 HC
    generalize (m.bump e).turn e = m2 at *
    have HL2 := Lib.hid hl
    have HF2 := Lib.hid hfr
    have HB2 := Lib.hid hob
    clear hl hfr hob
    have hov : ∃ ao cap, ov' = .slice ao m2.opn.length cap := by
      rcases HL2.out.own.2 with ⟨h1, h0⟩ | ⟨g, cap, cur, h1, _⟩
      · exact ⟨none, 0, by rw [h1, h0]⟩
      · exact ⟨_, cap, h1⟩
    obtain ⟨ao', cap', rfl⟩ := hov
    have hpk : ∀ x : Later wc, x.val.cell? ⟨p, 9, none⟩ = some (.int .i64 m2.pk) := fun x => (HL2.out.later x.ok).cell 9
    have hdp : ∀ x : Later wc, x.val.cell? ⟨p, 10, none⟩ = some (.int .i64 m2.dp) := fun x => (HL2.out.later x.ok).cell 10
    have hop : ∀ x : Later wc, x.val.cell? ⟨p, 12, none⟩ = some (.slice ao' m2.opn.length cap') := fun x => (HL2.out.later x.ok).cell 12
    have hf9 : ∀ x : Later wc, x.val.frozen? ⟨p, 9, none⟩ = false := fun x => (HL2.out.later x.ok).frozen 9
    have hf10 : ∀ x : Later wc, x.val.frozen? ⟨p, 10, none⟩ = false := fun x => (HL2.out.later x.ok).frozen 10
    have HLV : Hid (∀ x : Later wc, Calls Try.prog 37 #[.pointer (some ⟨p, 0, none⟩)] x.val fun r w' => r = .returned (.int .i64 m2.live) ∧ Below x.val.heap.size x.val w') := fun x => live_any _ p m2 tr _ tv _ (HL2.out.later x.ok) HK2.out (by omega)
    go_wp2_with fail
    refine wp_region_M (C := fun w' => ∃ x : Later wc, w' = x.val) [0, 1, 2, 3, 4, 5, 6, 7, 8, 9, 10, 11, 12, 13, 14, 15, 16, 17, 18, 19, 20] (by kernel_rfl) ⟨⟨wc.drew, (Below.refl _ _).drew⟩, rfl⟩ ?_
    refine wpM_pure (v := .pointer (some ⟨p, 0, none⟩)) 1 24 (by kernel_rfl) (by kernel_rfl) (by kernel_rfl) (by kernel_rfl) (by kernel_rfl) rfl (fun _ _ _ h => h) rfl (fun _ => rfl) ?_
    simp only [List.getD_cons_zero, List.getD_cons_succ, Act.put, List.setIfInBounds_toArray, List.set_cons_zero, List.set_cons_succ]
    refine wpM_heads [0, 2, 3, 4, 5, 6, 7, 8, 9, 10, 11, 12, 13, 14, 15, 16, 19, 20] 6 (by kernel_rfl) (by kernel_rfl) ?_
    simp only [pickOps, List.getD_cons_zero, List.getD_cons_succ]
    repeat (go_big_quiet_step ((go_at_call 37; exact Calls.later (HLV.out _))))
    refine wpQuiet_nil ?_
    refine wpM_pure (v := .int .i64 m2.opn.length) 17 5 (by kernel_rfl) (by kernel_rfl) (by kernel_rfl) (by kernel_rfl) (by kernel_rfl) rfl (fun _ _ _ h => h) rfl (by intro _; go_simp) ?_
    simp only [List.getD_cons_zero, List.getD_cons_succ, Act.put, List.setIfInBounds_toArray, List.set_cons_zero, List.set_cons_succ]
    refine wpM_pure (v := .int .i64 (max m2.dp m2.opn.length)) 18 4 (by kernel_rfl) (by kernel_rfl) (by kernel_rfl) (by kernel_rfl) (by kernel_rfl) rfl (fun _ _ _ h => h) rfl (by intro _; go_simp; simp [max_if2]) ?_
    simp only [List.getD_cons_zero, List.getD_cons_succ, Act.put, List.setIfInBounds_toArray, List.set_cons_zero, List.set_cons_succ]
    refine wpM_rest (by kernel_rfl) ?_ ⟨_, default, rfl⟩
    intro w5 hw5
    obtain ⟨x, rfl⟩ := hw5
    refine wpAny_tail [21, 22, 23, 24] (by kernel_rfl) (by kernel_rfl) ?_
    simp only [pickOps, List.getD_cons_zero, List.getD_cons_succ, max_if2]
    go_wp2_with fail
    go_end0
    refine ⟨rfl, .slice ao' m2.opn.length cap', ?_, ?_, HB2.out⟩
    · rw [HCN.out]
      exact ((HL2.out.later x.ok).setm 9 (.int .i64 (max m2.pk m2.live)) (m' := { m2 with pk := max m2.pk m2.live }) rfl rfl).setm 10 (.int .i64 (max m2.dp m2.opn.length)) (m' := m2.tops) rfl rfl
    · exact ((HF2.out.trans (Fr.of_below x.ok) (fun _ _ h => h)).trans (Fr.setCell _ _ _) (fun i _ hi => .inl hi)).trans (Fr.setCell _ _ _) (fun i _ hi => .inl hi)
  case first =>
    have h8 : e = 1 ∨ e = 2 ∨ e = 3 ∨ e = 4 ∨ e = 5 ∨ e = 6 ∨ e = 7 ∨ e = 8 := by omega
    clear he1 he8
    have hbo := m.bump_opn e
    rcases h8 with rfl | rfl | rfl | rfl | rfl | rfl | rfl | rfl
    · obtain ⟨i0, hi, hz0, hz1, hz2⟩ := info_parts Try.info66
      have Hi := Lib.hid hi; have Hz0 := Lib.hid hz0; have Hz1 := Lib.hid hz1; have Hz2 := Lib.hid hz2
      clear hi hz0 hz1 hz2
      have HBO := Lib.hid hbo; clear hbo
      have HOw := Lib.hid (HBO.out ▸ HL1.out.own)
      have hp : p < w3.heap.size := HL1.out.lt
      go_wp2_with (first
        | (at_builtin; refine wpList_append_lies _ rfl _ _ 51 rfl 0 66 i0 _ 2 16 Try.underlying51 Hi.out Hz0.out Hz1.out Hz2.out rfl (by decide) _ m.opn.length _ rfl (HOw.out.alloc _) ⟨w3.heap.size, 0, none⟩ 1 1 [_, _] rfl rfl (two_new _ _ _ _) (by simp [Value.oneCell']) (by decide) (by unfold maxLen; omega) (by omega) (Nat.zero_le _) _ rfl ?_; intro g c1 w4 hown hgr hat hlt; have HO4 := Lib.hid hown; have HAT := Lib.hid hat; have HF4 := Lib.hid ((Fr.of_below (F := fun k => Value.ownBlock (.slice ao m.opn.length cap) = some k) ((Below.refl _ _).alloc (Nat.le_refl _) _)).trans (Fr.grown hgr) (fun _ _ h => h)); have HB4 := Lib.hid ((HF4.out.block p hp (owns_ne HL1.out.own HL1.out.blk (by decide))).trans HL1.out.blk); have hc4 : w4.cell? ⟨p, 12, none⟩ = some (.slice ao m.opn.length cap) := (cell_of_row _ p 12 _ _ _ HB4.out); have hf4 : w4.frozen? ⟨p, 12, none⟩ = false := frozen_of_row _ p 12 _ _ HB4.out; clear hown hgr hat))
      go_meet
      case rel =>
        refine ⟨.slice (some ⟨g, 0, none⟩) (m.opn.length + 1) c1, ?_, ?_, ?_⟩
        · refine LogAt.mko HB4.out (m' := (m.bump 1).turn 1) rfl ?_ (owns_fr HL1.out.trc HF4.out (fun k hk he => owns_apart HL1.out.own HL1.out.trc (by decide) k he hk))
          have := HO4.out
          simpa [Mt.turn, Mt.bump_opn, flat_append, flat_one] using this
        · exact (HF1.out.trans HF4.out (fun i _ hi => .inr hi)).trans (Fr.setCell _ _ _) (fun i _ hi => .inl hi)
        · intro k hk
          have hk' : k = g := by simpa [Value.ownBlock] using hk.symm
          subst hk'
          rcases HAT.out with h | h
          · exact .inl h
          · exact .inr (by rw [h]; have := HF1.out.size; simp; omega)
    · obtain ⟨l, f, ho⟩ := check_pos HC.out (by decide)
      have hob : (m.bump 2).opn = l ++ [f] := by rw [Mt.bump_opn]; exact ho
      obtain ⟨g, rfl, hn', hcap', hgp, _⟩ := HL1.out.last hob
      rw [hn'] at hcap' hcap h12 hlen
      simp only [hn']
      have HN := Lib.hid hn'
      have HO := Lib.hid ho
      have HOB := Lib.hid hob
      clear ho hob hbo
      rw [hn'] at HL1 HF1 HL
      clear hn'
      have hA : ∀ x : Later w3, x.val.cell? ⟨p, 12, none⟩ = some (.slice (some ⟨g, 0, none⟩) (l.length + 1) cap) := fun x => (HL1.out.later x.ok).cell 12
      have hB : ∀ x : Later w3, x.val.cell? ⟨g, l.length * 2, none⟩ = some (.int .i64 f.1) := fun x => by
        obtain ⟨g', h1, _, _, _, h2, _⟩ := (HL1.out.later x.ok).last HOB.out
        cases h1; exact h2
      have hC : ∀ x : Later w3, x.val.cell? ⟨g, l.length * 2 + 1, none⟩ = some (.int .i64 f.2) := fun x => by
        obtain ⟨g', h1, _, _, _, _, h2, _⟩ := (HL1.out.later x.ok).last HOB.out
        cases h1; exact h2
      have hD : ∀ (x : Later w3) o, x.val.frozen? ⟨g, o, none⟩ = false := fun x => by
        obtain ⟨g', h1, _, _, _, _, _, h2, _⟩ := (HL1.out.later x.ok).last HOB.out
        cases h1; exact h2
      have hf2 : 0 ≤ f.2 ∧ f.2 ≤ n := by have := HK.out.f f (by rw [HO.out]; simp); omega
      have e1 : ((l.length : Int) + 1 - 1) = (l.length : Int) := by omega
      go_wp2_with fail
      refine wp_region_later_tail 16 (by kernel_rfl) (by kernel_rfl) ?_
      simp only [List.take_succ_cons, List.take_zero, List.drop_succ_cons, List.drop_zero]
      repeat (go_big_quiet_step (fail))
      refine wpQuiet_nil ?_
      intro w4 hw4
      obtain ⟨x, rfl⟩ := hw4
      go_upto_region 7 with (fail)
      have HL4 := Lib.hid (((HL1.out.later x.ok).setl HOB.out rfl (l.length * 2) (.int .i64 2) (m' := { m.bump 2 with opn := l ++ [(2, f.2)] }) (f' := (2, f.2)) (flat_set l f 2 0).1 rfl rfl).setl rfl rfl (l.length * 2 + 1) (.int .i64 (f.2 + 1)) (m' := { m.bump 2 with opn := l ++ [(2, f.2 + 1)] }) (f' := (2, f.2 + 1)) (flat_set l (2, f.2) 0 (f.2 + 1)).2 rfl rfl)
      have HF4 := Lib.hid (((HF1.out.trans (Fr.of_below x.ok) (fun _ _ h => h)).trans (Fr.setCell x.val ⟨g, l.length * 2, none⟩ (.int .i64 2)) (fun i _ hi => .inr (by simp [Value.ownBlock, hi]))).trans (Fr.setCell _ ⟨g, l.length * 2 + 1, none⟩ (.int .i64 (f.2 + 1))) (fun i _ hi => .inr (by simp [Value.ownBlock, hi])))
      revert HL4 HF4
      clear hA hB hC hD
      generalize (x.val.setCell ⟨g, l.length * 2, none⟩ (.int .i64 2)).setCell ⟨g, l.length * 2 + 1, none⟩ (.int .i64 (f.2 + 1)) = w4
      intro HL4 HF4
      have hA : ∀ x : Later w4, x.val.cell? ⟨p, 12, none⟩ = some (.slice (some ⟨g, 0, none⟩) (l.length + 1) cap) := fun x => (HL4.out.later x.ok).cell 12
      have hB : ∀ x : Later w4, x.val.cell? ⟨p, 11, none⟩ = some (.int .i64 (m.bump 2).ms) := fun x => (HL4.out.later x.ok).cell 11
      have hD : ∀ x : Later w4, x.val.frozen? ⟨p, 11, none⟩ = false := fun x => (HL4.out.later x.ok).frozen 11
      have hC : ∀ x : Later w4, x.val.cell? ⟨g, l.length * 2 + 1, none⟩ = some (.int .i64 (f.2 + 1)) := fun x => by
        obtain ⟨g', h1, _, _, _, _, h2, _⟩ := (HL4.out.later x.ok).last (l := l) (f := (2, f.2 + 1)) rfl
        cases h1; exact h2
      clear x
      refine wp_region_later_tail 16 (by kernel_rfl) (by kernel_rfl) ?_
      simp only [List.take_succ_cons, List.take_zero, List.drop_succ_cons, List.drop_zero]
      repeat (go_big_quiet_step (fail))
      refine wpQuiet_nil ?_
      intro w5 hw5
      obtain ⟨x, rfl⟩ := hw5
      simp only [max_if2]
      go_wp2_with fail
      go_meet
      case rel =>
        refine ⟨.slice (some ⟨g, 0, none⟩) (l.length + 1) cap, ?_, (HF4.out.trans (Fr.of_below x.ok) (fun _ _ h => h)).trans (Fr.setCell _ _ _) (fun i _ hi => .inl hi), fun k hk => .inl (by simpa [Value.ownBlock] using hk)⟩
        show LogAt _ p ((m.bump 2).turn 2) tr _ tv
        rw [turn2 HOB.out]
        exact (HL4.out.later x.ok).setm 11 (.int .i64 (max (m.bump 2).ms (f.2 + 1))) rfl rfl
    · obtain ⟨l, f, ho⟩ := check_pos HC.out (by decide)
      have hob : (m.bump 3).opn = l ++ [f] := by rw [Mt.bump_opn]; exact ho
      obtain ⟨g, rfl, hn', hcap', hgp, hB, _, hD, _⟩ := HL1.out.last hob
      rw [hn'] at hcap' hcap h12 hlen
      simp only [hn']
      have HOB := Lib.hid hob
      clear ho hob hbo
      rw [hn'] at HL1 HF1 HL
      clear hn'
      have e1 : ((l.length : Int) + 1 - 1) = (l.length : Int) := by omega
      go_wp2_with fail
      go_meet
      case rel =>
        refine ⟨.slice (some ⟨g, 0, none⟩) (l.length + 1) cap, ?_, HF1.out.trans (Fr.setCell w3 ⟨g, l.length * 2, none⟩ (.int .i64 3)) (fun i _ hi => .inr (by simp [Value.ownBlock, hi])), fun k hk => .inl (by simpa [Value.ownBlock] using hk)⟩
        show LogAt _ p ((m.bump 3).turn 3) tr _ tv
        rw [turn3 HOB.out]
        exact HL1.out.setl HOB.out rfl (l.length * 2) (.int .i64 3) (f' := (3, f.2)) (flat_set l f 3 0).1 rfl rfl
    · go_wp2_with fail
      go_meet
      case rel => exact ⟨_, HL1.out, HF1.out, fun k hk => .inl hk⟩
    · go_wp2_with fail
      go_meet
      case rel => exact ⟨_, HL1.out, HF1.out, fun k hk => .inl hk⟩
    · go_wp2_with fail
      go_meet
      case rel => exact ⟨_, HL1.out, HF1.out, fun k hk => .inl hk⟩
    · go_wp2_with fail
      go_meet
      case rel => exact ⟨_, HL1.out, HF1.out, fun k hk => .inl hk⟩
    · obtain ⟨l, f, ho⟩ := check_pos HC.out (by decide)
      have hob : (m.bump 8).opn = l ++ [f] := by rw [Mt.bump_opn]; exact ho
      obtain ⟨g, rfl, hn', hcap', hgp, hB, _, hD, hown⟩ := HL1.out.last hob
      rw [hn'] at hcap' hcap h12 hlen
      simp only [hn']
      have HOB := Lib.hid hob
      have HOW := Lib.hid hown
      clear ho hob hbo hown
      rw [hn'] at HL1 HF1 HL
      clear hn' hB hD
      have e1 : ((l.length : Int) + 1 - 1) = (l.length : Int) := by omega
      have hfz : w3.frozen? ⟨p, 12, none⟩ = false := HL1.out.frozen 12
      go_wp2_with fail
      go_meet
      case rel =>
        refine ⟨.slice (some ⟨g, 0, none⟩) l.length cap, ?_, HF1.out.trans (Fr.setCell _ _ _) (fun i _ hi => .inl hi), fun k hk => .inl (by simpa [Value.ownBlock] using hk)⟩
        show LogAt _ p ((m.bump 8).turn 8) tr _ tv
        rw [turn8 HOB.out]
        refine LogAt.mko HL1.out.blk rfl (ownsRow_pop (last := flat [f]) (flat_len l) ?_) HL1.out.trc
        rw [← flat_append]; exact HOW.out
end Go.Proofs.Ytbndpmfekglnkaa
