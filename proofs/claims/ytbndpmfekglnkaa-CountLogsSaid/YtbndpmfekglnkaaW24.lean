/- Walks: a log's copy. -/
import Derived.Test.YtbndpmfekglnkaaW23
namespace Go.Proofs.Ytbndpmfekglnkaa
open Go.RowKit

theorem Try.info51e : (Try.prog.info? 66).map (fun i => (i.zero, i.size, i.bytes)) = some (some (.agg #[.int .i64 0, .int .i64 0]), 2, 16) := by kernel_rfl

theorem flat_one' (l : List (Int × Int)) : ∀ u ∈ flat l, u.oneCell' = true := by
  intro u hu
  simp only [flat, List.mem_flatMap] at hu
  obtain ⟨f, _, h⟩ := hu
  simp at h
  rcases h with rfl | rfl <;> rfl

/-- A clone of a list of frames: a row of the call's own. -/
theorem cloneF_any (v : Value) (fr : List (Int × Int)) (w : World) (h : w.ownsRow 0 66 2 v fr.length (flat fr)) (hbig : fr.length ≤ 1000000) :
    Calls Try.prog 34 #[v] w fun r w' => ∃ u, r = .returned u ∧ w'.ownsRow w.heap.size 66 2 u fr.length (flat fr) ∧ Below w.heap.size w w' := by
  rcases h.2 with ⟨rfl, h0⟩ | ⟨g, cap, cur, rfl, hrest⟩
  · have ht : fr = [] := List.eq_nil_of_length_eq_zero h0
    subst ht
    have hq : ∀ (w : World) (n c : Nat), (binOp .eql 51 (.slice none n c) (.slice none 0 0)).run Try.prog w = .ok (.bool true) w := fun w n c => Lib.run_eql_slice_nil (P := Try.prog) w 51 66 none n c 0 0 Try.underlying51
    clear h
    go_enter Try.func34, Try.ntmps34
    go_wp2
    go_ret
    exact ⟨_, rfl, World.ownsRow_nil _ _ _ _, Below.refl _ _⟩
  · have HO := Lib.hid h
    obtain ⟨i0, hi, hz0, hz1, hz2⟩ := info_parts Try.info51e
    have Hi := Lib.hid hi; have Hz0 := Lib.hid hz0; have Hz1 := Lib.hid hz1; have Hz2 := Lib.hid hz2
    have HF := Lib.hid (flat_one' fr)
    clear hi hz0 hz1 hz2 h hrest
    have hq : ∀ (w : World) (a : Addr) (n c : Nat), (binOp .eql 51 (.slice (some a) n c) (.slice none 0 0)).run Try.prog w = .ok (.bool false) w := fun w a n c => Lib.run_eql_slice_nil (P := Try.prog) w 51 66 (some a) n c 0 0 Try.underlying51
    have HL0 := Lib.hid (World.ownsRow_lit (w := w) (base := w.heap.size) (e := 66) (size := 2) #[] 0 (Nat.le_refl _) (by unfold maxLen; omega) (by simp))
    have H63 : Hid (0 + fr.length ≤ maxLen) := by unfold Hid maxLen; omega
    have HBy : Hid ((0 + fr.length) * 16 ≤ 140737488355328) := by unfold Hid; omega
    have HBs : Hid (w.heap.size ≤ (w.alloc (.cells #[] 66)).heap.size) := by unfold Hid; simp
    have HNw : Hid (∀ j u, (flat fr)[j]? = some u → ∃ ad, some (⟨g, 0, none⟩ : Addr) = some ad ∧ (w.alloc (.cells #[] 66)).cell? (ad.add j) = some u) := fun j u hj => ⟨_, rfl, (HO.out.alloc _).cells (g := g) rfl j _ hj⟩
    go_enter Try.func34, Try.ntmps34
    go_wp2_with (at_builtin; refine wpList_append_row _ rfl _ _ 51 rfl w.heap.size 66 i0 _ 2 16 Try.underlying51 Hi.out Hz0.out Hz1.out Hz2.out rfl (by decide) _ 0 _ rfl HL0.out (some ⟨g, 0, none⟩) fr.length cap (flat fr) rfl (flat_len fr) (fun h => nomatch h) HNw.out HF.out H63.out HBy.out HBs.out ?_; intro v' w1 ho1 hg1; have HO1 := Lib.hid ho1; have HG1 := Lib.hid hg1; clear ho1 hg1)
    have HB1 := Lib.hid (((Below.refl w.heap.size w).alloc (Nat.le_refl _) (.cells #[] 66)).grown HG1.out (by simp) (by rintro k hk; cases hk; exact Nat.le_refl _))
    go_ret
    exact ⟨_, rfl, by simpa using HO1.out, HB1.out⟩

theorem owns_form {w : World} {base : Nat} {e : TypeId} {size : Nat} {v : Value} {n : Nat} {xs : List Value} (h : w.ownsRow base e size v n xs) : ∃ ao cap, v = .slice ao n cap := by
  rcases h.2 with ⟨h1, h0⟩ | ⟨g, cap, cur, h1, _⟩
  · exact ⟨none, 0, by rw [h1, h0]⟩
  · exact ⟨_, cap, h1⟩

theorem owns_base {w : World} {base base' : Nat} {e : TypeId} {size : Nat} {v : Value} {n : Nat} {xs : List Value} (h : w.ownsRow base e size v n xs) (hb : base' ≤ base) : w.ownsRow base' e size v n xs := by
  refine ⟨h.1, ?_⟩
  rcases h.2 with h2 | ⟨g, cap, cur, hv, hg, r⟩
  · exact .inl h2
  · exact .inr ⟨g, cap, cur, hv, by omega, r⟩

/-- What the copy holds, once its rows are laid into it. -/
theorem copy_log {w5 w6 : World} {q : Nat} {m : Mt} {tr : List Int} {ov tv u5 u6 : Value} {B5 B6 : Nat} (hr : w6.heap[q]? = some (.cells (m.cells ov (.bool true) tv) 55 (0, 0)))
    (h5 : w5.ownsRow B5 66 2 u5 m.opn.length (flat m.opn)) (h56 : Below w5.heap.size w5 w6) (h6 : w6.ownsRow B6 36 1 u6 tr.length (tr.map (.int .i64))) (h1 : q < B5) (h2 : q < B6) :
    LogMid ((w6.setCell ⟨q, 12, none⟩ u5).setCell ⟨q, 14, none⟩ u6) q m tr (q + 1) ((w6.setCell ⟨q, 12, none⟩ u5).setCell ⟨q, 14, none⟩ u6).heap.size := by
  have hf : Fr (fun k => k = q) w6 ((w6.setCell ⟨q, 12, none⟩ u5).setCell ⟨q, 14, none⟩ u6) := (Fr.setCell w6 ⟨q, 12, none⟩ u5).trans (Fr.setCell _ ⟨q, 14, none⟩ u6) (fun _ _ h => h)
  have h5' := owns_fr h5 (F := fun _ => False) (Fr.of_below h56) (fun _ _ h => h)
  have k5 := owns_fr h5' hf (fun k hk he => by have := (h5'.lt k hk).1; omega)
  have k6 := owns_fr h6 hf (fun k hk he => by have := (h6.lt k hk).1; omega)
  refine ⟨u5, u6, ⟨?_, owns_base k5 (Nat.zero_le _), owns_base k6 (Nat.zero_le _)⟩, ?_⟩
  · rw [heap_setCell_same _ _ _ _ _ _ (heap_setCell_same _ _ _ _ _ _ hr)]; rfl
  · rintro k (hk | hk)
    · have := k5.lt k hk; omega
    · have := k6.lt k hk; omega

set_option maxRecDepth 100000 in
set_option maxHeartbeats 2000000 in
theorem copy_any (w : World) (p : Nat) (m : Mt) (tr : List Int) (ov tv : Value) (h : LogAt w p m tr ov tv) (hbo : m.opn.length ≤ 1000000) (hbt : tr.length ≤ 1000000) :
    Calls Try.prog 20 #[.pointer (some ⟨p, 0, none⟩)] w fun r w' => r = .returned (.pointer (some ⟨w.heap.size, 0, none⟩)) ∧ LogMid w' w.heap.size m tr (w.heap.size + 1) w'.heap.size ∧ Below w.heap.size w w' := by
  have hp := h.lt
  have HL := Lib.hid h
  clear h
  have K1 : Hid ((Try.prog.info? 55).map (·.size) = some (m.cells ov (.bool true) tv).size) := by unfold Hid; kernel_rfl
  have K3 : Hid ((m.cells ov (.bool true) tv).all (·.oneCell') = true) := by
    have h1 : ov.oneCell' = true := by rcases HL.out.own.2 with ⟨h, _⟩ | ⟨g, c, cur, h, _⟩ <;> rw [h] <;> rfl
    have h2 : tv.oneCell' = true := by rcases HL.out.trc.2 with ⟨h, _⟩ | ⟨g, c, cur, h, _⟩ <;> rw [h] <;> rfl
    unfold Hid; simp [Mt.cells, h1, h2]; simp [Value.oneCell']
  go_enter Try.func20, Try.ntmps20
  go_upto_region 4 with (first
    | (go_at_call 30; refine (is_any _ p m tr ov tv HL.out).mono ?_; rintro e w' ⟨rfl, rfl⟩)
    | (with_reducible refine wpList_load_row rfl 55 (.tmp 8) rfl p rfl 55 _ _ _ HL.out.blk Try.underlying55 rfl K1.out ?_)
    | (with_reducible refine wpList_store_row rfl 55 (.tmp 3) (.tmp 9) rfl w.heap.size (m.cells ov (.bool true) tv) rfl rfl 55 _ (heap_alloc_new _ _) K1.out rfl K3.out ?_))
  have hr := setRow_heap (w.alloc (.cells #[.int .i64 0, .int .i64 0, .int .i64 0, .int .i64 0, .int .i64 0, .int .i64 0, .int .i64 0, .int .i64 0, .int .i64 0, .int .i64 0, .int .i64 0, .int .i64 0, .slice none 0 0, .bool false, .slice none 0 0] 55)) w.heap.size _ (m.cells ov (.bool true) tv) 55 _ (heap_alloc_new w _)
  have hb := below_setRow ((Below.refl w.heap.size w).alloc (Nat.le_refl _) (.cells #[.int .i64 0, .int .i64 0, .int .i64 0, .int .i64 0, .int .i64 0, .int .i64 0, .int .i64 0, .int .i64 0, .int .i64 0, .int .i64 0, .int .i64 0, .int .i64 0, .slice none 0 0, .bool false, .slice none 0 0] 55)) (Nat.le_refl w.heap.size) (m.cells ov (.bool true) tv)
  have HR := Lib.hid hr; have HB := Lib.hid hb
  clear hr hb K1 K3
  revert HR HB
  generalize (w.alloc (.cells #[.int .i64 0, .int .i64 0, .int .i64 0, .int .i64 0, .int .i64 0, .int .i64 0, .int .i64 0, .int .i64 0, .int .i64 0, .int .i64 0, .int .i64 0, .int .i64 0, .slice none 0 0, .bool false, .slice none 0 0] 55)).setRow w.heap.size (m.cells ov (.bool true) tv) = wb
  intro HR HB
  have HLb := Lib.hid (HL.out.later HB.out)
  have HX34 : Hid (∀ x : Later wb, Calls Try.prog 34 #[ov] x.val fun r w' => ∃ u, r = .returned u ∧ w'.ownsRow x.val.heap.size 66 2 u m.opn.length (flat m.opn) ∧ Below x.val.heap.size x.val w') := fun x => cloneF_any ov m.opn x.val (HLb.out.later x.ok).own hbo
  have HX33 : Hid (∀ x : Later wb, Calls Try.prog 33 #[tv] x.val fun r w' => ∃ u, r = .returned u ∧ Own x.val w' 36 u tr) := fun x => clone_any tv tr x.val (HLb.out.later x.ok).trc hbt
  have hc12 : wb.cell? ⟨p, 12, none⟩ = some ov := HLb.out.cell 12
  have hc14 : wb.cell? ⟨p, 14, none⟩ = some tv := HLb.out.cell 14
  go_frame
  go_region_with (first
    | (go_at_call 34; refine (HX34.out ⟨_, ?_⟩).mono ?_; exact (Below.refl _ _).drew; rintro e w5 ⟨u5, rfl, ho5, hb5⟩; obtain ⟨a5, c5, rfl⟩ := owns_form ho5; have HO5 := Lib.hid ho5; have HB5 := Lib.hid ((Below.refl wb.heap.size wb).drew.trans hb5); have hc14' : w5.cell? ⟨p, 14, none⟩ = some tv := (HLb.out.later HB5.out).cell 14; clear ho5 hb5)
    | (go_at_call 33; refine (HX33.out ⟨_, ?_⟩).mono ?_; exact HB5.out; rintro e w6 ⟨u6, rfl, ho6⟩; obtain ⟨a6, c6, rfl⟩ := owns_form ho6.1; have HO6 := Lib.hid ho6; have HB56 := Lib.hid ho6.2; have HB6 := Lib.hid (HB5.out.trans (ho6.2.mono HB5.out.size)); have HR6 := Lib.hid ((ho6.2.block _ (Nat.lt_of_lt_of_le (lt_of_block HR.out) HB5.out.size)).trans ((HB5.out.block _ (lt_of_block HR.out)).trans HR.out)); have hcp12 : w6.cell? ⟨w.heap.size, 12, none⟩ = some ov := (cell_of_row _ _ 12 _ _ _ HR6.out); have hcp14 : w6.cell? ⟨w.heap.size, 14, none⟩ = some tv := (cell_of_row _ _ 14 _ _ _ HR6.out); have hfp : ∀ o, w6.frozen? ⟨w.heap.size, o, none⟩ = false := fun o => (frozen_of_row _ _ o _ _ HR6.out); clear ho6))
  all_goals
    go_wp2_with fail
    go_ret
    have hs1 := HB5.out.size
    have hsw : w.heap.size < wb.heap.size := lt_of_block HR.out
    refine ⟨rfl, copy_log HR6.out HO5.out HB56.out HO6.out.1 (by omega) (by omega), ?_⟩
    exact ((HB.out.trans (HB6.out.mono HB.out.size)).setCell (by simp) _).setCell (by simp) _
end Go.Proofs.Ytbndpmfekglnkaa
