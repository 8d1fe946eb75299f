/- Walks: count.Of. -/
import Derived.Test.YtbndpmfekglnkaaW11
import Derived.Test.YtbndpmfekglnkaaW12
namespace Go.Proofs.Ytbndpmfekglnkaa
open Go.RowKit

theorem Sl.apart2 {F : Nat → Prop} {w w' : World} {ao : Option Addr} {cap : Nat} {zs : List Int} (h : Sl w ao cap zs) (_hb : Below w.heap.size w w') (hF : ∀ k, F k → w.heap.size ≤ k) : Apart F ao zs.length := h.apart hF

theorem addM_ok : ∀ (zs : List Int) (m : Mt) (n k : Nat), m.ok n → (addM m zs k).2.2.ok (n + 2 * zs.length)
  | [], m, n, k, h => by simpa [addM] using h
  | x :: r, m, n, k, h => by
    rw [addM_eq]
    split
    · exact (addM_ok r _ (n + 2) _ (h.count x)).mono (by simp; omega)
    · exact h.mono (by omega)

set_option maxRecDepth 100000 in
set_option maxHeartbeats 2000000 in
theorem ofP_any (ao : Option Addr) (cap : Nat) (zs : List Int) (w : World) (hs : Sl w ao cap zs) (hbig : zs.length ≤ 100000) :
    Calls Try.prog 11 #[.slice ao zs.length cap] w fun r w' => r = .returned (.tuple #[.agg (ofM zs).1.vals, .int .i64 (ofM zs).2]) ∧ Below w.heap.size w w' := by
  have hR : ofM zs = if (addM Mt.zero zs 0).2.1 = 0 then ((addM Mt.zero zs 0).2.2.cn, 0) else (Cn.zero, (addM Mt.zero zs 0).2.1) := rfl
  have hok := addM_ok zs _ 0 0 Mt.ok_zero
  have hadd := fun w p tr ov tv h hs hap => add_any w p Mt.zero tr ov tv 0 h Mt.ok_zero ao cap zs hs hap (by omega) 
  obtain ⟨R, hRR⟩ : ∃ R, addM Mt.zero zs 0 = R := ⟨_, rfl⟩
  rw [hRR] at hR hok hadd
  clear hRR
  obtain ⟨k, e, m⟩ := R
  have HOK := Lib.hid hok
  have HAdd := Lib.hid hadd
  have HR := Lib.hid hR
  have HSl := Lib.hid hs
  clear hok hadd hR hs
  have HS1 : Hid (∀ w', Below w.heap.size w w' → Sl w' ao cap zs) := fun w' hb => HSl.out.below hb
  by_cases he : e = 0
  · subst he
    have HF := Lib.hid (HR.out.trans (if_pos rfl))
    clear HR
    go_enter Try.func11, Try.ntmps11
    go_wp2_with (first
      | (go_at_call 16; refine (new_any _).mono ?_; rintro e' w2 ⟨rfl, rfl⟩))
    have hl0 := new_log (w.alloc (.cells #[.int .i64 0, .int .i64 0, .int .i64 0, .int .i64 0, .int .i64 0, .int .i64 0, .int .i64 0, .int .i64 0, .int .i64 0, .int .i64 0, .int .i64 0, .int .i64 0, .int .i64 0] 26))
    have hb0 := (((Below.refl _ _).alloc (Nat.le_refl w.heap.size) (.cells #[.int .i64 0, .int .i64 0, .int .i64 0, .int .i64 0, .int .i64 0, .int .i64 0, .int .i64 0, .int .i64 0, .int .i64 0, .int .i64 0, .int .i64 0, .int .i64 0, .int .i64 0] 26)).alloc (by simp) (.cells (Mt.zero.cells (.slice none 0 0) (.bool true) (.slice none 0 0)) 55))
    have hr0 := heap_alloc2_old w (.cells #[.int .i64 0, .int .i64 0, .int .i64 0, .int .i64 0, .int .i64 0, .int .i64 0, .int .i64 0, .int .i64 0, .int .i64 0, .int .i64 0, .int .i64 0, .int .i64 0, .int .i64 0] 26) (.cells (Mt.zero.cells (.slice none 0 0) (.bool true) (.slice none 0 0)) 55)
    simp only [World.size_alloc] at hl0
    have HL1 := Lib.hid hl0; have HB1 := Lib.hid hb0; have HR1 := Lib.hid hr0
    clear hl0 hb0 hr0
    revert HL1 HB1 HR1
    generalize (w.alloc (.cells #[.int .i64 0, .int .i64 0, .int .i64 0, .int .i64 0, .int .i64 0, .int .i64 0, .int .i64 0, .int .i64 0, .int .i64 0, .int .i64 0, .int .i64 0, .int .i64 0, .int .i64 0] 26)).alloc (.cells (Mt.zero.cells (.slice none 0 0) (.bool true) (.slice none 0 0)) 55) = w1
    intro HL1 HB1 HR1
    refine (HAdd.out w1 (w.heap.size + 1) [] _ _ HL1.out (HS1.out _ HB1.out) (HSl.out.apart2 HB1.out (by rintro i (h | h | h) <;> first | omega | (simp [Value.ownBlock] at h))) (by simp; omega)).mono ?_
    rintro e' w3 ⟨rfl, ov', tv', hl3, hf3, _, _⟩
    have HB3 := Lib.hid (HB1.out.trans (hf3.below (B := w.heap.size + 1) (by have := HB1.out.size; have := HL1.out.lt; omega) (by rintro i hi (h | h | h) <;> first | omega | (simp [Value.ownBlock] at h))  |>.mono (by omega)))
    have HR3 := Lib.hid ((hf3.block w.heap.size (by have := HL1.out.lt; omega) (by rintro (h | h | h) <;> first | omega | (simp [Value.ownBlock] at h))).trans HR1.out)
    have HL3 := Lib.hid hl3
    clear hl3 hf3
    have K1 : Hid ((Try.prog.info? 26).map (·.size) = some (m.cn).vals.size) := by unfold Hid; kernel_rfl
    have K3 : Hid ((m.cn).vals.all (·.oneCell') = true) := by unfold Hid; simp [Mt.cn, Cn.vals, Value.oneCell']
    go_wp2_with (first
      | (go_at_call 26; refine (counts_any _ _ m _ _ _ _ HL3.out HOK.out (by omega)).mono ?_; rintro e' w4 ⟨rfl, hb4⟩; have HB4 := Lib.hid hb4; have HR4 := Lib.hid ((hb4.block _ (lt_of_block HR3.out)).trans HR3.out); clear hb4)
      | (with_reducible refine wpList_store_row rfl 26 (.tmp 2) (.tmp 21) rfl w.heap.size m.cn.vals rfl rfl 26 _ HR4.out K1.out rfl K3.out ?_))
    refine bodyPost_ret (results_row_tmp rfl _ _ w.heap.size 26 _ _ _ rfl (setRow_heap _ _ _ _ _ _ HR4.out) Try.underlying26 rfl (by kernel_rfl)) rfl ?_
    refine ⟨by rw [HF.out]; rfl, below_setRow (HB3.out.trans (HB4.out.mono HB3.out.size)) (Nat.le_refl _) _⟩
  · have HF := Lib.hid (HR.out.trans (if_neg he))
    have hne : (e != 0) = true := by rw [bne_iff_ne]; exact he
    clear HR he
    have K1 : Hid ((Try.prog.info? 26).map (·.size) = some (Array.size (#[.int .i64 0, .int .i64 0, .int .i64 0, .int .i64 0, .int .i64 0, .int .i64 0, .int .i64 0, .int .i64 0, .int .i64 0, .int .i64 0, .int .i64 0, .int .i64 0, .int .i64 0] : Array Value))) := by unfold Hid; kernel_rfl
    have K3 : Hid ((#[.int .i64 0, .int .i64 0, .int .i64 0, .int .i64 0, .int .i64 0, .int .i64 0, .int .i64 0, .int .i64 0, .int .i64 0, .int .i64 0, .int .i64 0, .int .i64 0, .int .i64 0] : Array Value).all (·.oneCell') = true) := by unfold Hid; simp [Value.oneCell']
    go_enter Try.func11, Try.ntmps11
    go_wp2_with (first
      | (go_at_call 16; refine (new_any _).mono ?_; rintro e' w2 ⟨rfl, rfl⟩))
    have hl0 := new_log (w.alloc (.cells #[.int .i64 0, .int .i64 0, .int .i64 0, .int .i64 0, .int .i64 0, .int .i64 0, .int .i64 0, .int .i64 0, .int .i64 0, .int .i64 0, .int .i64 0, .int .i64 0, .int .i64 0] 26))
    have hb0 := (((Below.refl _ _).alloc (Nat.le_refl w.heap.size) (.cells #[.int .i64 0, .int .i64 0, .int .i64 0, .int .i64 0, .int .i64 0, .int .i64 0, .int .i64 0, .int .i64 0, .int .i64 0, .int .i64 0, .int .i64 0, .int .i64 0, .int .i64 0] 26)).alloc (by simp) (.cells (Mt.zero.cells (.slice none 0 0) (.bool true) (.slice none 0 0)) 55))
    have hr0 := heap_alloc2_old w (.cells #[.int .i64 0, .int .i64 0, .int .i64 0, .int .i64 0, .int .i64 0, .int .i64 0, .int .i64 0, .int .i64 0, .int .i64 0, .int .i64 0, .int .i64 0, .int .i64 0, .int .i64 0] 26) (.cells (Mt.zero.cells (.slice none 0 0) (.bool true) (.slice none 0 0)) 55)
    simp only [World.size_alloc] at hl0
    have HL1 := Lib.hid hl0; have HB1 := Lib.hid hb0; have HR1 := Lib.hid hr0
    clear hl0 hb0 hr0
    revert HL1 HB1 HR1
    generalize (w.alloc (.cells #[.int .i64 0, .int .i64 0, .int .i64 0, .int .i64 0, .int .i64 0, .int .i64 0, .int .i64 0, .int .i64 0, .int .i64 0, .int .i64 0, .int .i64 0, .int .i64 0, .int .i64 0] 26)).alloc (.cells (Mt.zero.cells (.slice none 0 0) (.bool true) (.slice none 0 0)) 55) = w1
    intro HL1 HB1 HR1
    refine (HAdd.out w1 (w.heap.size + 1) [] _ _ HL1.out (HS1.out _ HB1.out) (HSl.out.apart2 HB1.out (by rintro i (h | h | h) <;> first | omega | (simp [Value.ownBlock] at h))) (by simp; omega)).mono ?_
    rintro e' w3 ⟨rfl, ov', tv', hl3, hf3, _, _⟩
    have HB3 := Lib.hid (HB1.out.trans (hf3.below (B := w.heap.size + 1) (by have := HB1.out.size; have := HL1.out.lt; omega) (by rintro i hi (h | h | h) <;> first | omega | (simp [Value.ownBlock] at h))  |>.mono (by omega)))
    have HR3 := Lib.hid ((hf3.block w.heap.size (by have := HL1.out.lt; omega) (by rintro (h | h | h) <;> first | omega | (simp [Value.ownBlock] at h))).trans HR1.out)
    clear hl3 hf3
    go_wp2_with (first
      | (with_reducible refine wpList_store_row rfl 26 (.tmp 2) (.tmp 16) rfl w.heap.size _ rfl rfl 26 _ HR3.out K1.out rfl K3.out ?_))
    refine bodyPost_ret (results_row_tmp rfl _ _ w.heap.size 26 _ _ _ rfl (setRow_heap _ _ _ _ _ _ HR3.out) Try.underlying26 rfl (by kernel_rfl)) rfl ?_
    refine ⟨by rw [HF.out]; rfl, below_setRow HB3.out (Nat.le_refl _) _⟩
end Go.Proofs.Ytbndpmfekglnkaa
