/- Walks: the kit's lent lists of events; events. -/
import Derived.Test.YtbndpmfekglnkaaW4
import Derived.Test.YtbndpmfekglnkaaLater
import Derived.Test.YtbndpmfekglnkaaW9
namespace Go.Proofs.Ytbndpmfekglnkaa
open Go.RowKit

theorem mark_any (k i : Int) (w : World) (hk : 0 ≤ k) (hk2 : k ≤ 10) (h0 : 0 ≤ i) (h1 : i ≤ 1000) :
    Calls Try.prog 36 #[.int .i64 k, .int .i64 i] w fun e w' => e = .returned (.int .i64 (1000003 * (k+7) + i)) ∧ w = w' := by
  go_enter Try.func36, Try.ntmps36
  go_wp2
  go_ret
  exact ⟨rfl, rfl⟩
theorem markEvent_any (k i : Int) (w : World) (hk : 0 ≤ k) (hk2 : k ≤ 10) (h0 : 0 ≤ i) (h1 : i ≤ 1000) :
    Calls Try.prog 25 #[.int .i64 k, .int .i64 i] w fun e w' => e = .returned (.int .i64 (1000003 * (k+7) + i)) ∧ w = w' := by
  go_enter Try.func25, Try.ntmps25
  go_wp2_with (go_at_call 36; refine (mark_any _ _ _ (by assumption) (by assumption) (by assumption) (by assumption)).mono ?_; rintro e w' ⟨rfl, rfl⟩)
  go_ret
  exact ⟨rfl, rfl⟩

/-- The marks behind a lent list. -/
def marks (k : Nat) : List Int := (List.range k).map fun (i : Nat) => (8000024 : Int) + (i : Int)
theorem marks_len (k : Nat) : (marks k).length = k := by simp [marks]
theorem marks_succ (k : Nat) : marks (k + 1) = marks k ++ [8000024 + (k : Int)] := by simp [marks, List.range_succ]
theorem marks_get (k i : Nat) (h : i < k) : (marks k).getD i 0 = 8000024 + (i : Int) := by simp [marks, List.getD, h]

/-- A lent list lies in the block g: zs, and twelve marks behind. -/
structure LentAt (w : World) (g : Nat) (zs : List Int) : Prop where
  blk : w.heap[g]? = some (.cells ((zs ++ marks 12).map (Value.int .i64)).toArray 36 (0, 0))

theorem LentAt.cell {w : World} {g : Nat} {zs : List Int} (h : LentAt w g zs) (j : Nat) (hj : j < zs.length + 12) : w.cell? ⟨g, j, none⟩ = some (.int .i64 ((zs ++ marks 12).getD j 0)) := by
  rw [cell_of_row w g j _ _ _ h.blk]
  have : j < (zs ++ marks 12).length := by simp [marks_len]; omega
  simp only [List.getElem?_toArray, List.getElem?_map, List.getElem?_eq_getElem this, Option.map_some, List.getD_eq_getElem?_getD, Option.getD_some]
theorem LentAt.sl {w : World} {g : Nat} {zs : List Int} (h : LentAt w g zs) (hz : zs.length ≤ 1000000) : Sl w (some ⟨g, 0, none⟩) (zs.length + 12) zs := by
  refine ⟨by omega, by unfold maxLen; omega, fun h => by simp at h, fun j hj => ⟨_, rfl, ?_⟩⟩
  have := h.cell j (by omega)
  simpa [Addr.add_lit, List.getD_eq_getElem?_getD, List.getElem?_append_left hj] using this
theorem LentAt.later {w w' : World} {g : Nat} {zs : List Int} (h : LentAt w g zs) (hb : Below w.heap.size w w') : LentAt w' g zs := ⟨(hb.block _ (lt_of_block h.blk)).trans h.blk⟩

set_option maxHeartbeats 1000000 in
theorem lent_any (ao : Option Addr) (cap : Nat) (zs : List Int) (w : World) (hs : Sl w ao cap zs) (hbig : zs.length ≤ 100000) :
    Calls Try.prog 10 #[.slice ao zs.length cap] w fun r w' => r = .returned (.slice (some ⟨w.heap.size, 0, none⟩) zs.length (zs.length + 12)) ∧ LentAt w' w.heap.size zs ∧ Below w.heap.size w w' := by
  obtain ⟨h1, h2⟩ := hs.bound
  have HSl := Lib.hid hs; clear hs
  obtain ⟨i0, hi, hz0, hz1, hz2⟩ := info_parts Try.info36
  have Hi := Lib.hid hi; have Hz0 := Lib.hid hz0; have Hz1 := Lib.hid hz1; have Hz2 := Lib.hid hz2
  clear hi hz0 hz1 hz2
  have e12 : ((zs.length : Int) + 12) = ((zs.length + 12 : Nat) : Int) := by omega
  have HE := Lib.hid e12; clear e12
  have hb := by simpa using Hz2.out
  have HBy := Lib.hid (show i0.bytes * (zs.length + 12) ≤ 281474976710656 by rw [Hz2.out]; omega)
  clear hb
  go_enter Try.func10, Try.ntmps10
  go_wp2_with (first
    | (at_make; refine wpList_make_own _ rfl _ _ 22 rfl w.heap.size 36 i0 _ 1 Try.underlying22 Hi.out Hz0.out Hz1.out _ _ _ (zs.length + 12) rfl rfl HE.out HBy.out (by unfold maxLen; omega) (Nat.le_refl _) ?_; intro w1 hown1 hg1; have HO1 := Lib.hid hown1; have HB1 := Lib.hid (((Below.refl w.heap.size w).grown hg1 (Nat.le_refl _) (by simp))); clear hown1 hg1)
    | (at_builtin; refine wpList_append_fits_any _ rfl (.tmp 9) (.tmp 10) 22 rfl w.heap.size 36 i0 1 Try.underlying22 Hi.out Hz1.out w.heap.size 0 (zs.length + 12) [] rfl HO1.out ao zs.length cap (zs.map (.int .i64)) rfl (by simp) ?_ ?_ (ints_oneCell _ _) (by omega) ?_))
  · intro hn
    have h := HSl.out.2.2.1 hn
    omega
  · intro ad had j u hj
    have hjl : j < zs.length := by have := (List.getElem?_eq_some_iff.1 hj).1; simpa using this
    obtain ⟨ad', h1, h2⟩ := (HSl.out.below HB1.out).2.2.2 j hjl
    rw [had] at h1; cases h1
    refine h2.trans ?_
    rw [← hj]; simp [hjl, List.getD]
  intro w2 hown2 hg2
  have HO2 := Lib.hid hown2
  have HB2 := Lib.hid (HB1.out.grown hg2 HB1.out.size (by intro k hk; cases hk; exact Nat.le_refl _))
  clear hown2 hg2 HO1 HB1
  go_wp2_with fail
  go_loopw [3, 4] (fun v i wr => ∃ k : Nat, k ≤ 12 ∧ i = .int .i64 k ∧ v = .slice (some ⟨w.heap.size, 0, none⟩) (zs.length + k) (zs.length + 12) ∧
      Hid (wr.ownsRow w.heap.size 36 1 (.slice (some ⟨w.heap.size, 0, none⟩) (zs.length + k) (zs.length + 12)) (zs.length + k) ((zs ++ marks k).map (.int .i64)) ∧ Below w.heap.size w wr)) (fun _ i _ => 12 - (intOf i).toNat)
  case atStart => exact ⟨0, by omega, rfl, rfl, by simpa [marks] using HO2.out, HB2.out⟩
  case round =>
    obtain ⟨k, hk, rfl, rfl, hI⟩ := hrel
    have HO := Lib.hid hI.out.1
    have HB := Lib.hid hI.out.2
    clear hI
    by_cases hlt : k < 12
    · go_wp2_with (first
        | (go_at_call 25; refine (markEvent_any _ _ _ (by decide) (by decide) (by omega) (by omega)).mono ?_; rintro e w' ⟨rfl, rfl⟩)
        | (at_builtin; refine wpList_append_fits _ rfl (.tmp 16) (.tmp 19) 22 rfl w.heap.size 36 i0 1 Try.underlying22 Hi.out Hz1.out w.heap.size (zs.length + k) (zs.length + 12) _ rfl (HO.out.alloc _) ⟨wr.heap.size, 0, none⟩ 1 1 [_] rfl rfl (one_new _ _ _) (by simp [Value.oneCell']) (by omega) ?_; intro w3 hown3 hg3; have HO3 := Lib.hid hown3; have HB3 := Lib.hid ((HB.out.alloc HB.out.size _).grown hg3 (by have := HB.out.size; simp; omega) (by intro k hk; cases hk; exact Nat.le_refl _)); clear hown3 hg3))
      go_roundw
      case rel =>
        refine ⟨k + 1, by omega, by go_num, rfl, ?_, HB3.out⟩
        have := HO3.out
        rw [marks_succ]
        simpa [Nat.add_assoc] using this
      case measure => simp [intOf]; omega
    · have hke : k = 12 := by omega
      subst hke
      go_wp2_with fail
      go_ret
      refine ⟨rfl, ⟨?_⟩, HB.out⟩
      rcases HO.out.2 with ⟨h, _⟩ | ⟨g, c, cur, h, _, hh, h3, h4, h5, h6⟩
      · cases h
      · cases h
        have hcur : cur = ((zs ++ marks 12).map (Value.int .i64)).toArray := by
          apply Array.toList_inj.1
          rw [← h6, List.take_of_length_le (by simp [h5])]
        rw [← hcur]; exact hh
end Go.Proofs.Ytbndpmfekglnkaa
