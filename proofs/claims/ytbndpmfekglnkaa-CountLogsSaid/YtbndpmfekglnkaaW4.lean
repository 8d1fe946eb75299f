/- Walks: Put. -/
import Derived.Test.YtbndpmfekglnkaaW3
namespace Go.Proofs.Ytbndpmfekglnkaa
open Go.RowKit

theorem Try.ie22 : IntElem Try.prog 22 36 := ⟨Try.underlying22, by kernel_rfl⟩
theorem Try.ie48 : IntElem Try.prog 48 3 := ⟨Try.underlying48, by kernel_rfl⟩

theorem putR_eq (l : List Int) (x : Int) (r : List Int) (n : Nat) : putR l (x :: r) n = if x < 1 ∨ 8 < x then (n, 2) else if mayR l x = false then (n, 13) else putR (l ++ [x]) r (n + 1) := rfl

set_option maxHeartbeats 1000000 in
theorem put_any (ao bo : Option Addr) (cap bcap : Nat) (zs ys : List Int) (w : World) (hs : Sl w ao cap zs) (ht : Sl w bo bcap ys) (hbig : zs.length + ys.length ≤ 1000000) :
    Calls Try.prog 21 #[.slice ao zs.length cap, .slice bo ys.length bcap] w fun r w' => r = .returned (.tuple #[.int .i64 (putR zs ys 0).1, .int .i64 (putR zs ys 0).2]) ∧ Below w.heap.size w w' := by
  obtain ⟨h1, h2⟩ := hs.bound
  obtain ⟨h3, h4⟩ := ht.bound
  have HSl := Lib.hid hs; clear hs
  have HTl := Lib.hid ht; clear ht
  have HO0 := Lib.hid (Own.lit w 36 [] (by simp))
  obtain ⟨p, hp⟩ : ∃ p, putR zs ys 0 = p := ⟨_, rfl⟩
  rw [hp]
  have HP := Lib.hid hp; clear hp
  go_enter Try.func21, Try.ntmps21
  go_wp2_with (first
    | (at_builtin; refine wpList_apps w _ rfl _ _ 22 36 rfl Try.ie22 _ [] rfl HO0.out ao cap zs rfl (HSl.out.below ((Below.refl _ _).alloc (Nat.le_refl _) _)) (by simp; omega) ?_; intro v' w1 hO1; have HO1 := Lib.hid hO1; clear hO1))
  go_loopw [6, 7] (fun v i wr => ∃ (k : Nat) (acc : List Int), k ≤ ys.length ∧ i = .int .i64 k ∧ acc.length = zs.length + k ∧
      Hid (Own w wr 36 v acc ∧ putR acc (ys.drop k) k = p)) (fun _ i _ => ys.length - (intOf i).toNat)
  case atStart => exact ⟨0, zs, by omega, rfl, by omega, by simpa using HO1.out, HP.out⟩
  case round =>
    obtain ⟨k, acc, hk, rfl, hac, hI⟩ := hrel
    have HB := Lib.hid hI.out.1.2
    have HP' := Lib.hid hI.out.2
    have HO' := Lib.hid hI.out.1
    have hac2 := Lib.hid hac
    have hac3 : acc.length ≤ zs.length + k := by omega
    clear hI hac HP
    by_cases hlt : k < ys.length
    · obtain ⟨a, rfl, hcell⟩ := (HTl.out.below HB.out).2.2.2 k hlt
      have hR' := HP'.out
      rw [drop_cons ys k hlt, putR_eq] at hR'
      generalize ys.getD k 0 = x at *
      have HR := Lib.hid hR'; clear hR' HP'
      by_cases hx : x < 1 ∨ 8 < x
      · have HF := Lib.hid (show ((k : Nat), (2 : Int)) = p by rw [← HR.out, if_pos hx])
        clear HR
        rcases hx with hx | hx
        all_goals
          go_wp2
          go_ret2
          exact ⟨by rw [← HF.out]; rfl, HB.out⟩
      · have hx1 : 1 ≤ x := by omega
        have hx2 : x ≤ 8 := by omega
        have HR' := Lib.hid (show (if mayR acc x = false then (k, 13) else putR (acc ++ [x]) (ys.drop (k+1)) (k+1)) = p by rw [← HR.out, if_neg hx])
        clear HR hx
        obtain ⟨ao', cap', rfl, hsl'⟩ := HO'.out.sl
        have HSl' := Lib.hid hsl'; clear hsl'
        cases hm : mayR acc x with
        | false =>
          have HM := Lib.hid hm
          have HF := Lib.hid (show ((k : Nat), (13 : Int)) = p by rw [← HR'.out, if_pos hm])
          clear hm HR'
          go_wp2_with (first
            | (go_at_call 35; refine (may_any _ _ _ _ _ HSl'.out (by omega) ⟨hx1, hx2⟩).mono ?_; rintro e w2 ⟨rfl, hb2⟩; rw [HM.out]; have HB2 := Lib.hid hb2; clear hb2))
          go_ret2
          exact ⟨by rw [← HF.out]; rfl, HB.out.trans (HB2.out.mono HB.out.size)⟩
        | true =>
          have HM := Lib.hid hm
          have HF := Lib.hid (show putR (acc ++ [x]) (ys.drop (k+1)) (k+1) = p by rw [← HR'.out, if_neg (by simp [hm])])
          clear hm HR'
          go_wp2_with (first
            | (go_at_call 35; refine (may_any _ _ _ _ _ HSl'.out (by omega) ⟨hx1, hx2⟩).mono ?_; rintro e w2 ⟨rfl, hb2⟩; rw [HM.out]; have HO2 := Lib.hid (HO'.out.later hb2); have hcell2 := ((hb2.cell (World.block_lt_of_cell? _ _ hcell)).trans hcell); clear hb2)
            | (at_builtin; refine wpList_app1 w _ rfl _ _ 22 36 rfl Try.ie22 _ acc rfl HO2.out x rfl (by omega) ?_; intro v' w1 hO1; have HO3 := Lib.hid hO1; clear hO1))
          go_roundw
          case rel => exact ⟨k + 1, acc ++ [x], by omega, by go_num, by have := hac2.out; simp; omega, HO3.out, HF.out⟩
          case measure => simp [intOf]; omega
    · have HF := Lib.hid (show ((k : Nat), (0 : Int)) = p by have := HP'.out; rw [List.drop_of_length_le (by omega)] at this; exact this)
      have hke : k = ys.length := by omega
      subst hke
      go_wp2
      go_ret2
      exact ⟨by rw [← HF.out]; rfl, HB.out⟩
end Go.Proofs.Ytbndpmfekglnkaa
