/- Walks: state, May. -/
import Derived.Test.YtbndpmfekglnkaaW2
namespace Go.Proofs.Ytbndpmfekglnkaa
open Go.RowKit

theorem getLastD_getD (l : List Int) : l.getLastD 0 = l.getD (l.length - 1) 0 := by
  rw [List.getLastD_eq_getLast?, List.getLast?_eq_getElem?, List.getD_eq_getElem?_getD]

set_option maxHeartbeats 1000000 in
theorem state_any (ao : Option Addr) (cap : Nat) (zs : List Int) (w : World) (hs : Sl w ao cap zs) (hbig : zs.length ≤ 1000000) :
    Calls Try.prog 40 #[.slice ao zs.length cap] w fun r w' => r = .returned (.int .i64 (stateR zs)) ∧ Below w.heap.size w w' := by
  obtain ⟨h1, h2⟩ := hs.bound
  have HSl := Lib.hid hs; clear hs
  have hb := innerR_bd zs
  have HR : Hid (stateR zs = if innerR zs < 0 then 0 else if ownR zs (innerR zs).toNat = [] then 1 else (ownR zs (innerR zs).toNat).getLastD 0) := rfl
  generalize stateR zs = R at *
  have Hin := fun w hs => inner_any ao cap zs w hs
  generalize innerR zs = m at *
  have Hin' := Lib.hid Hin; clear Hin
  rcases Int.lt_or_le m 0 with hm | hm
  · have HR' := Lib.hid (HR.out.trans (if_pos hm))
    clear HR
    go_enter Try.func40, Try.ntmps40
    go_wp2_with (go_at_call 45; refine (Hin'.out _ HSl.out).mono ?_; rintro e w' ⟨rfl, rfl⟩)
    go_ret
    exact ⟨ret_int (HR'.out.symm), Below.refl _ _⟩
  · obtain ⟨n, rfl⟩ := Int.eq_ofNat_of_zero_le hm
    have HR' := Lib.hid (HR.out.trans (if_neg (by omega)))
    clear HR
    rw [Int.toNat_natCast] at HR'
    have hn : n < zs.length := by omega
    have Hown := fun w hs => own_any ao cap zs n w hs hn hbig
    generalize ownR zs n = os at *
    have Hown' := Lib.hid Hown; clear Hown
    rcases Nat.eq_zero_or_pos os.length with h0 | h0
    · have hos : os = [] := List.eq_nil_of_length_eq_zero h0
      subst hos
      clear h0
      go_enter Try.func40, Try.ntmps40
      go_wp2_with (first
        | (go_at_call 45; refine (Hin'.out _ HSl.out).mono ?_; rintro e w' ⟨rfl, rfl⟩)
        | (go_at_call 29; refine (Hown'.out _ HSl.out).mono ?_; rintro e w' ⟨v, rfl, hown, hbel⟩; obtain ⟨ao', cap', rfl, hsl⟩ := Sl.of_owns hown; have Hsl := Lib.hid hsl; have Hbel := Lib.hid hbel; clear hsl hown hbel; simp only [List.length_nil]))
      go_ret
      exact ⟨ret_int (by rw [HR'.out]; rfl), Hbel.out⟩
    · have hR2 : R = os.getD (os.length - 1) 0 := by
        rw [HR'.out, if_neg (by intro h; subst h; simp at h0), getLastD_getD]
      have HR2 := Lib.hid hR2; clear hR2 HR'
      have hne : ((os.length : Int) == 0) = false := beq_eq_false_iff_ne.2 (by omega)
      have hb0 : 0 ≤ (os.length : Int) - 1 := by omega
      have hb1 : ((os.length : Int) - 1).toNat = os.length - 1 := by omega
      go_enter Try.func40, Try.ntmps40
      go_wp2_with (first
        | (go_at_call 45; refine (Hin'.out _ HSl.out).mono ?_; rintro e w' ⟨rfl, rfl⟩)
        | (go_at_call 29; refine (Hown'.out _ HSl.out).mono ?_; rintro e w' ⟨v, rfl, hown, hbel⟩; obtain ⟨ao', cap', rfl, hsl⟩ := Sl.of_owns hown; obtain ⟨a', rfl, hcell⟩ := hsl.2.2.2 (os.length - 1) (by omega); have hc2 := hsl.bound; have Hbel := Lib.hid hbel; clear hsl hown hbel))
      go_ret
      exact ⟨ret_int (by rw [HR2.out, List.getD_eq_getElem?_getD]), Hbel.out⟩

set_option maxHeartbeats 1000000 in
theorem may_any (ao : Option Addr) (cap : Nat) (zs : List Int) (e : Int) (w : World) (hs : Sl w ao cap zs) (hbig : zs.length ≤ 1000000) (he : 1 ≤ e ∧ e ≤ 8) :
    Calls Try.prog 35 #[.slice ao zs.length cap, .int .i64 e] w fun r w' => r = .returned (.bool (mayR zs e)) ∧ Below w.heap.size w w' := by
  have HSl := Lib.hid hs; clear hs
  have hst := Lib.hid (fun w hs => state_any ao cap zs w hs hbig)
  have hR : Hid (mayR zs e = mayR zs e) := rfl
  have HM : Hid (mayR zs e = if e = 1 ∨ e = 5 then stateR zs == 0 || stateR zs == 2 else if e = 2 then stateR zs == 1 || stateR zs == 3 else if e = 3 ∨ e = 4 then stateR zs == 2
    else if e = 6 ∨ e = 8 then stateR zs == 2 || stateR zs == 3 else decide (cnt 7 zs < cnt 6 zs)) := rfl
  generalize mayR zs e = R at *
  generalize stateR zs = s at *
  clear hR
  have h8 : e = 1 ∨ e = 2 ∨ e = 3 ∨ e = 4 ∨ e = 5 ∨ e = 6 ∨ e = 7 ∨ e = 8 := by omega
  clear he
  rcases h8 with rfl | rfl | rfl | rfl | rfl | rfl | rfl | rfl
  all_goals
    go_enter Try.func35, Try.ntmps35
    go_wp2_with (first
      | (go_at_call 40; refine (hst.out _ HSl.out).mono ?_; rintro e w' ⟨rfl, hbel⟩; have Hbel := Lib.hid hbel; clear hbel)
      | (go_at_call 27; refine (times_any _ _ _ _ _ (HSl.out.below Hbel.out)).mono ?_; rintro e w' ⟨rfl, rfl⟩))
  all_goals
    go_ret
    exact ⟨ret_bool (by rw [HM.out]; simp_all), Hbel.out⟩
end Go.Proofs.Ytbndpmfekglnkaa
