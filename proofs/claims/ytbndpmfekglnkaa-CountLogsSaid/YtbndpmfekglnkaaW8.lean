/- Walks: may, the states' methods, check. -/
import Derived.Test.YtbndpmfekglnkaaW7
namespace Go.Proofs.Ytbndpmfekglnkaa
open Go.RowKit

theorem idle_any (s : Int) (w : World) : Calls Try.prog 41 #[.int .i64 s] w fun r w' => r = .returned (.bool (s == 0 || s == 2)) ∧ w = w' := by
  by_cases h0 : s = 0
  · subst h0
    go_enter Try.func41, Try.ntmps41
    go_wp2
    go_ret
    exact ⟨rfl, rfl⟩
  · have hs : (s == 0) = false := by simpa using h0
    go_enter Try.func41, Try.ntmps41
    go_wp2
    go_ret
    exact ⟨by simp [h0], rfl⟩
theorem ready_any (s : Int) (w : World) : Calls Try.prog 42 #[.int .i64 s] w fun r w' => r = .returned (.bool (s == 1 || s == 3)) ∧ w = w' := by
  by_cases h0 : s = 1
  · subst h0
    go_enter Try.func42, Try.ntmps42
    go_wp2
    go_ret
    exact ⟨rfl, rfl⟩
  · have hs : (s == 1) = false := by simpa using h0
    go_enter Try.func42, Try.ntmps42
    go_wp2
    go_ret
    exact ⟨by simp [h0], rfl⟩
theorem inside_any (s : Int) (w : World) : Calls Try.prog 43 #[.int .i64 s] w fun r w' => r = .returned (.bool (s == 2)) ∧ w = w' := by
  go_enter Try.func43, Try.ntmps43
  go_wp2
  go_ret
  exact ⟨rfl, rfl⟩
theorem found_any (s : Int) (w : World) : Calls Try.prog 44 #[.int .i64 s] w fun r w' => r = .returned (.bool (s == 2 || s == 3)) ∧ w = w' := by
  by_cases h0 : s = 2
  · subst h0
    go_enter Try.func44, Try.ntmps44
    go_wp2
    go_ret
    exact ⟨rfl, rfl⟩
  · have hs : (s == 2) = false := by simpa using h0
    go_enter Try.func44, Try.ntmps44
    go_wp2
    go_ret
    exact ⟨by simp [h0], rfl⟩

def mayF (e : Int) : Nat := if e = 1 ∨ e = 5 then 41 else if e = 2 then 42 else if e = 3 ∨ e = 4 then 43 else 44

theorem mayP_any (e : Int) (w : World) (he : e = 1 ∨ e = 2 ∨ e = 3 ∨ e = 4 ∨ e = 5 ∨ e = 6 ∨ e = 8) : Calls Try.prog 38 #[.int .i64 e] w fun r w' => r = .returned (.func (.func (mayF e)) #[] #[]) ∧ w = w' := by
  rcases he with rfl | rfl | rfl | rfl | rfl | rfl | rfl
  all_goals
    go_enter Try.func38, Try.ntmps38
    go_wp2
    go_ret
    exact ⟨rfl, rfl⟩

set_option maxHeartbeats 2000000 in
theorem check_any (w : World) (p : Nat) (m : Mt) (tr : List Int) (ov tv : Value) (n : Nat) (h : LogAt w p m tr ov tv) (hk : m.ok n) (hn : n ≤ 1000000) (e : Int) :
    Calls Try.prog 31 #[.pointer (some ⟨p, 0, none⟩), .int .i64 e] w fun r w' => r = .returned (.int .i64 (m.check e)) ∧ Below w.heap.size w w' := by
  have HLive := Lib.hid (live_any w p m tr ov tv n h hk hn)
  have HNow := Lib.hid (now_any w p m tr ov tv n h hk hn)
  have HC : Hid (m.check e = if e < 1 ∨ 8 < e then 2 else if e = 7 then (if m.live = 0 then 13 else 0) else if mayM e m.now = false then 13 else 0) := rfl
  clear h hk
  generalize m.check e = R at *
  generalize m.live = lv at *
  generalize m.now = s at *
  by_cases he : e < 1 ∨ 8 < e
  · have HR := Lib.hid (HC.out.trans (if_pos he))
    clear HC
    rcases he with he | he
    all_goals
      go_enter Try.func31, Try.ntmps31
      go_wp2_with fail
      go_ret
      exact ⟨ret_int HR.out.symm, Below.refl _ _⟩
  · have HR := Lib.hid (HC.out.trans (if_neg he))
    clear HC
    by_cases h7 : e = 7
    · subst h7
      by_cases hl : lv = 0
      · subst hl
        go_enter Try.func31, Try.ntmps31
        go_wp2_with (go_at_call 37; refine HLive.out.mono ?_; rintro e w' ⟨rfl, hb⟩; have HB := Lib.hid hb; clear hb)
        go_ret
        exact ⟨ret_int (by rw [HR.out]; rfl), HB.out⟩
      · have hl0 : (lv == 0) = false := by simpa using hl
        have HR2 : Hid (R = 0) := by unfold Hid; rw [HR.out, if_pos rfl, if_neg hl]
        clear hl HR
        go_enter Try.func31, Try.ntmps31
        go_wp2_with (go_at_call 37; refine HLive.out.mono ?_; rintro e w' ⟨rfl, hb⟩; have HB := Lib.hid hb; clear hb)
        go_ret
        exact ⟨ret_int HR2.out.symm, HB.out⟩
    · have HR2 := Lib.hid (HR.out.trans (if_neg h7))
      clear HR
      have h8 : e = 1 ∨ e = 2 ∨ e = 3 ∨ e = 4 ∨ e = 5 ∨ e = 6 ∨ e = 8 := by omega
      have HM := Lib.hid (fun w => mayP_any e w h8)
      clear he h7
      rcases h8 with rfl | rfl | rfl | rfl | rfl | rfl | rfl
      · have HM1 : Hid (∀ w, Calls Try.prog 38 #[.int .i64 1] w fun r w' => r = .returned (.func (.func 41) #[] #[]) ∧ w = w') := HM.out
        go_enter Try.func31, Try.ntmps31
        go_wp2_with (first
          | (go_at_call 38; refine (HM1.out _).mono ?_; rintro e w' ⟨rfl, rfl⟩)
          | (go_at_call 39; refine HNow.out.mono ?_; rintro e w' ⟨rfl, rfl⟩)
          | (go_at_call 41; refine (idle_any _ _).mono ?_; rintro e w' ⟨rfl, rfl⟩))
        all_goals
          go_ret
          exact ⟨ret_int (by rw [HR2.out]; simp_all [mayM] <;> omega), Below.refl _ _⟩
      · have HM1 : Hid (∀ w, Calls Try.prog 38 #[.int .i64 2] w fun r w' => r = .returned (.func (.func 42) #[] #[]) ∧ w = w') := HM.out
        go_enter Try.func31, Try.ntmps31
        go_wp2_with (first
          | (go_at_call 38; refine (HM1.out _).mono ?_; rintro e w' ⟨rfl, rfl⟩)
          | (go_at_call 39; refine HNow.out.mono ?_; rintro e w' ⟨rfl, rfl⟩)
          | (go_at_call 42; refine (ready_any _ _).mono ?_; rintro e w' ⟨rfl, rfl⟩))
        all_goals
          go_ret
          exact ⟨ret_int (by rw [HR2.out]; simp_all [mayM] <;> omega), Below.refl _ _⟩
      · have HM1 : Hid (∀ w, Calls Try.prog 38 #[.int .i64 3] w fun r w' => r = .returned (.func (.func 43) #[] #[]) ∧ w = w') := HM.out
        go_enter Try.func31, Try.ntmps31
        go_wp2_with (first
          | (go_at_call 38; refine (HM1.out _).mono ?_; rintro e w' ⟨rfl, rfl⟩)
          | (go_at_call 39; refine HNow.out.mono ?_; rintro e w' ⟨rfl, rfl⟩)
          | (go_at_call 43; refine (inside_any _ _).mono ?_; rintro e w' ⟨rfl, rfl⟩))
        all_goals
          go_ret
          exact ⟨ret_int (by rw [HR2.out]; simp_all [mayM] <;> omega), Below.refl _ _⟩
      · have HM1 : Hid (∀ w, Calls Try.prog 38 #[.int .i64 4] w fun r w' => r = .returned (.func (.func 43) #[] #[]) ∧ w = w') := HM.out
        go_enter Try.func31, Try.ntmps31
        go_wp2_with (first
          | (go_at_call 38; refine (HM1.out _).mono ?_; rintro e w' ⟨rfl, rfl⟩)
          | (go_at_call 39; refine HNow.out.mono ?_; rintro e w' ⟨rfl, rfl⟩)
          | (go_at_call 43; refine (inside_any _ _).mono ?_; rintro e w' ⟨rfl, rfl⟩))
        all_goals
          go_ret
          exact ⟨ret_int (by rw [HR2.out]; simp_all [mayM] <;> omega), Below.refl _ _⟩
      · have HM1 : Hid (∀ w, Calls Try.prog 38 #[.int .i64 5] w fun r w' => r = .returned (.func (.func 41) #[] #[]) ∧ w = w') := HM.out
        go_enter Try.func31, Try.ntmps31
        go_wp2_with (first
          | (go_at_call 38; refine (HM1.out _).mono ?_; rintro e w' ⟨rfl, rfl⟩)
          | (go_at_call 39; refine HNow.out.mono ?_; rintro e w' ⟨rfl, rfl⟩)
          | (go_at_call 41; refine (idle_any _ _).mono ?_; rintro e w' ⟨rfl, rfl⟩))
        all_goals
          go_ret
          exact ⟨ret_int (by rw [HR2.out]; simp_all [mayM] <;> omega), Below.refl _ _⟩
      · have HM1 : Hid (∀ w, Calls Try.prog 38 #[.int .i64 6] w fun r w' => r = .returned (.func (.func 44) #[] #[]) ∧ w = w') := HM.out
        go_enter Try.func31, Try.ntmps31
        go_wp2_with (first
          | (go_at_call 38; refine (HM1.out _).mono ?_; rintro e w' ⟨rfl, rfl⟩)
          | (go_at_call 39; refine HNow.out.mono ?_; rintro e w' ⟨rfl, rfl⟩)
          | (go_at_call 44; refine (found_any _ _).mono ?_; rintro e w' ⟨rfl, rfl⟩))
        all_goals
          go_ret
          exact ⟨ret_int (by rw [HR2.out]; simp_all [mayM] <;> omega), Below.refl _ _⟩
      · have HM1 : Hid (∀ w, Calls Try.prog 38 #[.int .i64 8] w fun r w' => r = .returned (.func (.func 44) #[] #[]) ∧ w = w') := HM.out
        go_enter Try.func31, Try.ntmps31
        go_wp2_with (first
          | (go_at_call 38; refine (HM1.out _).mono ?_; rintro e w' ⟨rfl, rfl⟩)
          | (go_at_call 39; refine HNow.out.mono ?_; rintro e w' ⟨rfl, rfl⟩)
          | (go_at_call 44; refine (found_any _ _).mono ?_; rintro e w' ⟨rfl, rfl⟩))
        all_goals
          go_ret
          exact ⟨ret_int (by rw [HR2.out]; simp_all [mayM] <;> omega), Below.refl _ _⟩
end Go.Proofs.Ytbndpmfekglnkaa
