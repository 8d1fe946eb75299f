/- Plain: the chapter's examples. -/
import Derived.Test.YtmpccinbeepbgaaGr4
namespace Go.Proofs.Ytmpccinbeepbgaa

/-- A test that shows that something is derived. -/
def jfB (l : Tab) (w : List Int) : Nat → Option Nat → Nat → Nat → Bool
  | 0, _, _, _ => false
  | f + 1, none, a, b => (decide (isDig (bt w a)) && decide (b = a + 1)) || (decide (bt w a = 40) && decide (1 ≤ b) && decide (bt w (b - 1) = 41) && jfB l w f (some 0) (a + 1) (b - 1))
  | f + 1, some v, a, b => jfB l w f none a b || (List.range w.length).any fun c => jfB l w f none a c && (match ix l (bt w c) with | some j => decide (v ≤ j) | none => false) && jfB l w f (some v) (c + 1) b
theorem jfB_ok {l : Tab} {w : List Int} : ∀ (f : Nat) (t : Option Nat) (a b : Nat), jfB l w f t a b = true → Jf l w f t a b
  | 0, _, _, _, h => by cases h
  | f + 1, none, a, b, h => by
    simp only [jfB, Bool.or_eq_true, Bool.and_eq_true, decide_eq_true_eq] at h
    rcases h with ⟨h1, h2⟩ | ⟨⟨⟨h1, h2⟩, h3⟩, h4⟩
    · exact .inl ⟨h1, h2⟩
    · exact .inr ⟨h1, b - 1, by omega, h3, jfB_ok f _ _ _ h4⟩
  | f + 1, some v, a, b, h => by
    simp only [jfB, Bool.or_eq_true, List.any_eq_true, Bool.and_eq_true] at h
    rcases h with h | ⟨c, _, ⟨h1, h2⟩, h3⟩
    · exact .inl (jfB_ok f _ _ _ h)
    · cases hj : ix l (bt w c) with
      | none => rw [hj] at h2; cases h2
      | some j =>
        rw [hj] at h2
        exact .inr ⟨c, j, jfB_ok f _ _ _ h1, hj, by simpa using h2, jfB_ok f _ _ _ h3⟩
theorem hr_of {l : Tab} {w : List Int} {v a b : Nat} (f : Nat) (h : jfB l w f (some v) a b = true) : Hr l w v a b := ⟨f, jfB_ok f _ _ _ h⟩

def exL : Tab := [(43, false), (94, true)]
def exW : List Int := [49, 43, 50, 94, 51, 94, 52, 43, 53]
def exV : List Int := [49, 43, 40, 50]
def exT : List Tw := [tw 0 0 9 2, tw 0 0 7 2, tw 0 0 1 0, tw 1 2 7 2, tw 1 2 3 0, tw 1 4 7 2, tw 1 4 5 0, tw 1 6 7 0, tw 1 8 9 0]

theorem ex_right : RightT exL := by
  have two : ∀ i, i < exL.length → i = 0 ∨ i = 1 := fun i hi => by have : exL.length = 2 := rfl; omega
  refine ⟨by decide, by decide, fun i hi => ?_, fun i j hi hj he => ?_⟩
  · rcases two i hi with rfl | rfl
    · exact ⟨by decide, by decide, by decide, by decide, by decide⟩
    · exact ⟨by decide, by decide, by decide, by decide, by decide⟩
  · rcases two i hi with rfl | rfl <;> rcases two j hj with rfl | rfl
    · rfl
    · exact absurd he (by decide)
    · exact absurd he (by decide)
    · rfl
theorem ex_dig {p : Nat} (h : isDig (bt exW p)) : KD exL exW p (p + 1) [] 0 := KD.dig h
theorem ex_sp7 : Sp exL exW 0 0 9 7 := ⟨by decide, by decide, hr_of 8 (by decide +kernel), hr_of 8 (by decide +kernel)⟩
theorem ex_sp1 : Sp exL exW 0 0 7 1 := ⟨by decide, by decide, hr_of 8 (by decide +kernel), hr_of 8 (by decide +kernel)⟩
theorem ex_sp3 : Sp exL exW 1 2 7 3 := ⟨by decide, by decide, hr_of 8 (by decide +kernel), hr_of 8 (by decide +kernel)⟩
theorem ex_sp5 : Sp exL exW 1 4 7 5 := ⟨by decide, by decide, hr_of 8 (by decide +kernel), hr_of 8 (by decide +kernel)⟩
theorem ex_hr : Hr exL exW 0 0 9 := ex_sp7.hr ex_right
theorem ex_hr1 : Hr exL exW 1 2 7 := ex_sp3.hr ex_right
theorem ex_not : ¬ Hr exL exW 1 0 9 := ex_sp7.not ex_right
theorem ex_kd : KD exL exW 0 9 exT.tail 2 :=
  KD.sp ex_sp7 (KD.sp ex_sp1 (ex_dig (p := 0) (by decide)) (KD.sp ex_sp3 (ex_dig (p := 2) (by decide)) (KD.sp ex_sp5 (ex_dig (p := 4) (by decide)) (ex_dig (p := 6) (by decide))))) (ex_dig (p := 8) (by decide))
theorem ex_mx : Mx exL exV 0 0 1 := by
  refine Mx.of ex_right (hr_of 3 (by decide +kernel)) (fun j e hj _ he => ?_)
  rcases pr_iff.1 he with ⟨h1, _⟩ | ⟨_, g, h2, h3, h4⟩
  · exact absurd h1 (by decide)
  · have hg := bt_lt (w := exV) (a := g) (by omega)
    have h5 := h4.bd
    have h6 : exV.length = 4 := rfl
    obtain rfl : g = 3 := by omega
    omega

theorem ex_der : derB exL exW 0 0 9 = true := (derB_nat ex_right (by decide) (by decide)).2 ex_hr
theorem ex_der1 : derB exL exW 1 2 7 = true := (derB_nat ex_right (by decide) (by decide)).2 ex_hr1
theorem ex_der0 : derB exL exW 1 0 9 = false := by
  rw [← Bool.not_eq_true]
  exact fun h => ex_not ((derB_nat ex_right (v := 1) (a := 0) (b := 9) (by decide) (by decide)).1 h)
theorem ex_lg : lgO exL exV 0 = some 1 := lgO_eq ⟨⟨ex_right, by decide, by decide, by decide, by decide, by decide⟩, ex_mx⟩
theorem ex_tr : trT exL exW 0 9 = exT := trT_yes ex_der (t := exT.tail) (m := 2) ex_kd
end Go.Proofs.Ytmpccinbeepbgaa
