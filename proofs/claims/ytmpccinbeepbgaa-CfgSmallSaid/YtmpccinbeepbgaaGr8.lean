/- Plain: the chart counts derivations. -/
import Derived.Test.YtmpccinbeepbgaaGr7
namespace Go.Proofs.Ytmpccinbeepbgaa

/-- How many derivations there are: one at most. -/
noncomputable def Vc (l : Tab) (w : List Int) (i a b : Nat) : Nat := @ite _ (Hr l w i a b) (Classical.propDecidable _) 1 0
/-- How many have the operator's sign at a place. -/
noncomputable def Pt (l : Tab) (w : List Int) (i a k b : Nat) : Nat := if bt w k = sg l i then Vc l w (lf l i) a k * Vc l w (bh l i) (k + 1) b else 0
def sumK (f : Nat → Nat) (s : Nat) : Nat → Nat
  | 0 => 0
  | m + 1 => sumK f s m + f (s + m)

section
variable {l : Tab} {w : List Int} {i a b c : Nat}
theorem Vc_yes (h : Hr l w i a b) : Vc l w i a b = 1 := by unfold Vc; rw [if_pos h]
theorem Vc_no (h : ¬ Hr l w i a b) : Vc l w i a b = 0 := by unfold Vc; rw [if_neg h]
theorem Vc_le : Vc l w i a b ≤ 1 := by
  by_cases h : Hr l w i a b
  · rw [Vc_yes h]; exact Nat.le_refl _
  · rw [Vc_no h]; exact Nat.zero_le _
theorem Vc_pos : 0 < Vc l w i a b ↔ Hr l w i a b := by
  by_cases h : Hr l w i a b
  · rw [Vc_yes h]; simp [h]
  · rw [Vc_no h]; simp [h]
theorem Pt_pos (hi : i < l.length) (h : 0 < Pt l w i a c b) : Sp l w i a b c := by
  unfold Pt at h
  split at h
  · rename_i hc
    have := Nat.pos_of_mul_pos_right h
    have h1 : 0 < Vc l w (lf l i) a c := by
      rcases Nat.eq_zero_or_pos (Vc l w (lf l i) a c) with h0 | h0
      · rw [h0, Nat.zero_mul] at h; omega
      · exact h0
    have h2 : 0 < Vc l w (bh l i) (c + 1) b := by
      rcases Nat.eq_zero_or_pos (Vc l w (bh l i) (c + 1) b) with h0 | h0
      · rw [h0, Nat.mul_zero] at h; omega
      · exact h0
    exact ⟨hi, hc, Vc_pos.1 h1, Vc_pos.1 h2⟩
  · omega
theorem Pt_sp (h : Sp l w i a b c) : Pt l w i a c b = 1 := by
  unfold Pt
  rw [if_pos h.2.1, Vc_yes h.2.2.1, Vc_yes h.2.2.2]
theorem Pt_le : Pt l w i a c b ≤ 1 := by
  unfold Pt
  split
  · have h1 := Vc_le (l := l) (w := w) (i := lf l i) (a := a) (b := c); have h2 := Vc_le (l := l) (w := w) (i := bh l i) (a := c + 1) (b := b)
    exact Nat.le_trans (Nat.mul_le_mul h1 h2) (by omega)
  · omega
theorem sumK_zero {f : Nat → Nat} {s : Nat} : ∀ m, (∀ k, k < m → f (s + k) = 0) → sumK f s m = 0
  | 0, _ => rfl
  | m + 1, h => by rw [sumK, sumK_zero m (fun k hk => h k (by omega)), h m (by omega)]
theorem sumK_one {f : Nat → Nat} {s : Nat} : ∀ m k, k < m → f (s + k) = 1 → (∀ j, j < m → j ≠ k → f (s + j) = 0) → sumK f s m = 1
  | 0, k, hk, _, _ => by omega
  | m + 1, k, hk, h1, h0 => by
    by_cases e : k = m
    · subst e
      rw [sumK, sumK_zero k (fun j hj => h0 j (by omega) (by omega)), h1]
    · rw [sumK, sumK_one m k (by omega) h1 (fun j hj hne => h0 j (by omega) hne), h0 m (by omega) (fun h => e h.symm)]
theorem sumK_le {f : Nat → Nat} {s : Nat} (h : ∀ k, f k ≤ 1) : ∀ m, sumK f s m ≤ m
  | 0 => Nat.le_refl _
  | m + 1 => by have := sumK_le (s := s) h m; have := h (s + m); rw [sumK]; omega

theorem count_op (hl : RightT l) (hi : i < l.length) (hab : a + 1 ≤ b) : min (Vc l w (i + 1) a b + sumK (fun k => Pt l w i a k b) (a + 1) (b - 1 - (a + 1))) 2 = Vc l w i a b := by
  by_cases h1 : Hr l w (i + 1) a b
  · rw [Vc_yes h1, Vc_yes (h1.weak (by omega)), sumK_zero]
    · rfl
    · intro k _
      rcases Nat.eq_zero_or_pos (Pt l w i a (a + 1 + k) b) with h0 | h0
      · exact h0
      · exact absurd h1 ((Pt_pos hi h0).not hl)
  · rw [Vc_no h1]
    by_cases h2 : Hr l w i a b
    · rcases h2.split hl hi with h3 | ⟨c, h3⟩
      · exact absurd h3 h1
      · have hc := h3.bd
        rw [Vc_yes h2, sumK_one _ (c - (a + 1)) (by omega) (by rw [show a + 1 + (c - (a + 1)) = c by omega]; exact Pt_sp h3) (fun j hj hne => ?_)]
        · rfl
        rcases Nat.eq_zero_or_pos (Pt l w i a (a + 1 + j) b) with h0 | h0
        · exact h0
        · have := (Pt_pos hi h0).one hl h3; omega
    · rw [Vc_no h2, sumK_zero]
      · rfl
      · intro k _
        rcases Nat.eq_zero_or_pos (Pt l w i a (a + 1 + k) b) with h0 | h0
        · exact h0
        · exact absurd ((Pt_pos hi h0).hr hl) h2
theorem count_dig (h : isDig (bt w a)) : Vc l w l.length a (a + 1) = 1 := Vc_yes (hr_iff.2 (.inl (pr_iff.2 (.inl ⟨h, rfl⟩))))
theorem count_br (h1 : a + 2 < b) (h2 : bt w a = 40) (h3 : bt w (b - 1) = 41) : Vc l w l.length a b = Vc l w 0 (a + 1) (b - 1) := by
  have key : Hr l w l.length a b ↔ Hr l w 0 (a + 1) (b - 1) := by
    constructor
    · intro h
      rcases pr_iff.1 (h.last (Nat.le_refl _)) with ⟨_, h5⟩ | ⟨_, e, h5, _, h6⟩
      · omega
      · rw [show b - 1 = e by omega]; exact h6
    · intro h
      exact hr_iff.2 (.inl (pr_iff.2 (.inr ⟨h2, b - 1, by omega, h3, h⟩)))
  by_cases h : Hr l w 0 (a + 1) (b - 1)
  · rw [Vc_yes h, Vc_yes (key.2 h)]
  · rw [Vc_no h, Vc_no (fun k => h (key.1 k))]
theorem count_none (h1 : ¬ (b = a + 1 ∧ isDig (bt w a))) (h2 : ¬ (a + 2 < b ∧ bt w a = 40 ∧ bt w (b - 1) = 41)) : Vc l w l.length a b = 0 := by
  refine Vc_no fun h => ?_
  rcases pr_iff.1 (h.last (Nat.le_refl _)) with ⟨h4, h5⟩ | ⟨h4, e, h5, h6, h7⟩
  · exact h1 ⟨h5, h4⟩
  · have := h7.bd
    exact h2 ⟨by omega, h4, by rw [h5]; exact h6⟩
theorem Vc_empty : Vc l w i a a = 0 := Vc_no fun h => by have := h.bd; omega
theorem wayI_Vc (hl : RightT l) (hi : i ≤ l.length) (hb : b ≤ w.length) : wayI l w i a b = Vc l w i a b := by
  unfold wayI
  by_cases h : Hr l w i a b
  · rw [if_pos ((derB_nat hl hi hb).2 h), Vc_yes h]; rfl
  · rw [if_neg (fun k => h ((derB_nat hl hi hb).1 k)), Vc_no h]; rfl
end
end Go.Proofs.Ytmpccinbeepbgaa
