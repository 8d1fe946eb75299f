/- Plain: what is derived of bytes that lie elsewhere; brackets; the longest front of a front. -/
import Derived.Test.YtmpccinbeepbgaaGr2
namespace Go.Proofs.Ytmpccinbeepbgaa

section
variable {l : Tab} {w u : List Int} {v a b d : Nat}

/-- The same bytes elsewhere derive the same. -/
theorem Jf.shift : ∀ {f : Nat} {t : Option Nat} {a b : Nat}, Jf l w f t a b → (∀ p, a ≤ p → p < b → bt u (p + d) = bt w p) → Jf l u f t (a + d) (b + d)
  | 0, _, _, _, h, _ => h.elim
  | f + 1, none, a, b, h, hw => by
    rcases h with ⟨h1, h2⟩ | ⟨h1, e, h2, h3, h4⟩
    · exact .inl ⟨by rw [hw a (Nat.le_refl _) (by omega)]; exact h1, by omega⟩
    · have := h4.bd
      refine .inr ⟨by rw [hw a (Nat.le_refl _) (by omega)]; exact h1, e + d, by omega, by rw [hw e (by omega) (by omega)]; exact h3, ?_⟩
      have := h4.shift (fun p hp hq => hw p (by omega) (by omega))
      rwa [show a + 1 + d = a + d + 1 by omega] at this
  | f + 1, some v, a, b, h, hw => by
    rcases h with h | ⟨c, j, h1, h2, h3, h4⟩
    · exact .inl (h.shift hw)
    · have := h1.bd; have := h4.bd
      refine .inr ⟨c + d, j, h1.shift (fun p hp hq => hw p hp (by omega)), by rw [hw c (by omega) (by omega)]; exact h2, h3, ?_⟩
      have := h4.shift (fun p hp hq => hw p (by omega) hq)
      rwa [show c + 1 + d = c + d + 1 by omega] at this
theorem Jf.unshift : ∀ {f : Nat} {t : Option Nat} {a' b' a : Nat}, Jf l u f t a' b' → a' = a + d → (∀ p, a ≤ p → p + d < b' → bt u (p + d) = bt w p) → ∃ b, b' = b + d ∧ Jf l w f t a b
  | 0, _, _, _, _, h, _, _ => h.elim
  | f + 1, none, _, b', a, h, rfl, hw => by
    have hb := h.bd
    rcases h with ⟨h1, h2⟩ | ⟨h1, e, h2, h3, h4⟩
    · exact ⟨a + 1, by omega, .inl ⟨by rw [← hw a (Nat.le_refl _) (by omega)]; exact h1, rfl⟩⟩
    · have := h4.bd
      obtain ⟨e', he, h5⟩ := h4.unshift (a := a + 1) (by omega) (fun p hp hq => hw p (by omega) (by omega))
      subst he
      exact ⟨e' + 1, by omega, .inr ⟨by rw [← hw a (Nat.le_refl _) (by omega)]; exact h1, e', rfl, by rw [← hw e' (by omega) (by omega)]; exact h3, h5⟩⟩
  | f + 1, some v, _, b', a, h, rfl, hw => by
    rcases h with h | ⟨c, j, h1, h2, h3, h4⟩
    · obtain ⟨b, hb, h⟩ := h.unshift rfl hw
      exact ⟨b, hb, .inl h⟩
    · have := h1.bd; have := h4.bd
      obtain ⟨c', hc, h5⟩ := h1.unshift rfl (fun p hp hq => hw p hp (by omega))
      subst hc
      obtain ⟨b, hb, h6⟩ := h4.unshift (a := c' + 1) (by omega) (fun p hp hq => hw p (by omega) hq)
      exact ⟨b, hb, .inr ⟨c', j, h5, by rw [← hw c' (by omega) (by omega)]; exact h2, h3, h6⟩⟩
theorem hr_shift (h : ∀ p, a ≤ p → p < b → bt u (p + d) = bt w p) : Hr l u v (a + d) (b + d) ↔ Hr l w v a b := by
  constructor
  · rintro ⟨f, k⟩
    obtain ⟨b', hb, k⟩ := k.unshift rfl (fun p hp hq => h p hp (by omega))
    obtain rfl : b = b' := by omega
    exact ⟨f, k⟩
  · rintro ⟨f, k⟩
    exact ⟨f, k.shift h⟩

theorem bt_append (x y : List Int) (p : Nat) : bt (x ++ y) p = if p < x.length then bt x p else bt y (p - x.length) := by
  unfold bt
  simp only [List.getD_eq_getElem?_getD]
  split <;> rename_i h
  · rw [List.getElem?_append_left h]
  · rw [List.getElem?_append_right (by omega)]
theorem bt_cons (x : Int) (y : List Int) (p : Nat) : bt (x :: y) (p + 1) = bt y p := by
  unfold bt; simp [List.getD_eq_getElem?_getD]
theorem bt_zero (x : Int) (y : List Int) : bt (x :: y) 0 = x := rfl
theorem bt_drop (x : List Int) (k p : Nat) : bt (x.drop k) p = bt x (k + p) := by
  unfold bt; simp [List.getD_eq_getElem?_getD]

/-- What the last symbol derives of bytes in brackets. -/
theorem hr_brackets (x : List Int) : Hr l (40 :: (x ++ [41])) l.length 0 (x.length + 2) ↔ Hr l x 0 0 x.length := by
  have key : ∀ p, 0 ≤ p → p < x.length → bt (40 :: (x ++ [41])) (p + 1) = bt x p := fun p _ hp => by
    rw [bt_cons, bt_append, if_pos hp]
  have hs := hr_shift (l := l) (v := 0) (d := 1) key
  constructor
  · intro h
    rcases pr_iff.1 (h.last (Nat.le_refl _)) with ⟨h1, h2⟩ | ⟨h1, e, h2, h3, h4⟩
    · omega
    · obtain rfl : e = x.length + 1 := by omega
      exact hs.1 h4
  · intro h
    refine hr_iff.2 (.inl (pr_iff.2 (.inr ⟨rfl, x.length + 1, rfl, ?_, hs.2 h⟩)))
    rw [bt_cons, bt_append, if_neg (by omega), Nat.sub_self]; rfl

/-- The longest front of a front's bytes. -/
theorem mx_take {t e : Nat} (h : Mx l (w.take t) v a e) (ht : t ≤ w.length) : e ≤ t ∧ Hr l w v a e ∧ (e = t ↔ Hr l w v a t) := by
  have hb := h.1.bd
  have he : e ≤ t := by have := hb.2; rw [List.length_take] at this; omega
  have h1 := (hr_take t he).1 h.1
  refine ⟨he, h1, fun hh => hh ▸ h1, fun hh => ?_⟩
  have := h.2 _ ((hr_take t (Nat.le_refl _)).2 hh)
  omega
theorem no_take {t : Nat} (h : ∀ e, ¬ Pr l (w.take t) a e) {e : Nat} (he : e ≤ t) : ¬ Hr l w v a e := by
  intro k
  obtain ⟨g, hg⟩ := ((hr_take t he).2 k).first
  exact h g hg
end
end Go.Proofs.Ytmpccinbeepbgaa
