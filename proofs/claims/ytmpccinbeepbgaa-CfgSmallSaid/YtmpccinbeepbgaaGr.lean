/- Plain: what the symbols of a table derive; no program in sight. -/
import Derived.WalkKit
namespace Go.Proofs.Ytmpccinbeepbgaa

abbrev Tab := List (Int × Bool)

/-- The byte at a place, -1 behind the end. -/
def bt (w : List Int) (p : Nat) : Int := w.getD p (-1)
def isDig (c : Int) : Prop := 48 ≤ c ∧ c ≤ 57
instance (c : Int) : Decidable (isDig c) := by unfold isDig; infer_instance
/-- The number of the operator that has a sign. -/
def ix (l : Tab) (c : Int) : Option Nat := l.findIdx? (fun o => o.1 == c)
/-- A right table: signs are bytes, no digits, no brackets, apart. -/
structure RightT (l : Tab) : Prop where
  pos : 1 ≤ l.length
  le : l.length ≤ 32
  ok : ∀ i, i < l.length → 0 ≤ (l.getD i (0, false)).1 ∧ (l.getD i (0, false)).1 ≤ 255 ∧ ¬ isDig (l.getD i (0, false)).1 ∧ (l.getD i (0, false)).1 ≠ 40 ∧ (l.getD i (0, false)).1 ≠ 41
  apart : ∀ i j, i < l.length → j < l.length → (l.getD i (0, false)).1 = (l.getD j (0, false)).1 → i = j

theorem ix_some {l : Tab} {c : Int} {j : Nat} (h : ix l c = some j) : j < l.length ∧ (l.getD j (0, false)).1 = c := by
  unfold ix at h
  rw [List.findIdx?_eq_some_iff_getElem] at h
  obtain ⟨h1, h2, _⟩ := h
  refine ⟨h1, ?_⟩
  simp only [List.getD_eq_getElem?_getD, List.getElem?_eq_getElem h1, Option.getD_some]
  simpa using h2
theorem ix_of {l : Tab} (hl : RightT l) {j : Nat} (h : j < l.length) : ix l (l.getD j (0, false)).1 = some j := by
  cases hx : ix l (l.getD j (0, false)).1 with
  | none =>
    unfold ix at hx
    rw [List.findIdx?_eq_none_iff] at hx
    have := hx l[j] (List.getElem_mem h)
    simp [List.getD_eq_getElem?_getD, List.getElem?_eq_getElem h] at this
  | some i =>
    obtain ⟨h1, h2⟩ := ix_some hx
    rw [hl.apart i j h1 h h2]
theorem ix_not {l : Tab} (hl : RightT l) {c : Int} (h : c = 40 ∨ c = 41 ∨ isDig c ∨ c < 0) : ix l c = none := by
  cases hx : ix l c with
  | none => rfl
  | some i =>
    obtain ⟨h1, h2⟩ := ix_some hx
    have := hl.ok i h1
    rw [h2] at this
    rcases h with h | h | h | h
    · omega
    · omega
    · exact absurd h this.2.2.1
    · omega

/-- With fuel: none: what the last symbol derives; some v: what the symbol v derives, as a chain of such, with operators from v on between them. -/
def Jf (l : Tab) (w : List Int) : Nat → Option Nat → Nat → Nat → Prop
  | 0, _, _, _ => False
  | f + 1, none, a, b => (isDig (bt w a) ∧ b = a + 1) ∨ (bt w a = 40 ∧ ∃ e, b = e + 1 ∧ bt w e = 41 ∧ Jf l w f (some 0) (a + 1) e)
  | f + 1, some v, a, b => Jf l w f none a b ∨ ∃ c j, Jf l w f none a c ∧ ix l (bt w c) = some j ∧ v ≤ j ∧ Jf l w f (some v) (c + 1) b

theorem Jf.mono {l : Tab} {w : List Int} : ∀ {f : Nat} {t : Option Nat} {a b : Nat}, Jf l w f t a b → ∀ g, f ≤ g → Jf l w g t a b
  | 0, _, _, _, h, _, _ => h.elim
  | f + 1, none, a, b, h, g, hg => by
    obtain ⟨g, rfl⟩ : ∃ k, g = k + 1 := ⟨g - 1, by omega⟩
    rcases h with h | ⟨h1, e, h2, h3, h4⟩
    · exact .inl h
    · exact .inr ⟨h1, e, h2, h3, h4.mono g (by omega)⟩
  | f + 1, some v, a, b, h, g, hg => by
    obtain ⟨g, rfl⟩ : ∃ k, g = k + 1 := ⟨g - 1, by omega⟩
    rcases h with h | ⟨c, j, h1, h2, h3, h4⟩
    · exact .inl (h.mono g (by omega))
    · exact .inr ⟨c, j, h1.mono g (by omega), h2, h3, h4.mono g (by omega)⟩

/-- What the last symbol derives. -/
def Pr (l : Tab) (w : List Int) (a b : Nat) : Prop := ∃ f, Jf l w f none a b
/-- What the symbol v derives. -/
def Hr (l : Tab) (w : List Int) (v a b : Nat) : Prop := ∃ f, Jf l w f (some v) a b

section
variable {l : Tab} {w : List Int} {v a b c e : Nat}

theorem pr_iff : Pr l w a b ↔ (isDig (bt w a) ∧ b = a + 1) ∨ (bt w a = 40 ∧ ∃ e, b = e + 1 ∧ bt w e = 41 ∧ Hr l w 0 (a + 1) e) := by
  constructor
  · rintro ⟨f, h⟩
    cases f with
    | zero => exact h.elim
    | succ f =>
      rcases h with h | ⟨h1, e, h2, h3, h4⟩
      · exact .inl h
      · exact .inr ⟨h1, e, h2, h3, f, h4⟩
  · rintro (h | ⟨h1, e, h2, h3, f, h4⟩)
    · exact ⟨1, .inl h⟩
    · exact ⟨f + 1, .inr ⟨h1, e, h2, h3, h4⟩⟩
theorem hr_iff : Hr l w v a b ↔ Pr l w a b ∨ ∃ c j, Pr l w a c ∧ ix l (bt w c) = some j ∧ v ≤ j ∧ Hr l w v (c + 1) b := by
  constructor
  · rintro ⟨f, h⟩
    cases f with
    | zero => exact h.elim
    | succ f =>
      rcases h with h | ⟨c, j, h1, h2, h3, h4⟩
      · exact .inl ⟨f, h⟩
      · exact .inr ⟨c, j, ⟨f, h1⟩, h2, h3, f, h4⟩
  · rintro (⟨f, h⟩ | ⟨c, j, ⟨f, h1⟩, h2, h3, g, h4⟩)
    · exact ⟨f + 1, .inl h⟩
    · exact ⟨max f g + 1, .inr ⟨c, j, h1.mono _ (by omega), h2, h3, h4.mono _ (by omega)⟩⟩

theorem bt_lt (h : 0 ≤ bt w a) : a < w.length := by
  unfold bt at h
  rcases Nat.lt_or_ge a w.length with h1 | h1
  · exact h1
  · rw [List.getD_eq_getElem?_getD, List.getElem?_eq_none h1] at h
    exact absurd h (by decide)

theorem Jf.bd : ∀ {f : Nat} {t : Option Nat} {a b : Nat}, Jf l w f t a b → a < b ∧ b ≤ w.length
  | 0, _, _, _, h => h.elim
  | f + 1, none, a, b, h => by
    rcases h with ⟨h1, h2⟩ | ⟨h1, e, h2, h3, h4⟩
    · have := bt_lt (w := w) (a := a) (by have := h1.1; omega); omega
    · have := h4.bd
      have := bt_lt (w := w) (a := e) (by omega)
      omega
  | f + 1, some v, a, b, h => by
    rcases h with h | ⟨c, j, h1, h2, h3, h4⟩
    · exact h.bd
    · have := h1.bd; have := h4.bd; omega
theorem Pr.bd (h : Pr l w a b) : a < b ∧ b ≤ w.length := let ⟨_, h⟩ := h; h.bd
theorem Hr.bd (h : Hr l w v a b) : a < b ∧ b ≤ w.length := let ⟨_, h⟩ := h; h.bd

theorem Jf.weak : ∀ {f : Nat} {v u a b : Nat}, Jf l w f (some v) a b → u ≤ v → Jf l w f (some u) a b
  | 0, _, _, _, _, h, _ => h.elim
  | f + 1, v, u, a, b, h, hu => by
    rcases h with h | ⟨c, j, h1, h2, h3, h4⟩
    · exact .inl h
    · exact .inr ⟨c, j, h1, h2, by omega, h4.weak hu⟩
theorem Hr.weak {u : Nat} (h : Hr l w v a b) (hu : u ≤ v) : Hr l w u a b := let ⟨f, h⟩ := h; ⟨f, h.weak hu⟩

theorem Jf.join : ∀ {f : Nat} {a c : Nat}, Jf l w f (some v) a c → ∀ {j b : Nat}, ix l (bt w c) = some j → v ≤ j → Hr l w v (c + 1) b → Hr l w v a b
  | 0, _, _, h, _, _, _, _, _ => h.elim
  | f + 1, a, c, h, j, b, hj, hv, hb => by
    rcases h with h | ⟨c', j', h1, h2, h3, h4⟩
    · exact hr_iff.2 (.inr ⟨c, j, ⟨f, h⟩, hj, hv, hb⟩)
    · exact hr_iff.2 (.inr ⟨c', j', ⟨f, h1⟩, h2, h3, h4.join hj hv hb⟩)
theorem Hr.join (h : Hr l w v a c) {j : Nat} (hj : ix l (bt w c) = some j) (hv : v ≤ j) (hb : Hr l w v (c + 1) b) : Hr l w v a b := let ⟨_, h⟩ := h; h.join hj hv hb

/-- Of two that begin together, the shorter one goes on by an operator. -/
theorem next (hl : RightT l) : ∀ (n a : Nat), w.length - a ≤ n →
    (∀ b c, Pr l w a b → Pr l w a c → b = c) ∧ (∀ u v b c, Hr l w u a b → Hr l w v a c → b < c → ∃ j, ix l (bt w b) = some j ∧ v ≤ j ∧ Hr l w v (b + 1) c)
  | 0, a, hn => by
    refine ⟨fun b c h _ => ?_, fun u v b c h _ _ => ?_⟩ <;> (have := h.bd; omega)
  | n + 1, a, hn => by
    have hp : ∀ b c, Pr l w a b → Pr l w a c → b = c := by
      intro b c hb hc
      rcases pr_iff.1 hb with ⟨h1, h2⟩ | ⟨h1, e, h2, h3, h4⟩ <;> rcases pr_iff.1 hc with ⟨k1, k2⟩ | ⟨k1, g, k2, k3, k4⟩
      · omega
      · exfalso; unfold isDig at h1; omega
      · exfalso; unfold isDig at k1; omega
      · have hb2 := h4.bd
        have ih := (next hl n (a + 1) (by omega)).2
        rcases Nat.lt_trichotomy e g with h | h | h
        · obtain ⟨j, hj, _⟩ := ih _ _ _ _ h4 k4 h
          rw [h3, ix_not hl (.inr (.inl rfl))] at hj; cases hj
        · omega
        · obtain ⟨j, hj, _⟩ := ih _ _ _ _ k4 h4 h
          rw [k3, ix_not hl (.inr (.inl rfl))] at hj; cases hj
    refine ⟨hp, ?_⟩
    intro u v b c hb hc hlt
    rcases hr_iff.1 hb with h | ⟨b', j, h1, h2, h3, h4⟩ <;> rcases hr_iff.1 hc with k | ⟨c', i, k1, k2, k3, k4⟩
    · exact absurd (hp _ _ h k) (by omega)
    · obtain rfl := hp _ _ h k1
      exact ⟨i, k2, k3, k4⟩
    · obtain rfl := hp _ _ h1 k
      have := h4.bd; omega
    · obtain rfl := hp _ _ h1 k1
      have := h1.bd
      exact (next hl n (b' + 1) (by omega)).2 u v b c h4 k4 hlt
theorem Pr.one (hl : RightT l) (h : Pr l w a b) (k : Pr l w a c) : b = c := (next hl _ a (Nat.le_refl _)).1 b c h k
theorem Hr.next {u : Nat} (hl : RightT l) (h : Hr l w u a b) (k : Hr l w v a c) (hlt : b < c) : ∃ j, ix l (bt w b) = some j ∧ v ≤ j ∧ Hr l w v (b + 1) c := (Ytmpccinbeepbgaa.next hl _ a (Nat.le_refl _)).2 u v b c h k hlt
theorem Hr.first (h : Hr l w v a b) : ∃ e, Pr l w a e := by
  rcases hr_iff.1 h with h | ⟨c, _, h, _⟩ <;> exact ⟨_, h⟩

theorem Hr.last (h : Hr l w v a b) (hv : l.length ≤ v) : Pr l w a b := by
  rcases hr_iff.1 h with h | ⟨c, j, _, h2, h3, _⟩
  · exact h
  · have := (ix_some h2).1; omega

/-- What is derived hangs on the bytes alone that it has. -/
theorem Jf.local {w' : List Int} : ∀ {f : Nat} {t : Option Nat} {a b : Nat}, Jf l w f t a b → (∀ p, a ≤ p → p < b → bt w' p = bt w p) → Jf l w' f t a b
  | 0, _, _, _, h, _ => h.elim
  | f + 1, none, a, b, h, hw => by
    rcases h with ⟨h1, h2⟩ | ⟨h1, e, h2, h3, h4⟩
    · exact .inl ⟨by rw [hw a (Nat.le_refl _) (by omega)]; exact h1, h2⟩
    · have := h4.bd
      exact .inr ⟨by rw [hw a (Nat.le_refl _) (by omega)]; exact h1, e, h2, by rw [hw e (by omega) (by omega)]; exact h3, h4.local (fun p hp hq => hw p (by omega) (by omega))⟩
  | f + 1, some v, a, b, h, hw => by
    rcases h with h | ⟨c, j, h1, h2, h3, h4⟩
    · exact .inl (h.local hw)
    · have := h1.bd; have := h4.bd
      exact .inr ⟨c, j, h1.local (fun p hp hq => hw p hp (by omega)), by rw [hw c (by omega) (by omega)]; exact h2, h3, h4.local (fun p hp hq => hw p (by omega) hq)⟩
theorem bt_take (t p : Nat) (h : p < t) : bt (w.take t) p = bt w p := by
  unfold bt; simp [List.getD_eq_getElem?_getD, h]
theorem hr_take (t : Nat) (hb : b ≤ t) : Hr l (w.take t) v a b ↔ Hr l w v a b :=
  ⟨fun ⟨f, h⟩ => ⟨f, h.local (fun p _ hp => (bt_take t p (by omega)).symm)⟩, fun ⟨f, h⟩ => ⟨f, h.local (fun p _ hp => bt_take t p (by omega))⟩⟩
end
end Go.Proofs.Ytmpccinbeepbgaa
