/- Plain: where a symbol's bytes are parted, that there is one way, and the tree. -/
import Derived.Test.YtmpccinbeepbgaaGr
namespace Go.Proofs.Ytmpccinbeepbgaa

def sg (l : Tab) (i : Nat) : Int := (l.getD i (0, false)).1
def rg (l : Tab) (i : Nat) : Bool := (l.getD i (0, false)).2
/-- The symbols at an operator's sides. -/
def lf (l : Tab) (i : Nat) : Nat := if rg l i = true then i + 1 else i
def bh (l : Tab) (i : Nat) : Nat := if rg l i = true then i else i + 1

/-- The symbol i derives a to b with its operator's sign at c. -/
def Sp (l : Tab) (w : List Int) (i a b c : Nat) : Prop := i < l.length ∧ bt w c = sg l i ∧ Hr l w (lf l i) a c ∧ Hr l w (bh l i) (c + 1) b

section
variable {l : Tab} {w : List Int} {v a b c e i : Nat}

theorem lf_bd (l : Tab) (i : Nat) : i ≤ lf l i ∧ lf l i ≤ i + 1 ∧ i ≤ bh l i ∧ bh l i ≤ i + 1 ∧ (lf l i = i ∧ bh l i = i + 1 ∨ lf l i = i + 1 ∧ bh l i = i) := by
  unfold lf bh; split <;> omega

theorem Sp.ix (hl : RightT l) (h : Sp l w i a b c) : ix l (bt w c) = some i := by rw [h.2.1]; exact ix_of hl h.1
theorem Sp.bd (h : Sp l w i a b c) : a < c ∧ c + 1 < b ∧ b ≤ w.length := by
  have := h.2.2.1.bd; have := h.2.2.2.bd; omega
theorem Sp.hr (hl : RightT l) (h : Sp l w i a b c) : Hr l w i a b := by
  have := lf_bd l i
  exact (h.2.2.1.weak (by omega)).join (h.ix hl) (Nat.le_refl _) (h.2.2.2.weak (by omega))
theorem Sp.not (hl : RightT l) (h : Sp l w i a b c) : ¬ Hr l w (i + 1) a b := by
  intro k
  have hb := h.bd
  obtain ⟨j, h1, h2, _⟩ := h.2.2.1.next hl k (by omega)
  rw [h.ix hl] at h1; cases h1; omega
theorem Sp.one (hl : RightT l) {c' : Nat} (h : Sp l w i a b c) (k : Sp l w i a b c') : c = c' := by
  have key : ∀ c c', Sp l w i a b c → Sp l w i a b c' → ¬ c < c' := by
    intro c c' h k hlt
    have hlf := lf_bd l i
    obtain ⟨j, h1, h2, h3⟩ := h.2.2.1.next hl k.2.2.1 hlt
    rw [h.ix hl] at h1; cases h1
    rcases hlf.2.2.2.2 with ⟨e1, e2⟩ | ⟨e1, e2⟩
    · have hb := h.2.2.2
      rw [e2] at hb
      obtain ⟨j, h1, h2, _⟩ := h3.next hl hb (by have := k.bd; omega)
      rw [k.ix hl] at h1; cases h1; omega
    · omega
  have h1 := key c c' h k
  have h2 := key c' c k h
  omega
theorem Sp.lev (hl : RightT l) {i' c' : Nat} (h : Sp l w i a b c) (k : Sp l w i' a b c') : i = i' ∧ c = c' := by
  have hi : i = i' := by
    rcases Nat.lt_trichotomy i i' with hlt | hlt | hlt
    · exact absurd ((k.hr hl).weak (by omega)) (h.not hl)
    · exact hlt
    · exact absurd ((h.hr hl).weak (by omega)) (k.not hl)
  subst hi
  exact ⟨rfl, h.one hl k⟩

theorem Jf.split (hl : RightT l) (hi : i < l.length) : ∀ {f : Nat} {a : Nat}, Jf l w f (some i) a b → Hr l w (i + 1) a b ∨ ∃ c, Sp l w i a b c
  | 0, _, h => h.elim
  | f + 1, a, h => by
    have hlf := lf_bd l i
    rcases h with h | ⟨c, j, h1, h2, h3, h4⟩
    · exact .inl (hr_iff.2 (.inl ⟨f, h⟩))
    · have hpr : Pr l w a c := ⟨f, h1⟩
      have hpc : ∀ v, Hr l w v a c := fun v => hr_iff.2 (.inl hpr)
      have ih := Jf.split hl hi h4
      have hji := ix_some h2
      by_cases hj : j = i
      · subst hj
        have hsc : bt w c = sg l j := hji.2.symm
        rcases hlf.2.2.2.2 with ⟨e1, e2⟩ | ⟨e1, e2⟩
        · rcases ih with ih | ⟨c', ih⟩
          · exact .inr ⟨c, hi, hsc, hpc _, by rw [e2]; exact ih⟩
          · refine .inr ⟨c', hi, ih.2.1, ?_, ih.2.2.2⟩
            have := ih.2.2.1
            rw [e1] at this ⊢
            exact (hpc j).join h2 (Nat.le_refl _) this
        · exact .inr ⟨c, hi, hsc, hpc _, by rw [e2]; exact ⟨f, h4⟩⟩
      · rcases ih with ih | ⟨c', ih⟩
        · exact .inl ((hpc _).join h2 (by omega) ih)
        · exact .inr ⟨c', hi, ih.2.1, (hpc _).join h2 (by omega) ih.2.2.1, ih.2.2.2⟩
theorem Hr.split (hl : RightT l) (hi : i < l.length) (h : Hr l w i a b) : Hr l w (i + 1) a b ∨ ∃ c, Sp l w i a b c := let ⟨_, h⟩ := h; h.split hl hi

/-- The longest front. -/
def Mx (l : Tab) (w : List Int) (v a b : Nat) : Prop := Hr l w v a b ∧ ∀ c, Hr l w v a c → c ≤ b
theorem Mx.of (hl : RightT l) (h : Hr l w v a b) (hs : ∀ j e, ix l (bt w b) = some j → v ≤ j → Pr l w (b + 1) e → False) : Mx l w v a b := by
  refine ⟨h, fun c hc => ?_⟩
  rcases Nat.lt_or_ge b c with hlt | hge
  · obtain ⟨j, h1, h2, h3⟩ := h.next hl hc hlt
    obtain ⟨e, he⟩ := h3.first
    exact (hs j e h1 h2 he).elim
  · exact hge
theorem Mx.one {b' : Nat} (h : Mx l w v a b) (k : Mx l w v a b') : b = b' := by
  have := h.2 _ k.1; have := k.2 _ h.1; omega
theorem Mx.stop (h : Mx l w v a b) {j : Nat} (hj : ix l (bt w b) = some j) (hv : v ≤ j) {e : Nat} (he : Pr l w (b + 1) e) : False := by
  have := h.2 _ (h.1.join hj hv (hr_iff.2 (.inl he)))
  have := he.bd; omega
end

/-- A twig: rule, level, from, to, kids. -/
structure Tw where
  (rule lev fr to kids : Int)
deriving DecidableEq

def tw (lv a b m : Nat) : Tw := ⟨0, lv, a, b, m⟩

/-- The trees within what is derived from a to b, and how many. -/
def KDf (l : Tab) (w : List Int) : Nat → Nat → Nat → List Tw → Nat → Prop
  | 0, _, _, _, _ => False
  | f + 1, a, b, t, m => (isDig (bt w a) ∧ b = a + 1 ∧ t = [] ∧ m = 0) ∨
    (bt w a = 40 ∧ ∃ e t' m', b = e + 1 ∧ bt w e = 41 ∧ Hr l w 0 (a + 1) e ∧ KDf l w f (a + 1) e t' m' ∧ t = tw 0 (a + 1) e m' :: t' ∧ m = 1) ∨
    (∃ i c t1 t2 m1 m2, Sp l w i a b c ∧ KDf l w f a c t1 m1 ∧ KDf l w f (c + 1) b t2 m2 ∧ t = (tw i a c m1 :: t1) ++ (tw (bh l i) (c + 1) b m2 :: t2) ∧ m = 2)
def KD (l : Tab) (w : List Int) (a b : Nat) (t : List Tw) (m : Nat) : Prop := ∃ f, KDf l w f a b t m

section
variable {l : Tab} {w : List Int} {v a b c e i : Nat}
theorem KDf.mono : ∀ {f a b : Nat} {t : List Tw} {m : Nat}, KDf l w f a b t m → ∀ g, f ≤ g → KDf l w g a b t m
  | 0, _, _, _, _, h, _, _ => h.elim
  | f + 1, a, b, t, m, h, g, hg => by
    obtain ⟨g, rfl⟩ : ∃ k, g = k + 1 := ⟨g - 1, by omega⟩
    rcases h with h | ⟨h0, e, t', m', h1, h2, h3, h4, h5⟩ | ⟨i, c, t1, t2, m1, m2, h1, h2, h3, h4⟩
    · exact .inl h
    · exact .inr (.inl ⟨h0, e, t', m', h1, h2, h3, h4.mono g (by omega), h5⟩)
    · exact .inr (.inr ⟨i, c, t1, t2, m1, m2, h1, h2.mono g (by omega), h3.mono g (by omega), h4⟩)
theorem KD.dig (h : isDig (bt w a)) : KD l w a (a + 1) [] 0 := ⟨1, .inl ⟨h, rfl, rfl, rfl⟩⟩
theorem KD.br (h0 : bt w a = 40) (h1 : bt w e = 41) (h2 : Hr l w 0 (a + 1) e) {t : List Tw} {m : Nat} (h : KD l w (a + 1) e t m) : KD l w a (e + 1) (tw 0 (a + 1) e m :: t) 1 :=
  let ⟨f, h⟩ := h; ⟨f + 1, .inr (.inl ⟨h0, e, t, m, rfl, h1, h2, h, rfl, rfl⟩)⟩
theorem KD.sp (h : Sp l w i a b c) {t1 t2 : List Tw} {m1 m2 : Nat} (h1 : KD l w a c t1 m1) (h2 : KD l w (c + 1) b t2 m2) : KD l w a b ((tw i a c m1 :: t1) ++ (tw (bh l i) (c + 1) b m2 :: t2)) 2 :=
  let ⟨f, h1⟩ := h1; let ⟨g, h2⟩ := h2; ⟨max f g + 1, .inr (.inr ⟨i, c, t1, t2, m1, m2, h, h1.mono _ (by omega), h2.mono _ (by omega), rfl, rfl⟩)⟩

theorem Sp.notPr (hl : RightT l) (h : Sp l w i a b c) : ¬ Pr l w a b := fun k => h.not hl (hr_iff.2 (.inl k))

theorem KDf.one (hl : RightT l) : ∀ {f a b : Nat} {t t' : List Tw} {m m' : Nat}, KDf l w f a b t m → KD l w a b t' m' → t = t' ∧ m = m'
  | 0, _, _, _, _, _, _, h, _ => h.elim
  | f + 1, a, b, t, t', m, m', h, ⟨g, k⟩ => by
    obtain _ | g := g
    · exact k.elim
    rcases h with ⟨h0, h1, h2, h3⟩ | ⟨h0, e, u, n, h1, h2, h3, h4, h5, h6⟩ | ⟨i, c, t1, t2, m1, m2, h1, h2, h3, h4, h5⟩ <;>
      rcases k with ⟨k0, k1, k2, k3⟩ | ⟨k0, e', u', n', k1, k2, k3, k4, k5, k6⟩ | ⟨i', c', s1, s2, n1, n2, k1, k2, k3, k4, k5⟩
    · exact ⟨by rw [h2, k2], by rw [h3, k3]⟩
    · exfalso; unfold isDig at h0; omega
    · exact absurd (pr_iff.2 (.inl ⟨h0, h1⟩)) (k1.notPr hl)
    · exfalso; unfold isDig at k0; omega
    · obtain rfl : e = e' := by omega
      obtain ⟨rfl, rfl⟩ := h4.one hl ⟨g, k4⟩
      exact ⟨by rw [h5, k5], by rw [h6, k6]⟩
    · exact absurd (pr_iff.2 (.inr ⟨h0, e, h1, h2, h3⟩)) (k1.notPr hl)
    · exact absurd (pr_iff.2 (.inl ⟨k0, k1⟩)) (h1.notPr hl)
    · exact absurd (pr_iff.2 (.inr ⟨k0, e', k1, k2, k3⟩)) (h1.notPr hl)
    · obtain ⟨rfl, rfl⟩ := h1.lev hl k1
      obtain ⟨rfl, rfl⟩ := h2.one hl ⟨g, k2⟩
      obtain ⟨rfl, rfl⟩ := h3.one hl ⟨g, k3⟩
      exact ⟨by rw [h4, k4], by rw [h5, k5]⟩
theorem KD.one (hl : RightT l) {t t' : List Tw} {m m' : Nat} (h : KD l w a b t m) (k : KD l w a b t' m') : t = t' ∧ m = m' := let ⟨_, h⟩ := h; h.one hl k

theorem Hr.kd (hl : RightT l) (n : Nat) : ∀ {v a b : Nat}, b - a ≤ n → Hr l w v a b → ∃ t m, KD l w a b t m := by
  induction n with
  | zero => intro v a b hn h; have := h.bd; omega
  | succ n ih =>
    suffices hs : ∀ (d : Nat) {v a b : Nat}, l.length - v ≤ d → b - a ≤ n + 1 → Hr l w v a b → ∃ t m, KD l w a b t m by intro v a b hn h; exact hs _ (Nat.le_refl _) hn h
    intro d
    induction d with
    | zero =>
      intro v a b hd hn h
      rcases pr_iff.1 (h.last (by omega)) with ⟨h1, h2⟩ | ⟨h1, e, h2, h3, h4⟩
      · subst h2; exact ⟨_, _, KD.dig h1⟩
      · subst h2
        have := h4.bd
        obtain ⟨t, m, r⟩ := ih (by omega) h4
        exact ⟨_, _, KD.br h1 h3 h4 r⟩
    | succ d ihd =>
      intro v a b hd hn h
      by_cases hv : v < l.length
      · rcases h.split hl hv with k | ⟨c, k⟩
        · exact ihd (by omega) hn k
        · have := k.bd
          obtain ⟨t1, m1, r1⟩ := ih (by omega) k.2.2.1
          obtain ⟨t2, m2, r2⟩ := ih (by omega) k.2.2.2
          exact ⟨_, _, KD.sp k r1 r2⟩
      · exact ihd (by omega) hn h
end
end Go.Proofs.Ytmpccinbeepbgaa
