/- Plain: the twigs of a derivation's tree. -/
import Derived.Test.YtmpccinbeepbgaaGr6
namespace Go.Proofs.Ytmpccinbeepbgaa

/-- At n a twig stands, its level's symbol derives what it has, and its kids' trees follow. -/
def Nd (l : Tab) (w : List Int) (T : List Tw) (n : Nat) : Prop :=
  ∃ lv a b m t R, T.drop n = (tw lv a b m :: t) ++ R ∧ KD l w a b t m ∧ Hr l w lv a b ∧ lv ≤ l.length

section
variable {l : Tab} {w : List Int}
theorem KDf.nd : ∀ {f a b : Nat} {t : List Tw} {m : Nat}, KDf l w f a b t m → ∀ (lv : Nat), Hr l w lv a b → lv ≤ l.length → ∀ n, n < t.length + 1 → Nd l w (tw lv a b m :: t) n
  | 0, _, _, _, _, h, _, _, _, _, _ => h.elim
  | f + 1, a, b, t, m, h, lv, hr, hlv, n, hn => by
    cases n with
    | zero => exact ⟨lv, a, b, m, t, [], by simp, ⟨f + 1, h⟩, hr, hlv⟩
    | succ k =>
      rcases h with ⟨_, _, rfl, rfl⟩ | ⟨_, e, t', m', rfl, _, k3, k4, rfl, rfl⟩ | ⟨i, c, t1, t2, m1, m2, k1, k2, k3, rfl, rfl⟩
      · simp at hn
      · exact k4.nd 0 k3 (Nat.zero_le _) k (by simp only [List.length_cons] at hn; omega)
      · have hlf := lf_bd l i
        by_cases hk : k < t1.length + 1
        · obtain ⟨lv', a', b', m', t', R, h1, h2⟩ := k2.nd i (k1.2.2.1.weak (by omega)) (by have := k1.1; omega) k hk
          refine ⟨lv', a', b', m', t', R ++ (tw (bh l i) (c + 1) b m2 :: t2), ?_, h2⟩
          rw [List.drop_succ_cons, List.drop_append_of_le_length (by simp only [List.length_cons]; omega), h1, List.append_assoc]
        · obtain ⟨lv', a', b', m', t', R, h1, h2⟩ := k3.nd (bh l i) k1.2.2.2 (by have := k1.1; omega) (k - (t1.length + 1)) (by simp only [List.length_append, List.length_cons] at hn; omega)
          refine ⟨lv', a', b', m', t', R, ?_, h2⟩
          rw [List.drop_succ_cons, List.drop_append, List.drop_of_length_le (by simp only [List.length_cons]; omega), List.nil_append, List.length_cons, h1]

/-- What a twig's kids are: none, of a digit; one, in brackets; two, around a sign. -/
inductive NdK (l : Tab) (w : List Int) (a b : Nat) (t : List Tw) (m : Nat) : Prop
  | dig : isDig (bt w a) → b = a + 1 → t = [] → m = 0 → NdK l w a b t m
  | br (e m' : Nat) (t' : List Tw) : bt w a = 40 → b = e + 1 → bt w e = 41 → a + 1 < e → t = tw 0 (a + 1) e m' :: t' → m = 1 → KD l w (a + 1) e t' m' → NdK l w a b t m
  | sp (i c m1 m2 : Nat) (t1 t2 : List Tw) : Sp l w i a b c → t = (tw i a c m1 :: t1) ++ (tw (bh l i) (c + 1) b m2 :: t2) → m = 2 → KD l w a c t1 m1 → KD l w (c + 1) b t2 m2 → NdK l w a b t m
theorem KD.ndk {a b : Nat} {t : List Tw} {m : Nat} (h : KD l w a b t m) : NdK l w a b t m := by
  obtain ⟨f, h⟩ := h
  cases f with
  | zero => exact h.elim
  | succ f =>
    rcases h with ⟨h1, h2, h3, h4⟩ | ⟨h0, e, t', m', h1, h2, h3, h4, h5, h6⟩ | ⟨i, c, t1, t2, m1, m2, h1, h2, h3, h4, h5⟩
    · exact .dig h1 h2 h3 h4
    · exact .br e m' t' h0 h1 h2 (by have := h3.bd; omega) h5 h6 ⟨f, h4⟩
    · exact .sp i c m1 m2 t1 t2 h1 h4 h5 ⟨f, h2⟩ ⟨f, h3⟩

theorem trT_nd (hl : RightT l) {a b : Nat} (hb : b ≤ w.length) (h : derB l w 0 a b = true) :
    ∃ t m, KD l w a b t m ∧ trT l w a b = tw 0 a b m :: t ∧ ∀ n, n < t.length + 1 → Nd l w (tw 0 a b m :: t) n := by
  have hr := (derB_nat hl (v := 0) (a := a) (b := b) (Nat.zero_le _) hb).1 h
  obtain ⟨t, m, hk⟩ := hr.kd hl (b - a) (Nat.le_refl _)
  refine ⟨t, m, hk, trT_yes (p := a) (q := b) h hk, ?_⟩
  obtain ⟨f, hf⟩ := hk
  exact hf.nd 0 hr (Nat.zero_le _)
end
end Go.Proofs.Ytmpccinbeepbgaa
