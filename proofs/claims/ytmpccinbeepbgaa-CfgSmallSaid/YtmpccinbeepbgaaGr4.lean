/- Plain: what is asked of a table, and what is answered. -/
import Derived.Test.YtmpccinbeepbgaaGr3
namespace Go.Proofs.Ytmpccinbeepbgaa

section
variable {l : Tab} {w : List Int} {a b : Nat}
theorem Sp.take {t i c : Nat} (h : Sp l (w.take t) i a b c) (hb : b ≤ t) : Sp l w i a b c := by
  have h1 := h.bd
  exact ⟨h.1, by rw [← bt_take t c (by omega)]; exact h.2.1, (hr_take t (by omega)).1 h.2.2.1, (hr_take t hb).1 h.2.2.2⟩
theorem KDf.take {t : Nat} : ∀ {f a b : Nat} {ts : List Tw} {m : Nat}, KDf l (w.take t) f a b ts m → b ≤ t → KDf l w f a b ts m
  | 0, _, _, _, _, h, _ => h.elim
  | f + 1, a, b, ts, m, h, hb => by
    rcases h with ⟨h1, h2, h3, h4⟩ | ⟨h0, e, t', m', h1, h2, h3, h4, h5⟩ | ⟨i, c, t1, t2, m1, m2, h1, h2, h3, h4⟩
    · exact .inl ⟨by rw [← bt_take t a (by omega)]; exact h1, h2, h3, h4⟩
    · have := h3.bd
      exact .inr (.inl ⟨by rw [← bt_take t a (by omega)]; exact h0, e, t', m', h1, by rw [← bt_take t e (by omega)]; exact h2, (hr_take t (by omega)).1 h3, h4.take (by omega), h5⟩)
    · have := h1.bd
      exact .inr (.inr ⟨i, c, t1, t2, m1, m2, h1.take hb, h2.take (by omega), h3.take hb, h4⟩)
theorem KD.take {t : Nat} {ts : List Tw} {m : Nat} (h : KD l (w.take t) a b ts m) (hb : b ≤ t) : KD l w a b ts m := let ⟨f, h⟩ := h; ⟨f, h.take hb⟩
end

/-- These may be asked. -/
def mayQ (l : Tab) (n : Nat) (lv p q : Int) : Prop := RightT l ∧ 0 ≤ lv ∧ lv ≤ l.length ∧ 0 ≤ p ∧ p ≤ q ∧ q ≤ n
/-- They may be asked, and are derived. -/
def DerP (l : Tab) (w : List Int) (lv p q : Int) : Prop := mayQ l w.length lv p q ∧ Hr l w lv.toNat p.toNat q.toNat
noncomputable def derB (l : Tab) (w : List Int) (lv p q : Int) : Bool := @decide (DerP l w lv p q) (Classical.propDecidable _)
theorem derB_iff {l : Tab} {w : List Int} {lv p q : Int} : derB l w lv p q = true ↔ DerP l w lv p q := by
  unfold derB; exact @decide_eq_true_iff _ (Classical.propDecidable _)
theorem derB_not {l : Tab} {w : List Int} {lv p q : Int} : derB l w lv p q = false ↔ ¬ DerP l w lv p q := by
  rw [← Bool.not_eq_true, derB_iff]
noncomputable def wayI (l : Tab) (w : List Int) (lv p q : Int) : Int := if derB l w lv p q = true then 1 else 0

/-- The longest front, or that there is none. -/
def LgP (l : Tab) (w : List Int) (p : Int) : Option Nat → Prop
  | some e => mayQ l w.length 0 p w.length ∧ Mx l w 0 p.toNat e
  | none => mayQ l w.length 0 p w.length → ∀ e, ¬ Pr l w p.toNat e
theorem LgP.one {l : Tab} {w : List Int} {p : Int} : ∀ {o o' : Option Nat}, LgP l w p o → LgP l w p o' → o = o'
  | some e, some e', h, k => by rw [h.2.one k.2]
  | none, none, _, _ => rfl
  | some e, none, h, k => by
    obtain ⟨g, hg⟩ := h.2.1.first
    exact absurd hg (k h.1 g)
  | none, some e, h, k => by
    obtain ⟨g, hg⟩ := k.2.1.first
    exact absurd hg (h k.1 g)
noncomputable def lgO (l : Tab) (w : List Int) (p : Int) : Option Nat := @dite _ (∃ o, LgP l w p o) (Classical.propDecidable _) (fun h => Classical.choose h) (fun _ => none)
theorem lgO_eq {l : Tab} {w : List Int} {p : Int} {o : Option Nat} (h : LgP l w p o) : lgO l w p = o := by
  unfold lgO
  rw [dif_pos ⟨o, h⟩]
  exact (Classical.choose_spec (p := fun o => LgP l w p o) ⟨o, h⟩).one h

/-- A derivation's tree. -/
def TrP (l : Tab) (w : List Int) (p q : Int) (t : List Tw) : Prop := (DerP l w 0 p q ∧ ∃ t' m, KD l w p.toNat q.toNat t' m ∧ t = tw 0 p.toNat q.toNat m :: t') ∨ (¬ DerP l w 0 p q ∧ t = [])
theorem TrP.one {l : Tab} {w : List Int} {p q : Int} {t u : List Tw} (h : TrP l w p q t) (k : TrP l w p q u) : t = u := by
  rcases h with ⟨h0, t', m, h1, h2⟩ | ⟨h0, h1⟩ <;> rcases k with ⟨k0, u', m', k1, k2⟩ | ⟨k0, k1⟩
  · obtain ⟨rfl, rfl⟩ := h1.one h0.1.1 k1
    rw [h2, k2]
  · exact absurd h0 k0
  · exact absurd k0 h0
  · rw [h1, k1]
noncomputable def trT (l : Tab) (w : List Int) (p q : Int) : List Tw := @dite _ (∃ t, TrP l w p q t) (Classical.propDecidable _) (fun h => Classical.choose h) (fun _ => [])
theorem trT_eq {l : Tab} {w : List Int} {p q : Int} {t : List Tw} (h : TrP l w p q t) : trT l w p q = t := by
  unfold trT
  rw [dif_pos ⟨t, h⟩]
  exact (Classical.choose_spec (p := fun t => TrP l w p q t) ⟨t, h⟩).one h
theorem trT_not {l : Tab} {w : List Int} {p q : Int} (h : derB l w 0 p q = false) : trT l w p q = [] := trT_eq (.inr ⟨derB_not.1 h, rfl⟩)
theorem trT_yes {l : Tab} {w : List Int} {p q : Int} (h : derB l w 0 p q = true) {t : List Tw} {m : Nat} (k : KD l w p.toNat q.toNat t m) : trT l w p q = tw 0 p.toNat q.toNat m :: t := trT_eq (.inl ⟨derB_iff.1 h, t, m, k, rfl⟩)

theorem mayQ.nat {l : Tab} {n : Nat} {lv p q : Int} (h : mayQ l n lv p q) : ∃ v a b : Nat, lv = v ∧ p = a ∧ q = b ∧ v ≤ l.length ∧ a ≤ b ∧ b ≤ n := by
  obtain ⟨_, h1, h2, h3, h4, h5⟩ := h
  exact ⟨lv.toNat, p.toNat, q.toNat, by omega, by omega, by omega, by omega, by omega, by omega⟩
theorem derB_nat {l : Tab} (hl : RightT l) {w : List Int} {v a b : Nat} (hv : v ≤ l.length) (hb : b ≤ w.length) : derB l w v a b = true ↔ Hr l w v a b := by
  rw [derB_iff]
  unfold DerP mayQ
  simp only [Int.toNat_natCast]
  constructor
  · exact fun h => h.2
  · intro h
    have := h.bd
    exact ⟨⟨hl, by omega, by omega, by omega, by omega, by omega⟩, h⟩
end Go.Proofs.Ytmpccinbeepbgaa
