/- Plain: what CfgOne and CfgFronts ask. -/
import Derived.Test.YtmpccinbeepbgaaGr5
namespace Go.Proofs.Ytmpccinbeepbgaa

section
variable {l : Tab}

theorem derB_eq {l : Tab} (hl : RightT l) {x y : List Int} {v a b c d u : Nat} (hv : v ≤ l.length) (hu : u ≤ l.length) (hb : b ≤ x.length) (hd : d ≤ y.length) (h : Hr l x v a b ↔ Hr l y u c d) : derB l x v a b = derB l y u c d := by
  rw [Bool.eq_iff_iff, derB_nat hl hv hb, derB_nat hl hu hd]; exact h

/-- What a front has is derived of it alone. -/
theorem der_front (hl : RightT l) (x y : List Int) {i : Nat} (hi : i ≤ l.length) : derB l (x ++ y) i 0 x.length = derB l x i 0 x.length := by
  refine derB_eq hl hi hi (by simp) (Nat.le_refl _) ?_
  rw [← hr_take (w := x ++ y) x.length (Nat.le_refl _)]
  simp
theorem der_weak (hl : RightT l) {x : List Int} {i : Nat} (hi : i + 1 ≤ l.length) (h : derB l x (i + 1 : Nat) 0 x.length = true) : derB l x i 0 x.length = true := by
  have h1 := (derB_nat hl (v := i + 1) (a := 0) (b := x.length) hi (Nat.le_refl _)).1 h
  exact (derB_nat hl (v := i) (a := 0) (b := x.length) (by omega) (Nat.le_refl _)).2 (h1.weak (by omega))
theorem der_both (hl : RightT l) {a b : List Int} {j : Nat} (hj : j < l.length) (h1 : derB l a (lf l j) 0 a.length = true) (h2 : derB l b (bh l j) 0 b.length = true) :
    derB l (a ++ [sg l j] ++ b) j 0 (a ++ [sg l j] ++ b).length = true ∧ derB l (a ++ [sg l j] ++ b) (bh l j) (a.length + 1 : Nat) (a ++ [sg l j] ++ b).length = true := by
  have hlf := lf_bd l j
  have k1 := (derB_nat hl (v := lf l j) (a := 0) (b := a.length) (by omega) (Nat.le_refl _)).1 h1
  have k2 := (derB_nat hl (v := bh l j) (a := 0) (b := b.length) (by omega) (Nat.le_refl _)).1 h2
  have hlen : (a ++ [sg l j] ++ b).length = b.length + (a.length + 1) := by simp; omega
  have key : ∀ p, 0 ≤ p → p < b.length → bt (a ++ [sg l j] ++ b) (p + (a.length + 1)) = bt b p := fun p _ hp => by
    rw [bt_append, if_neg (by simp)]
    congr 1; simp
  have k3 : Hr l (a ++ [sg l j] ++ b) (bh l j) (a.length + 1) (b.length + (a.length + 1)) := by
    have := (hr_shift (l := l) (v := bh l j) key).2 k2
    rwa [Nat.zero_add] at this
  have k4 : Hr l (a ++ [sg l j] ++ b) (lf l j) 0 a.length := by
    rw [← hr_take (w := a ++ [sg l j] ++ b) a.length (Nat.le_refl _)]
    simpa using k1
  have hsp : Sp l (a ++ [sg l j] ++ b) j 0 (b.length + (a.length + 1)) a.length := by
    refine ⟨hj, ?_, k4, k3⟩
    rw [bt_append, if_pos (by simp), bt_append, if_neg (by omega), Nat.sub_self]; rfl
  refine ⟨(derB_nat hl (v := j) (a := 0) (by omega) (Nat.le_refl _)).2 (by rw [hlen]; exact hsp.hr hl), (derB_nat hl (v := bh l j) (by omega) (Nat.le_refl _)).2 (by rw [hlen]; exact k3)⟩

/-- There is a longest front, if there is one. -/
theorem mx_ex {w : List Int} {v a b : Nat} (h : Hr l w v a b) : ∃ e, Mx l w v a e := by
  suffices hs : ∀ n b, w.length - b ≤ n → Hr l w v a b → ∃ e, Mx l w v a e from hs _ b (Nat.le_refl _) h
  intro n
  induction n with
  | zero => intro b hb h; exact ⟨b, h, fun c hc => by have := hc.bd; omega⟩
  | succ n ih =>
    intro b hb h
    by_cases hx : ∃ c, Hr l w v a c ∧ b < c
    · obtain ⟨c, hc, hlt⟩ := hx
      exact ih c (by have := hc.bd; omega) hc
    · exact ⟨b, h, fun c hc => by
        rcases Nat.lt_or_ge b c with h1 | h1
        · exact absurd ⟨c, hc, h1⟩ hx
        · exact h1⟩
theorem lgP_ex (l : Tab) (w : List Int) (p : Int) : LgP l w p (lgO l w p) := by
  have : ∃ o, LgP l w p o := by
    by_cases hm : mayQ l w.length 0 p w.length
    · by_cases hx : ∃ e, Pr l w p.toNat e
      · obtain ⟨e, he⟩ := hx
        obtain ⟨g, hg⟩ := mx_ex (hr_iff.2 (.inl he) : Hr l w 0 p.toNat e)
        exact ⟨some g, hm, hg⟩
      · exact ⟨none, fun _ e he => hx ⟨e, he⟩⟩
    · exact ⟨none, fun h => absurd h hm⟩
  obtain ⟨o, ho⟩ := this
  rw [lgO_eq ho]; exact ho
theorem lg_some (hl : RightT l) {w : List Int} {a e : Nat} (h : lgO l w a = some e) : a < e ∧ e ≤ w.length ∧ derB l w (0 : Nat) a e = true ∧ ∀ t : Nat, t ≤ w.length → derB l w (0 : Nat) a t = true → t ≤ e := by
  have hk := lgP_ex l w a
  rw [h] at hk
  have h1 := hk.2
  rw [Int.toNat_natCast] at h1
  have hb := h1.1.bd
  refine ⟨hb.1, hb.2, (derB_nat hl (by omega) hb.2).2 h1.1, fun t ht hd => h1.2 t ((derB_nat hl (by omega) ht).1 hd)⟩
theorem lg_none (hl : RightT l) {w : List Int} {a : Nat} (ha : a ≤ w.length) (h : lgO l w a = none) : ∀ t : Nat, t ≤ w.length → derB l w (0 : Nat) a t = false := by
  have hk := lgP_ex l w a
  rw [h] at hk
  have h1 := hk ⟨hl, by omega, by omega, by omega, by omega, by omega⟩
  intro t ht
  rw [← Bool.not_eq_true]
  intro hd
  obtain ⟨e, he⟩ := ((derB_nat hl (by omega) ht).1 hd).first
  exact h1 e (by simpa using he)
theorem der_brackets (hl : RightT l) {w : List Int} {a : Nat} (ha : a ≤ w.length) : derB l (40 :: (w.drop a ++ [41])) l.length (0 : Nat) (w.length - a + 2 : Nat) = derB l w (0 : Nat) a w.length := by
  refine derB_eq hl (Nat.le_refl _) (by omega) (by simp) (Nat.le_refl _) ?_
  have h1 := hr_brackets (l := l) (w.drop a)
  rw [List.length_drop] at h1
  rw [h1]
  have key : ∀ p, 0 ≤ p → p < w.length - a → bt w (p + a) = bt (w.drop a) p := fun p _ _ => by rw [bt_drop, Nat.add_comm]
  have h2 := hr_shift (l := l) (v := 0) (d := a) key
  rw [Nat.zero_add, Nat.sub_add_cancel ha] at h2
  exact h2.symm
end
end Go.Proofs.Ytmpccinbeepbgaa
