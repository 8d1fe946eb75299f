/- Plain: the fronts of a row of events, and how far they are right traces. -/
import Derived.Test.YtbndpmfekglnkaaWith
namespace Go.Proofs.Ytbndpmfekglnkaa

theorem addM_fst : ∀ (zs : List Int) (m : Mt) (n0 : Nat), n0 ≤ (addM m zs n0).1 ∧ (addM m zs n0).1 ≤ n0 + zs.length ∧ ((addM m zs n0).2.1 = 0 ↔ (addM m zs n0).1 = n0 + zs.length)
  | [], m, n0 => by simp [addM]
  | x :: r, m, n0 => by
    simp only [addM]
    split
    · have := addM_fst r (m.count x) (n0 + 1)
      simp only [List.length_cons]
      omega
    · rename_i h
      simp only [List.length_cons]
      omega

theorem addM_take_le : ∀ (zs : List Int) (m : Mt) (n0 i : Nat), i ≤ zs.length → n0 + i ≤ (addM m zs n0).1 →
    (addM m (zs.take i) n0).2.1 = 0 ∧ addM m zs n0 = addM (addM m (zs.take i) n0).2.2 (zs.drop i) (n0 + i)
  | zs, m, n0, 0, _, _ => by simp [addM]
  | [], m, n0, i + 1, h, _ => by simp at h
  | x :: r, m, n0, i + 1, h, hle => by
    simp only [addM, List.take_succ_cons, List.drop_succ_cons] at hle ⊢
    by_cases hc : m.check x = 0
    · rw [if_pos hc] at hle ⊢
      rw [if_pos hc]
      have := addM_take_le r (m.count x) (n0 + 1) i (by simpa using h) (by omega)
      rw [show n0 + (i + 1) = n0 + 1 + i from by omega]
      exact this
    · rw [if_neg hc] at hle
      simp only at hle
      omega

theorem addM_take_gt : ∀ (zs : List Int) (m : Mt) (n0 i : Nat), (addM m zs n0).1 < n0 + i → addM m (zs.take i) n0 = addM m zs n0
  | zs, m, n0, 0, h => by have := (addM_fst zs m n0).1; omega
  | [], m, n0, i + 1, h => by simp
  | x :: r, m, n0, i + 1, h => by
    simp only [addM, List.take_succ_cons] at h ⊢
    by_cases hc : m.check x = 0
    · rw [if_pos hc] at h ⊢
      rw [if_pos hc]
      exact addM_take_gt r (m.count x) (n0 + 1) i (by omega)
    · rw [if_neg hc, if_neg hc]

theorem addM_ok' : ∀ (zs : List Int) (m : Mt) (n k : Nat), m.ok n → (addM m zs k).2.2.ok (n + 2 * zs.length)
  | [], m, n, k, h => by simpa [addM] using h
  | x :: r, m, n, k, h => by
    simp only [addM]
    split
    · exact (addM_ok' r _ (n + 2) _ (h.count x)).mono (by simp; omega)
    · exact h.mono (by omega)

/-- The meter behind the first i. -/
def mAt (zs : List Int) (i : Nat) : Mt := (addM Mt.zero (zs.take i) 0).2.2

structure Fro (zs : List Int) (n : Nat) (e : Int) (M : Nat → Mt) : Prop where
  n_le : n ≤ zs.length
  e0 : e = 0 ↔ n = zs.length
  of_ok : ∀ i, i ≤ n → ofM (zs.take i) = ((M i).cn, 0)
  of_bad : ∀ i, n < i → i ≤ zs.length → (ofM (zs.take i)).2 ≠ 0
  go : ∀ i, i < n → addM (M i) [zs.getD i 0] 0 = (1, 0, M (i + 1))
  stop : n < zs.length → addM (M n) [zs.getD n 0] 0 = (0, e, M n)
  all : addM Mt.zero zs 0 = (n, e, M n)
  ofall : (ofM zs).2 = e
  m0 : M 0 = Mt.zero
  ok : ∀ i, (M i).ok (2 * zs.length)

theorem ofM_of {zs : List Int} {n : Nat} {m : Mt} (h : addM Mt.zero zs 0 = (n, 0, m)) : ofM zs = (m.cn, 0) := by
  unfold ofM; simp only [h, if_true]

theorem fro (zs : List Int) : ∃ n e, Fro zs n e (mAt zs) := by
  refine ⟨(addM Mt.zero zs 0).1, (addM Mt.zero zs 0).2.1, ?_⟩
  have hf := addM_fst zs Mt.zero 0
  have hle : ∀ i, i ≤ (addM Mt.zero zs 0).1 → (addM Mt.zero (zs.take i) 0).2.1 = 0 ∧ addM Mt.zero zs 0 = addM (mAt zs i) (zs.drop i) i := fun i hi => by
    have := addM_take_le zs Mt.zero 0 i (by omega) (by omega)
    rw [Nat.zero_add] at this; exact this
  have hm : ∀ i, i ≤ (addM Mt.zero zs 0).1 → i < zs.length → addM Mt.zero zs 0 = if (mAt zs i).check (zs.getD i 0) = 0 then addM ((mAt zs i).count (zs.getD i 0)) (zs.drop (i + 1)) (i + 1) else (i, (mAt zs i).check (zs.getD i 0), mAt zs i) := fun i hi hil => by
    have := (hle i hi).2
    rw [List.drop_eq_getElem_cons hil] at this
    rw [this]
    simp only [addM, List.getD_eq_getElem?_getD, List.getElem?_eq_getElem hil, Option.getD_some]
  have hstop : (addM Mt.zero zs 0).1 < zs.length → (mAt zs (addM Mt.zero zs 0).1).check (zs.getD (addM Mt.zero zs 0).1 0) ≠ 0 ∧ addM Mt.zero zs 0 = ((addM Mt.zero zs 0).1, (mAt zs (addM Mt.zero zs 0).1).check (zs.getD (addM Mt.zero zs 0).1 0), mAt zs (addM Mt.zero zs 0).1) := fun hl => by
    have h := hm _ (Nat.le_refl _) hl
    by_cases hc : (mAt zs (addM Mt.zero zs 0).1).check (zs.getD (addM Mt.zero zs 0).1 0) = 0
    · rw [if_pos hc] at h
      have h2 := (addM_fst (zs.drop ((addM Mt.zero zs 0).1 + 1)) ((mAt zs (addM Mt.zero zs 0).1).count (zs.getD (addM Mt.zero zs 0).1 0)) ((addM Mt.zero zs 0).1 + 1)).1
      rw [← h] at h2
      omega
    · rw [if_neg hc] at h
      exact ⟨hc, h⟩
  have hall : addM Mt.zero zs 0 = ((addM Mt.zero zs 0).1, (addM Mt.zero zs 0).2.1, mAt zs (addM Mt.zero zs 0).1) := by
    rcases Nat.lt_or_ge (addM Mt.zero zs 0).1 zs.length with h | h
    · have := (hstop h).2
      rw [this]
    · have h1 : (addM Mt.zero zs 0).1 = zs.length := by omega
      rw [h1]
      unfold mAt
      rw [List.take_length]
      exact Prod.ext h1 rfl
  refine ⟨by omega, by omega, ?_, ?_, ?_, ?_, hall, ?_, rfl, ?_⟩
  · intro i hi
    exact ofM_of (n := (addM Mt.zero (zs.take i) 0).1) (Prod.ext rfl (Prod.ext (hle i hi).1 rfl))
  · intro i hi hil
    have := addM_take_gt zs Mt.zero 0 i (by omega)
    have hne : (addM Mt.zero zs 0).2.1 ≠ 0 := by omega
    unfold ofM
    simp only [this, if_neg hne]
    exact hne
  · intro i hi
    have hil : i < zs.length := by omega
    have h := hm i (by omega) hil
    have hc : (mAt zs i).check (zs.getD i 0) = 0 := by
      refine Decidable.byContradiction fun hc => ?_
      rw [if_neg hc] at h
      have := congrArg Prod.fst h
      simp only at this
      omega
    have hs : mAt zs (i + 1) = (mAt zs i).count (zs.getD i 0) := by
      unfold mAt
      rw [List.take_succ_eq_append_getElem hil, addM_append _ _ _ _ (hle i (by omega)).1]
      have hc' : (addM Mt.zero (zs.take i) 0).2.2.check zs[i] = 0 := by
        have := hc
        simp only [List.getD_eq_getElem?_getD, List.getElem?_eq_getElem hil, Option.getD_some] at this
        exact this
      simp only [addM, if_pos hc', List.getD_eq_getElem?_getD, List.getElem?_eq_getElem hil, Option.getD_some]
    rw [hs]
    simp only [addM, if_pos hc]
  · intro hl
    obtain ⟨h1, h2⟩ := hstop hl
    have h3 : (addM Mt.zero zs 0).2.1 = (mAt zs (addM Mt.zero zs 0).1).check (zs.getD (addM Mt.zero zs 0).1 0) := congrArg (fun r => r.2.1) h2
    rw [h3]
    simp only [addM, if_neg h1]
  · unfold ofM
    simp only
    split
    · rename_i h; exact h.symm
    · rfl
  · intro i
    have h := addM_ok' (zs.take i) Mt.zero 0 0 Mt.ok_zero
    refine h.mono ?_
    have : (zs.take i).length ≤ zs.length := List.length_take_le' _ _
    omega
end Go.Proofs.Ytbndpmfekglnkaa
