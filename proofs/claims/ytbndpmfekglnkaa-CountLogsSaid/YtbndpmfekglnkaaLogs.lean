/- Plain: rows added to a log one behind the other. -/
import Derived.Test.YtbndpmfekglnkaaFronts
namespace Go.Proofs.Ytbndpmfekglnkaa

theorem addM_front : ∀ (zs : List Int) (m : Mt) (n0 : Nat), addM m (zs.take ((addM m zs n0).1 - n0)) n0 = ((addM m zs n0).1, 0, (addM m zs n0).2.2)
  | [], m, n0 => by simp [addM]
  | x :: r, m, n0 => by
    by_cases hc : m.check x = 0
    · have h := addM_front r (m.count x) (n0 + 1)
      have h1 := (addM_fst r (m.count x) (n0 + 1)).1
      simp only [addM, if_pos hc]
      rw [show (addM (m.count x) r (n0 + 1)).1 - n0 = ((addM (m.count x) r (n0 + 1)).1 - (n0 + 1)) + 1 from by omega, List.take_succ_cons]
      simp only [addM, if_pos hc]
      exact h
    · simp [addM, if_neg hc]

theorem addM_shift : ∀ (zs : List Int) (m : Mt) (n0 n1 : Nat), (addM m zs n1).2 = (addM m zs n0).2 ∧ (addM m zs n1).1 + n0 = (addM m zs n0).1 + n1
  | [], m, n0, n1 => by simp [addM]; omega
  | x :: r, m, n0, n1 => by
    simp only [addM]
    split
    · have := addM_shift r (m.count x) (n0 + 1) (n1 + 1)
      exact ⟨this.1, by omega⟩
    · exact ⟨rfl, by simp only; omega⟩

/-- The trace tr, whole, has the meter m. -/
def Whole (tr : List Int) (m : Mt) : Prop := addM Mt.zero tr 0 = (tr.length, 0, m)

theorem Whole.nil : Whole [] Mt.zero := rfl
theorem Whole.step {tr : List Int} {m : Mt} (h : Whole tr m) (r : List Int) : Whole (tr ++ r.take (addM m r 0).1) (addM m r 0).2.2 := by
  unfold Whole at *
  have hf := addM_fst r m 0
  have h1 := addM_front r m 0
  rw [Nat.sub_zero] at h1
  rw [addM_append tr _ Mt.zero 0 (by rw [h]), h]
  simp only [Nat.zero_add]
  obtain ⟨h2, h3⟩ := addM_shift (r.take (addM m r 0).1) m 0 tr.length
  rw [h1] at h2 h3
  simp only at h2 h3
  refine Prod.ext ?_ h2
  simp only [List.length_append, List.length_take]
  omega
theorem Whole.of {tr : List Int} {m : Mt} (h : Whole tr m) : ofR tr = (m.cn, 0) := by
  rw [← ofM_eq_ofR]; exact ofM_of h
theorem Whole.put {tr : List Int} {m : Mt} (h : Whole tr m) (r : List Int) : (putR tr r 0).1 = (addM m r 0).1 ∧ (putR tr r 0).2 = (addM m r 0).2.1 := by
  obtain ⟨a, b, _⟩ := Jn.run tr [] Mt.zero [] 0 Jn.zero
  unfold Whole at h
  rw [h] at b
  obtain ⟨st, hj⟩ := Jn.all tr b.symm
  rw [h] at hj
  obtain ⟨c, d, _⟩ := Jn.run r tr m st 0 hj
  exact ⟨c.symm, d.symm⟩
theorem Whole.ok {tr : List Int} {m : Mt} (h : Whole tr m) : m.ok (2 * tr.length) := by
  have := addM_ok' tr Mt.zero 0 0 Mt.ok_zero
  unfold Whole at h
  rw [h] at this
  exact this.mono (by omega)

def sumL (L : List (List Int)) : Nat := (L.map List.length).sum
theorem sumL_snoc (L : List (List Int)) (i : Nat) (h : i < L.length) : sumL (L.take (i + 1)) = sumL (L.take i) + (L.getD i []).length := by
  rw [List.take_succ_eq_append_getElem h]
  simp only [sumL, List.map_append, List.sum_append, List.map_cons, List.map_nil, List.sum_cons, List.sum_nil, List.getD_eq_getElem?_getD, List.getElem?_eq_getElem h, Option.getD_some, Nat.add_zero]
theorem sumL_mono (L : List (List Int)) (i j : Nat) (h : i ≤ j) : sumL (L.take i) ≤ sumL (L.take j) := by
  have : L.take j = L.take i ++ (L.take j).drop i := by
    have := List.take_append_drop i (L.take j)
    rw [List.take_take, Nat.min_eq_left h] at this
    exact this.symm
  rw [this]; simp only [sumL, List.map_append, List.sum_append]; omega
end Go.Proofs.Ytbndpmfekglnkaa
