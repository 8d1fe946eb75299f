/- Plain: what the program's functions compute is what the reference's compute. -/
import Derived.Test.YtbndpmfekglnkaaEq
namespace Go.Proofs.Ytbndpmfekglnkaa

theorem turn_fields (m : Mt) (e : Int) : (m.turn e).a1 = m.a1 ∧ (m.turn e).a2 = m.a2 ∧ (m.turn e).a3 = m.a3 ∧ (m.turn e).a4 = m.a4 ∧ (m.turn e).a5 = m.a5 ∧ (m.turn e).a6 = m.a6 ∧ (m.turn e).a7 = m.a7 ∧ (m.turn e).a8 = m.a8 ∧ (m.turn e).pk = m.pk ∧ (m.turn e).dp = m.dp := by
  unfold Mt.turn
  (repeat' split) <;> exact ⟨rfl, rfl, rfl, rfl, rfl, rfl, rfl, rfl, rfl, rfl⟩

theorem bump_more (m : Mt) (e : Int) : (m.bump e).pk = m.pk ∧ (m.bump e).dp = m.dp ∧ (m.bump e).ms = m.ms ∧ (m.bump e).opn = m.opn := by
  unfold Mt.bump
  (repeat' split) <;> exact ⟨rfl, rfl, rfl, rfl⟩

theorem cnt_snoc' (x : Int) (l : List Int) (e : Int) : (cnt x (l ++ [e]) : Int) = cnt x l + if e = x then 1 else 0 := by
  rw [cnt_snoc]; split <;> simp

theorem Jn.cs_step {l : List Int} {m : Mt} {st : List Nat} (h : Jn l m st) (e : Int) (h1 : 1 ≤ e) (h8 : e ≤ 8) :
    (m.count e).a1 = cnt 1 (l ++ [e]) ∧ (m.count e).a2 = cnt 2 (l ++ [e]) ∧ (m.count e).a3 = cnt 3 (l ++ [e]) ∧ (m.count e).a4 = cnt 4 (l ++ [e]) ∧ (m.count e).a5 = cnt 5 (l ++ [e]) ∧ (m.count e).a6 = cnt 6 (l ++ [e]) ∧ (m.count e).a7 = cnt 7 (l ++ [e]) ∧ (m.count e).a8 = cnt 8 (l ++ [e]) := by
  have hb := h.cs
  obtain ⟨t1, t2, t3, t4, t5, t6, t7, t8, _⟩ := turn_fields (m.bump e) e
  have e1 : (m.count e).a1 = (m.bump e).a1 := t1
  have e2 : (m.count e).a2 = (m.bump e).a2 := t2
  have e3 : (m.count e).a3 = (m.bump e).a3 := t3
  have e4 : (m.count e).a4 = (m.bump e).a4 := t4
  have e5 : (m.count e).a5 = (m.bump e).a5 := t5
  have e6 : (m.count e).a6 = (m.bump e).a6 := t6
  have e7 : (m.count e).a7 = (m.bump e).a7 := t7
  have e8 : (m.count e).a8 = (m.bump e).a8 := t8
  rw [e1, e2, e3, e4, e5, e6, e7, e8]
  simp only [cnt_snoc']
  have : e = 1 ∨ e = 2 ∨ e = 3 ∨ e = 4 ∨ e = 5 ∨ e = 6 ∨ e = 7 ∨ e = 8 := by omega
  rcases this with rfl | rfl | rfl | rfl | rfl | rfl | rfl | rfl <;> simp [Mt.bump] <;> omega

/-- A step: its stack, its open ones and its bodies are told apart, the rest goes by itself. -/
theorem Jn.mk_step {l : List Int} {m : Mt} {st : List Nat} (h : Jn l m st) (e : Int) (h1 : 1 ≤ e) (h8 : e ≤ 8) (hmay : mayR l e = true) (st' : List Nat)
    (dl : (st'.length : Int) = (cnt 1 (l ++ [e]) : Int) - cnt 8 (l ++ [e]))
    (fr : ((m.bump e).turn e).opn.reverse = st'.map fun i => (stt (ownR (l ++ [e]) i), (cnt 2 (ownR (l ++ [e]) i) : Int)))
    (inn : ∀ s, innerGo (l ++ [e]).reverse s = (match st'[s]? with | some i => (i : Int) | none => -1))
    (at1 : ∀ (j i : Nat), st'[j]? = some i → i < (l ++ [e]).length ∧ (l ++ [e]).getD i 0 = 1 ∧ depR (l ++ [e]) i = some (j : Int))
    (at2 : ∀ (i : Nat) (d : Int), i < (l ++ [e]).length → (l ++ [e]).getD i 0 = 1 → depR (l ++ [e]) i = some d → ∃ j : Nat, d = j ∧ st'[j]? = some i)
    (m0 : 0 ≤ ((m.bump e).turn e).ms)
    (mu : ∀ i, i < (l ++ [e]).length → (l ++ [e]).getD i 0 = 1 → (cnt 2 (ownR (l ++ [e]) i) : Int) ≤ ((m.bump e).turn e).ms)
    (ma : ((m.bump e).turn e).ms = 0 ∨ ∃ i, i < (l ++ [e]).length ∧ (l ++ [e]).getD i 0 = 1 ∧ (cnt 2 (ownR (l ++ [e]) i) : Int) = ((m.bump e).turn e).ms) : Jn (l ++ [e]) (m.count e) st' := by
  have hcs := h.cs_step e h1 h8
  obtain ⟨_, _, _, _, _, _, _, _, t9, t10⟩ := turn_fields (m.bump e) e
  obtain ⟨b1, b2, _, _⟩ := bump_more m e
  have hlen : ((m.bump e).turn e).opn.length = st'.length := by have := congrArg List.length fr; simpa using this
  refine ⟨hcs, ?_, dl, fr, inn, at1, at2, ?_, ?_, m0, mu, ma⟩
  · have hlv := h.lv
    by_cases h7 : e = 7
    · subst h7
      have : cnt 7 l < cnt 6 l := by simpa [mayR] using hmay
      have h6 := cnt_snoc 6 l 7
      have h7 := cnt_snoc 7 l 7
      simp at h6 h7; omega
    · have h6 := cnt_snoc 6 l e
      have h7' := cnt_snoc 7 l e
      rw [if_neg h7] at h7'
      rw [h6, h7']; omega
  · show max ((m.bump e).turn e).pk ((m.bump e).turn e).live = _
    rw [t9, b1, h.pk, pkF_new]
    congr 1
    have : ((m.bump e).turn e).live = (m.count e).a6 - (m.count e).a7 := rfl
    rw [this, hcs.2.2.2.2.2.1, hcs.2.2.2.2.2.2.1]
  · show max ((m.bump e).turn e).dp (((m.bump e).turn e).opn.length : Int) = _
    rw [t10, b2, h.dp, pkF_new, hlen, dl]

theorem Jn.open_pos {l : List Int} {m : Mt} {st : List Nat} (h : Jn l m st) {e : Int} (hmay : mayR l e = true) (he : e = 2 ∨ e = 3 ∨ e = 4 ∨ e = 6 ∨ e = 8) : ∃ i r, st = i :: r := by
  cases st with
  | cons i r => exact ⟨i, r, rfl⟩
  | nil =>
    exfalso
    have hs : stateR l = 0 := by
      have hin := h.inn 0
      unfold stateR innerR
      rw [hin]; rfl
    rcases he with rfl | rfl | rfl | rfl | rfl <;> simp [mayR, hs] at hmay

/-- Events that turn no activation. -/
theorem Jn.step_plain {l : List Int} {m : Mt} {st : List Nat} (h : Jn l m st) (e : Int) (h1 : 1 ≤ e) (h8 : e ≤ 8) (hmay : mayR l e = true) (he : e = 4 ∨ e = 5 ∨ e = 6 ∨ e = 7) : Jn (l ++ [e]) (m.count e) st := by
  have n1 : e ≠ 1 := by omega
  have n2 : e ≠ 2 := by omega
  have n3 : e ≠ 3 := by omega
  have n8 : e ≠ 8 := by omega
  obtain ⟨_, _, b3, b4⟩ := bump_more m e
  have ht : (m.bump e).turn e = m.bump e := by unfold Mt.turn; simp [n1, n2, n3, n8]
  have hown : ∀ i, i < l.length → ownR (l ++ [e]) i = ownR l i := fun i hi => own_other l e i hi (.inl ⟨n2, n3⟩)
  have hdep : ∀ i, i < l.length → depR (l ++ [e]) i = depR l i := fun i hi => dep_same l e n1 n8 i hi (fun d => depR_nonneg l i d)
  have hnot : ∀ i, i < (l ++ [e]).length → (l ++ [e]).getD i 0 = 1 → i < l.length ∧ l.getD i 0 = 1 := by
    intro i hi h1
    have hi' : i < l.length + 1 := by simpa using hi
    by_cases hil : i < l.length
    · exact ⟨hil, by rwa [getD_snoc l e i hil] at h1⟩
    · have : i = l.length := by omega
      subst this; rw [getD_last] at h1; exact absurd h1 n1
  refine h.mk_step e h1 h8 hmay st ?_ ?_ ?_ ?_ ?_ ?_ ?_ ?_
  · have := h.dl; rw [cnt_snoc', cnt_snoc', if_neg n1, if_neg n8]; omega
  · rw [ht, b4, h.fr]
    refine List.map_congr_left fun i hi => ?_
    obtain ⟨j, hj⟩ := List.getElem?_of_mem hi
    rw [hown i (h.at1 j i hj).1]
  · intro s
    rw [List.reverse_append, List.reverse_singleton, List.singleton_append]
    simp only [innerGo, if_neg n1, if_neg n8]
    exact h.inn s
  · intro j i hj
    obtain ⟨a, b, c⟩ := h.at1 j i hj
    exact ⟨by simp; omega, by rw [getD_snoc l e i a]; exact b, by rw [hdep i a]; exact c⟩
  · intro i d hi h1' hd
    obtain ⟨a, b⟩ := hnot i hi h1'
    rw [hdep i a] at hd
    exact h.at2 i d a b hd
  · rw [ht, b3]; exact h.m0
  · intro i hi h1'
    obtain ⟨a, b⟩ := hnot i hi h1'
    rw [ht, b3, hown i a]; exact h.mu i a b
  · rw [ht, b3]
    rcases h.ma with h0 | ⟨i, a, b, c⟩
    · exact .inl h0
    · exact .inr ⟨i, by simp; omega, by rw [getD_snoc l e i a]; exact b, by rw [hown i a]; exact c⟩
end Go.Proofs.Ytbndpmfekglnkaa
