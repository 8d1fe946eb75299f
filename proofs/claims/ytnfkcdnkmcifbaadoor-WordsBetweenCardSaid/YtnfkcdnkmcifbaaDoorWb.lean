/- Plain: words of a text stand one behind the other; words of two texts. -/
import Derived.Test.YtnfkcdnkmcifbaaDoorWa
namespace Go.Proofs.YtnfkcdnkmcifbaaDoor

theorem nextW_some {l : List UInt8} {k : Nat} {w : Wd} (h : nextW l k = some w) (hk : k ≤ l.length) :
    w.at_ = k + skp false (l.drop k) ∧ k ≤ w.at_ ∧ w.at_ ≤ w.nx ∧ w.nx ≤ l.length ∧ 1 ≤ w.kind ∧ w.kind ≤ 5 ∧ (w.nx = w.at_ ↔ w.kind = 1) ∧ (w.kind = 1 ↔ w.at_ = l.length) := by
  unfold nextW at h
  have hs := skp_le (l.drop k) false
  rw [List.length_drop] at hs
  generalize skp false (l.drop k) = s at *
  cases hr : wordR (l.drop (k + s)) with
  | none => rw [hr] at h; cases h
  | some r =>
    rw [hr] at h
    simp only [Option.map_some, Option.some.injEq] at h
    subst h
    obtain ⟨h1, h2, h3, h4, h5⟩ := wordR_len hr
    rw [List.length_drop] at h1
    have h6 : l.drop (k + s) = [] ↔ k + s = l.length := by rw [List.drop_eq_nil_iff]; omega
    simp only [Wr.at]
    refine ⟨trivial, by omega, by omega, by omega, h2, h3, ⟨fun e => h4.1 (by omega), fun e => by have := h4.2 e; omega⟩, h5.trans h6⟩
/-- Words one behind the other, up to the end. -/
def Chain (l : List UInt8) : Nat → List Wd → Prop
  | _, [] => False
  | k, w :: ws => nextW l k = some w ∧ ((w.kind = 1 ∧ ws = []) ∨ (w.kind ≠ 1 ∧ Chain l w.nx ws))
theorem wordsF_ok {l : List UInt8} : ∀ (f k : Nat), k ≤ l.length → l.length < f + k → (wordsF l f k).2 = none → Chain l k (wordsF l f k).1
  | 0, k, hk, hf, _ => by omega
  | f + 1, k, hk, hf, h => by
    simp only [wordsF] at h ⊢
    cases hw : nextW l k with
    | none => rw [hw] at h; cases h
    | some w =>
      rw [hw] at h
      simp only [] at h ⊢
      obtain ⟨h1, h2, h3, h4, h5, h6, h7, h8⟩ := nextW_some hw hk
      by_cases hc : w.kind = 1
      · rw [if_pos hc]; exact ⟨hw, .inl ⟨hc, rfl⟩⟩
      · rw [if_neg hc] at h ⊢
        have : w.at_ ≠ w.nx := fun e => hc (h7.1 e.symm)
        exact ⟨hw, .inr ⟨hc, wordsF_ok f w.nx h4 (by omega) h⟩⟩
theorem wordsF_err {l : List UInt8} {e : Nat} : ∀ (f k : Nat), k ≤ l.length → l.length < f + k → (wordsF l f k).2 = some e → e < l.length ∧ skp false (l.drop e) = 0 ∧ nextW l e = none
  | 0, k, hk, hf, _ => by omega
  | f + 1, k, hk, hf, h => by
    simp only [wordsF] at h
    cases hw : nextW l k with
    | none =>
      rw [hw] at h
      simp only [Option.some.injEq] at h
      have hs := skp_le (l.drop k) false
      rw [List.length_drop] at hs
      have hi := skp_idem (l.drop k) false
      rw [List.drop_drop, h] at hi
      unfold nextW at hw
      rw [h] at hw
      have hw2 : wordR (l.drop e) = none := by cases hr : wordR (l.drop e) with
        | none => rfl
        | some r => rw [hr] at hw; cases hw
      refine ⟨?_, hi, ?_⟩
      · rcases Nat.lt_or_ge e l.length with h9 | h9
        · exact h9
        · rw [List.drop_eq_nil_of_le h9] at hw2; cases hw2
      · unfold nextW; rw [hi, Nat.add_zero, hw2]; rfl
    | some w =>
      rw [hw] at h
      simp only [] at h
      obtain ⟨h1, h2, h3, h4, h5, h6, h7, h8⟩ := nextW_some hw hk
      by_cases hc : w.kind = 1
      · rw [if_pos hc] at h; cases h
      · rw [if_neg hc] at h
        have : w.at_ ≠ w.nx := fun e => hc (h7.1 e.symm)
        exact wordsF_err f w.nx h4 (by omega) h
theorem wordsF_fuel {l : List UInt8} : ∀ (f g k : Nat), k ≤ l.length → l.length < f + k → l.length < g + k → wordsF l f k = wordsF l g k
  | 0, g, k, hk, hf, hg => by omega
  | f + 1, 0, k, hk, hf, hg => by omega
  | f + 1, g + 1, k, hk, hf, hg => by
    simp only [wordsF]
    cases hw : nextW l k with
    | none => rfl
    | some w =>
      simp only []
      obtain ⟨h1, h2, h3, h4, h5, h6, h7, h8⟩ := nextW_some hw hk
      by_cases hc : w.kind = 1
      · rw [if_pos hc, if_pos hc]
      · rw [if_neg hc, if_neg hc]
        have : w.at_ ≠ w.nx := fun e => hc (h7.1 e.symm)
        rw [wordsF_fuel f g w.nx h4 (by omega) (by omega)]
/-- The words of a text, or where there is none. -/
def wordsOf (l : List UInt8) : List Wd × Option Nat := wordsF l (l.length + 1) 0

/-! ### Two texts -/
/-- A byte that goes on no word. -/
def Dlm (x : UInt8) : Prop := x = 10 ∨ x = 32
theorem Dlm.ld {x : UInt8} (h : Dlm x) : isLD x = false ∧ isDg x = false ∧ x ≠ 58 ∧ x ≠ 45 := by rcases h with rfl | rfl <;> decide
theorem tw_app {p : UInt8 → Bool} {x : UInt8} (hx : p x = false) (u : List UInt8) : ∀ s : List UInt8, (s ++ x :: u).takeWhile p = s.takeWhile p ∧ (s ++ x :: u).dropWhile p = s.dropWhile p ++ x :: u
  | [] => by simp [hx]
  | c :: s => by
    have ih := tw_app hx u s
    simp only [List.cons_append, List.takeWhile_cons, List.dropWhile_cons]
    split
    · exact ⟨by rw [ih.1], ih.2⟩
    · exact ⟨rfl, rfl⟩
theorem nameW_app {x : UInt8} (hx : Dlm x) (u s : List UInt8) : nameW (s ++ x :: u) = nameW s := by
  obtain ⟨h1, h2, h3, h4⟩ := hx.ld
  obtain ⟨e1, e2⟩ := tw_app h1 u s
  unfold nameW
  rw [e1, e2]
  generalize s.takeWhile isLD = a
  match s.dropWhile isLD with
  | [] =>
    simp only [List.nil_append]
    cases u with
    | nil => rfl
    | cons y v => simp [h3]
  | [c] => simp [h2]
  | c :: d :: t =>
    simp only [List.cons_append]
    have e3 := (tw_app h2 u (d :: t)).1
    simp only [List.cons_append] at e3
    rw [e3]
theorem qd_app : ∀ (f g : Nat) (s u : List UInt8) {q : List UInt8 × Nat}, f ≤ g → qd f s = some q → qd g (s ++ u) = some q
  | _, _, [], _, _, _, h => by simp [qd] at h
  | 0, _, _ :: _, _, _, _, h => by simp [qd] at h
  | f + 1, 0, _ :: _, _, _, hg, _ => by omega
  | f + 1, g + 1, c :: t, u, q, hg, h => by
    simp only [List.cons_append]
    unfold qd at h ⊢
    split at h
    · rename_i hc; rw [if_pos hc]; exact h
    · rename_i hc
      rw [if_neg hc]
      split at h
      · cases h
      · rename_i b n e
        have hl := rd_len e
        have e2 := rd_app u e
        rw [List.cons_append] at e2
        rw [e2]
        simp only []
        cases hq : qd f ((c :: t).drop n) with
        | none => rw [hq] at h; cases h
        | some q2 =>
          rw [hq] at h
          have hd : (c :: (t ++ u)).drop n = (c :: t).drop n ++ u := by rw [← List.cons_append, List.drop_append_of_le_length hl.2]
          rw [hd, qd_app f g _ u (by omega) hq]
          exact h
theorem cd_app : ∀ (f g : Nat) (s u : List UInt8) {q : List (UInt8 × UInt8) × Nat}, f ≤ g → cd f s = some q → cd g (s ++ u) = some q
  | _, _, [], _, _, _, h => by simp [cd] at h
  | 0, _, _ :: _, _, _, _, h => by simp [cd] at h
  | f + 1, 0, _ :: _, _, _, hg, _ => by omega
  | f + 1, g + 1, c :: t, u, q, hg, h => by
    simp only [List.cons_append]
    unfold cd at h ⊢
    split at h
    · rename_i hc; rw [if_pos hc]; exact h
    · rename_i hc
      rw [if_neg hc]
      split at h
      · cases h
      · rename_i b n e
        have hl := rd_len e
        have e2 := rd_app u e
        rw [List.cons_append] at e2
        rw [e2]
        have hd : (c :: (t ++ u)).drop n = (c :: t).drop n ++ u := by rw [← List.cons_append, List.drop_append_of_le_length hl.2]
        simp only []
        rw [hd]
        split at h
        · cases h
        · rename_i d v hv
          rw [hv]
          simp only [List.cons_append]
          split at h
          · rename_i h45
            rw [if_pos h45]
            split at h
            · cases h
            · rename_i b2 m e3
              have hl3 := rd_len e3
              rw [rd_app u e3]
              simp only []
              cases hq : cd f (v.drop m) with
              | none => rw [hq] at h; cases h
              | some q2 =>
                rw [hq] at h
                rw [List.drop_append_of_le_length hl3.2, cd_app f g _ u (by omega) hq]
                exact h
          · rename_i h45
            rw [if_neg h45]
            cases hq : cd f (d :: v) with
            | none => rw [hq] at h; cases h
            | some q2 =>
              rw [hq] at h
              have := cd_app f g _ u (by omega) hq
              rw [List.cons_append] at this
              rw [this]
              exact h
theorem wordR_app {x : UInt8} (hx : Dlm x) (u : List UInt8) {s : List UInt8} {r : Wr} (hs : s ≠ []) (h : wordR s = some r) : wordR (s ++ x :: u) = some r := by
  cases s with
  | nil => exact absurd rfl hs
  | cons c t =>
    simp only [List.cons_append]
    unfold wordR at h ⊢
    simp only [] at h ⊢
    split at h
    · rename_i hc
      rw [if_pos hc]
      have := nameW_app hx u (c :: t)
      rw [List.cons_append] at this
      rw [this]; exact h
    · rename_i hc
      rw [if_neg hc]
      split at h
      · rename_i h34
        rw [if_pos h34]
        cases hq : qd t.length t with
        | none => rw [hq] at h; cases h
        | some q =>
          rw [hq] at h
          rw [qd_app t.length _ t (x :: u) (by simp) hq]
          exact h
      · rename_i h34
        rw [if_neg h34]
        split at h
        · rename_i h91
          rw [if_pos h91]
          cases hq : cd t.length t with
          | none => rw [hq] at h; cases h
          | some q =>
            rw [hq] at h
            rw [cd_app t.length _ t (x :: u) (by simp) hq]
            exact h
        · rename_i h91
          rw [if_neg h91]
          have hh : (t ++ x :: u).head? = some 45 ↔ t.head? = some 45 := by
            cases t with
            | nil => simp [hx.ld.2.2.2]
            | cons d v => simp
          have hb : ((t ++ x :: u).head? == some 45) = (t.head? == some 45) := by
            rw [Bool.eq_iff_iff]; simpa using hh
          rw [hb]
          exact h
theorem skp_app : ∀ (s : List UInt8) (b : Bool) (u : List UInt8), (skp b s < s.length → skp b (s ++ u) = skp b s) ∧ (skp b s = s.length → ∃ b', skp b (s ++ u) = s.length + skp b' u)
  | [], b, u => ⟨fun h => by simp at h, fun _ => ⟨b, by simp⟩⟩
  | c :: s, true, u => by
    obtain ⟨h1, h2⟩ := skp_app s (c != 10) u
    simp only [List.cons_append, skp, List.length_cons]
    refine ⟨fun h => by rw [h1 (by omega)], fun h => ?_⟩
    obtain ⟨b', e⟩ := h2 (by omega)
    exact ⟨b', by rw [e]; omega⟩
  | c :: s, false, u => by
    obtain ⟨h1, h2⟩ := skp_app s false u
    obtain ⟨h3, h4⟩ := skp_app s true u
    simp only [List.cons_append, skp, List.length_cons]
    split
    · refine ⟨fun h => by rw [h1 (by omega)], fun h => ?_⟩
      obtain ⟨b', e⟩ := h2 (by omega)
      exact ⟨b', by rw [e]; omega⟩
    · split
      · refine ⟨fun h => by rw [h3 (by omega)], fun h => ?_⟩
        obtain ⟨b', e⟩ := h4 (by omega)
        exact ⟨b', by rw [e]; omega⟩
      · exact ⟨fun _ => rfl, fun h => by omega⟩
end Go.Proofs.YtnfkcdnkmcifbaaDoor
