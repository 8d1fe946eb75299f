/- Plain: the words of two texts with blanks between. -/
import Derived.Test.YtnfkcdnkmcifbaaDoorWb
namespace Go.Proofs.YtnfkcdnkmcifbaaDoor

/-- A word, so much further on. -/
def Wd.far (n : Nat) (w : Wd) : Wd := { w with at_ := n + w.at_, nx := n + w.nx }
/-- What may stand between two texts. -/
structure Gap (g : List UInt8) : Prop where
  hd : ∃ x u, g = x :: u ∧ Dlm x
  sk : ∀ (b : Bool) (u : List UInt8), skp b (g ++ u) = g.length + skp false u
theorem nextW_far (p l : List UInt8) (k : Nat) : nextW (p ++ l) (p.length + k) = (nextW l k).map (Wd.far p.length) := by
  unfold nextW
  have e1 : (p ++ l).drop (p.length + k) = l.drop k := by rw [← List.drop_drop, List.drop_left]
  have e2 : (p ++ l).drop (p.length + k + skp false (l.drop k)) = l.drop (k + skp false (l.drop k)) := by rw [Nat.add_assoc, ← List.drop_drop, List.drop_left]
  rw [e1, e2]
  cases wordR (l.drop (k + skp false (l.drop k))) with
  | none => rfl
  | some r => simp only [Option.map_some, Wr.at, Wd.far, Option.some.injEq, Wd.mk.injEq, true_and, and_true]; exact ⟨by omega, by omega⟩
theorem wordsF_far (p l : List UInt8) : ∀ (f k : Nat), wordsF (p ++ l) f (p.length + k) = ((wordsF l f k).1.map (Wd.far p.length), (wordsF l f k).2.map (p.length + ·))
  | 0, k => rfl
  | f + 1, k => by
    simp only [wordsF]
    rw [nextW_far]
    cases hw : nextW l k with
    | none =>
      have e1 : (p ++ l).drop (p.length + k) = l.drop k := by rw [← List.drop_drop, List.drop_left]
      simp only [Option.map_none, List.map_nil, Option.map_some, e1, Nat.add_assoc]
    | some w =>
      simp only [Option.map_some]
      have e : (Wd.far p.length w).kind = w.kind := rfl
      rw [e]
      by_cases hc : w.kind = 1
      · rw [if_pos hc, if_pos hc]; rfl
      · rw [if_neg hc, if_neg hc]
        have e2 : (Wd.far p.length w).nx = p.length + w.nx := rfl
        rw [e2, wordsF_far p l f w.nx]
        rfl
theorem nextW_in {a g : List UInt8} (hg : Gap g) (b : List UInt8) {k : Nat} {w : Wd} (hk : k ≤ a.length) (h : nextW a k = some w) (hc : w.kind ≠ 1) : nextW (a ++ (g ++ b)) k = some w := by
  obtain ⟨h1, h2, h3, h4, h5, h6, h7, h8⟩ := nextW_some h hk
  have hlt : w.at_ < a.length := by
    have : w.at_ ≠ a.length := fun e => hc (h8.2 e)
    omega
  obtain ⟨x, u, rfl, hx⟩ := hg.hd
  unfold nextW at h ⊢
  have hd : (a ++ (x :: u ++ b)).drop k = a.drop k ++ (x :: u ++ b) := List.drop_append_of_le_length hk
  have hsk : skp false ((a ++ (x :: u ++ b)).drop k) = skp false (a.drop k) := by
    rw [hd]
    exact (skp_app (a.drop k) false (x :: u ++ b)).1 (by rw [List.length_drop]; omega)
  rw [hsk]
  generalize hs : skp false (a.drop k) = s at *
  have hd2 : (a ++ (x :: u ++ b)).drop (k + s) = a.drop (k + s) ++ x :: (u ++ b) := List.drop_append_of_le_length (by omega)
  rw [hd2]
  cases hr : wordR (a.drop (k + s)) with
  | none => rw [hr] at h; cases h
  | some r =>
    rw [hr] at h
    rw [wordR_app hx (u ++ b) (by rw [Ne, List.drop_eq_nil_iff]; omega) hr]
    exact h
theorem nextW_out {a g : List UInt8} (hg : Gap g) (b : List UInt8) {k : Nat} {w : Wd} (hk : k ≤ a.length) (h : nextW a k = some w) (hc : w.kind = 1) :
    nextW (a ++ (g ++ b)) k = (nextW b 0).map (Wd.far (a.length + g.length)) ∧ k + skp false ((a ++ (g ++ b)).drop k) = a.length + g.length + skp false b := by
  obtain ⟨h1, h2, h3, h4, h5, h6, h7, h8⟩ := nextW_some h hk
  have hat := h8.1 hc
  have hsl : skp false (a.drop k) = (a.drop k).length := by rw [List.length_drop]; omega
  obtain ⟨b', e⟩ := (skp_app (a.drop k) false (g ++ b)).2 hsl
  rw [hg.sk, List.length_drop] at e
  have hd : (a ++ (g ++ b)).drop k = a.drop k ++ (g ++ b) := List.drop_append_of_le_length hk
  have hsk : k + skp false ((a ++ (g ++ b)).drop k) = a.length + g.length + skp false b := by rw [hd, e]; omega
  refine ⟨?_, hsk⟩
  have hf := nextW_far (a ++ g) b 0
  rw [Nat.add_zero, List.length_append, List.append_assoc] at hf
  rw [← hf]
  unfold nextW
  have hd3 : (a ++ (g ++ b)).drop (a.length + g.length) = b := by rw [← List.append_assoc, ← List.length_append, List.drop_left]
  rw [hsk, hd3]
theorem join_words {a g : List UInt8} (hg : Gap g) (b : List UInt8) : ∀ (ws : List Wd) (k f : Nat), k ≤ a.length → Chain a k ws → (a ++ (g ++ b)).length < f + k →
    wordsF (a ++ (g ++ b)) f k = (ws.dropLast ++ (wordsOf b).1.map (Wd.far (a.length + g.length)), (wordsOf b).2.map (a.length + g.length + ·))
  | [], k, f, _, h, _ => h.elim
  | w :: ws, k, 0, hk, h, hf => by simp only [List.length_append] at hf; omega
  | w :: ws, k, f + 1, hk, h, hf => by
    obtain ⟨hw, hc⟩ := h
    obtain ⟨h1, h2, h3, h4, h5, h6, h7, h8⟩ := nextW_some hw hk
    rcases hc with ⟨hc, rfl⟩ | ⟨hc, hch⟩
    · obtain ⟨e1, e2⟩ := nextW_out hg b hk hw hc
      have hfar := wordsF_far (a ++ g) b (f + 1) 0
      rw [Nat.add_zero, List.length_append, List.append_assoc] at hfar
      have hfu := wordsF_fuel (l := b) (f + 1) (b.length + 1) 0 (by omega) (by simp only [List.length_append] at hf; omega) (by omega)
      unfold wordsOf
      rw [← hfu, List.dropLast_singleton, List.nil_append, ← hfar]
      -- the first word behind the end of a is b's first
      have hne := nextW_far (a ++ g) b 0
      rw [Nat.add_zero, List.length_append, List.append_assoc] at hne
      have hsk2 : (a.length + g.length) + skp false ((a ++ (g ++ b)).drop (a.length + g.length)) = a.length + g.length + skp false b := by
        rw [← List.append_assoc, ← List.length_append, List.drop_left]
      simp only [wordsF]
      rw [e1, ← hne, e2]
      simp only [Nat.add_zero]
      rw [hsk2]
    · have hne : ws ≠ [] := fun e => by subst e; exact hch
      simp only [wordsF]
      rw [nextW_in hg b hk hw hc]
      simp only []
      rw [if_neg hc]
      have hlt : w.at_ ≠ w.nx := fun e => hc (h7.1 e.symm)
      rw [join_words hg b ws w.nx f h4 hch (by omega), List.dropLast_cons_of_ne_nil hne]
      rfl
theorem gap_ok (i : Nat) (hi : i < 4) : Gap (match i with | 0 => [10] | 1 => [10, 32, 9, 13] | 2 => [10, 35, 120, 10] | _ => [32, 10, 35, 10, 10]) := by
  match i, hi with
  | 0, _ => exact ⟨⟨_, _, rfl, .inl rfl⟩, fun b u => by cases b <;> simp [skp, isBl]⟩
  | 1, _ => exact ⟨⟨_, _, rfl, .inl rfl⟩, fun b u => by cases b <;> simp [skp, isBl] <;> omega⟩
  | 2, _ => exact ⟨⟨_, _, rfl, .inl rfl⟩, fun b u => by cases b <;> simp [skp, isBl] <;> omega⟩
  | 3, _ => exact ⟨⟨_, _, rfl, .inr rfl⟩, fun b u => by cases b <;> simp [skp, isBl] <;> omega⟩
end Go.Proofs.YtnfkcdnkmcifbaaDoor
