/- Walks and plain laws: Wb Wc Wd V1 Rz We Wf Ia Ib. -/
import Derived.Test.YthfefbmkgebmkaaGreatDoorM03
import Derived.Lib.Bytealg
import Derived.Lib.SlTrimSet
import Derived.Lib.Strings
import Derived.Test.YthfefbmkgebmkaaGreatDoorRows
import Derived.ProofKit
import Derived.OpenShut
import Derived.ShutString
import Derived.SizedLaws
import Derived.Lib.SmallJoins
import Derived.Lib.LaidTab
import Derived.Stop.LaidErr
namespace Go.Proofs.YthfefbmkgebmkaaGreatDoor

theorem nextW_some {l : List UInt8} {k : Nat} {w : Wd} (h : nextW l k = some w) (hk : k ≤ l.length) :
  w.at_ = k + skp false (l.drop k) ∧ k ≤ w.at_ ∧ w.at_ ≤ w.nx ∧ w.nx ≤ l.length ∧ 1 ≤ w.kind ∧ w.kind ≤ 5 ∧ (w.nx = w.at_ ↔ w.kind = 1) ∧ (w.kind = 1 ↔ w.at_ = l.length) := by
 unfold nextW at h
 have hs := skp_le (l.drop k) false
 rw [List.length_drop] at hs
 generalize skp false (l.drop k) = s at *
 cases hr : wordR (l.drop (k + s)) with
 | none => rw [hr] at h; cases h
 | some r =>
  rw [hr] at h
  simp only [Option.map_some, Option.some.injEq] at h
  subst h
  obtain ⟨h1, h2, h3, h4, h5⟩ := wordR_len hr
  rw [List.length_drop] at h1
  have h6 : l.drop (k + s) = [] ↔ k + s = l.length := by rw [List.drop_eq_nil_iff]; omega
  simp only [Wr.at]
  refine ⟨trivial, by omega, by omega, by omega, h2, h3, ⟨fun e => h4.1 (by omega), fun e => by have := h4.2 e; omega⟩, h5.trans h6⟩
/-- Words one behind the other, up to the end. -/
def Chain (l : List UInt8) : Nat → List Wd → Prop
 | _, [] => False
 | k, w :: ws => nextW l k = some w ∧ ((w.kind = 1 ∧ ws = []) ∨ (w.kind ≠ 1 ∧ Chain l w.nx ws))
theorem wordsF_ok {l : List UInt8} : ∀ (f k : Nat), k ≤ l.length → l.length < f + k → (wordsF l f k).2 = none → Chain l k (wordsF l f k).1
 | 0, k, hk, hf, _ => by omega
 | f + 1, k, hk, hf, h => by
  simp only [wordsF] at h ⊢
  cases hw : nextW l k with
  | none => rw [hw] at h; cases h
  | some w =>
   rw [hw] at h
   simp only [] at h ⊢
   obtain ⟨h1, h2, h3, h4, h5, h6, h7, h8⟩ := nextW_some hw hk
   by_cases hc : w.kind = 1
   ·rw [if_pos hc]; exact ⟨hw, .inl ⟨hc, rfl⟩⟩
   ·rw [if_neg hc] at h ⊢
    have : w.at_ ≠ w.nx := fun e => hc (h7.1 e.symm)
    exact ⟨hw, .inr ⟨hc, wordsF_ok f w.nx h4 (by omega) h⟩⟩
theorem wordsF_err {l : List UInt8} {e : Nat} : ∀ (f k : Nat), k ≤ l.length → l.length < f + k → (wordsF l f k).2 = some e → e < l.length ∧ skp false (l.drop e) = 0 ∧ nextW l e = none
 | 0, k, hk, hf, _ => by omega
 | f + 1, k, hk, hf, h => by
  simp only [wordsF] at h
  cases hw : nextW l k with
  | none =>
   rw [hw] at h
   simp only [Option.some.injEq] at h
   have hs := skp_le (l.drop k) false
   rw [List.length_drop] at hs
   have hi := skp_idem (l.drop k) false
   rw [List.drop_drop, h] at hi
   unfold nextW at hw
   rw [h] at hw
   have hw2 : wordR (l.drop e) = none := by cases hr : wordR (l.drop e) with
    | none => rfl
    | some r => rw [hr] at hw; cases hw
   refine ⟨?_, hi, ?_⟩
   ·rcases Nat.lt_or_ge e l.length with h9 | h9
    ·exact h9
    ·rw [List.drop_eq_nil_of_le h9] at hw2; cases hw2
   ·unfold nextW; rw [hi, Nat.add_zero, hw2]; rfl
  | some w =>
   rw [hw] at h
   simp only [] at h
   obtain ⟨h1, h2, h3, h4, h5, h6, h7, h8⟩ := nextW_some hw hk
   by_cases hc : w.kind = 1
   ·rw [if_pos hc] at h; cases h
   ·rw [if_neg hc] at h
    have : w.at_ ≠ w.nx := fun e => hc (h7.1 e.symm)
    exact wordsF_err f w.nx h4 (by omega) h
theorem wordsF_fuel {l : List UInt8} : ∀ (f g k : Nat), k ≤ l.length → l.length < f + k → l.length < g + k → wordsF l f k = wordsF l g k
 | 0, g, k, hk, hf, hg => by omega
 | f + 1, 0, k, hk, hf, hg => by omega
 | f + 1, g + 1, k, hk, hf, hg => by
  simp only [wordsF]
  cases hw : nextW l k with
  | none => rfl
  | some w =>
   simp only []
   obtain ⟨h1, h2, h3, h4, h5, h6, h7, h8⟩ := nextW_some hw hk
   by_cases hc : w.kind = 1
   ·rw [if_pos hc, if_pos hc]
   ·rw [if_neg hc, if_neg hc]
    have : w.at_ ≠ w.nx := fun e => hc (h7.1 e.symm)
    rw [wordsF_fuel f g w.nx h4 (by omega) (by omega)]
/-- The words of a text, or where there is none. -/
def wordsOf (l : List UInt8) : List Wd × Option Nat := wordsF l (l.length + 1) 0

/-! ### Two texts -/
/-- A byte that goes on no word. -/
def Dlm (x : UInt8) : Prop := x = 10 ∨ x = 32 ∨ x = 13
theorem Dlm.ld {x : UInt8} (h : Dlm x) : isLD x = false ∧ isDg x = false ∧ x ≠ 58 ∧ x ≠ 45 := by rcases h with rfl | rfl | rfl <;> decide
theorem tw_app {p : UInt8 → Bool} {x : UInt8} (hx : p x = false) (u : List UInt8) : ∀ s : List UInt8, (s ++ x :: u).takeWhile p = s.takeWhile p ∧ (s ++ x :: u).dropWhile p = s.dropWhile p ++ x :: u
 | [] => by simp [hx]
 | c :: s => by
  have ih := tw_app hx u s
  simp only [List.cons_append, List.takeWhile_cons, List.dropWhile_cons]
  split
  ·exact ⟨by rw [ih.1], ih.2⟩
  ·exact ⟨rfl, rfl⟩
theorem nameW_app {x : UInt8} (hx : Dlm x) (u s : List UInt8) : nameW (s ++ x :: u) = nameW s := by
 obtain ⟨h1, h2, h3, h4⟩ := hx.ld
 obtain ⟨e1, e2⟩ := tw_app h1 u s
 unfold nameW
 rw [e1, e2]
 generalize s.takeWhile isLD = a
 match s.dropWhile isLD with
 | [] =>
  simp only [List.nil_append]
  cases u with
  | nil => rfl
  | cons y v => simp [h3]
 | [c] => simp [h2]
 | c :: d :: t =>
  simp only [List.cons_append]
  have e3 := (tw_app h2 u (d :: t)).1
  simp only [List.cons_append] at e3
  rw [e3]
theorem qd_app : ∀ (f g : Nat) (s u : List UInt8) {q : List UInt8 × Nat}, f ≤ g → qd f s = some q → qd g (s ++ u) = some q
 | _, _, [], _, _, _, h => by simp [qd] at h
 | 0, _, _ :: _, _, _, _, h => by simp [qd] at h
 | f + 1, 0, _ :: _, _, _, hg, _ => by omega
 | f + 1, g + 1, c :: t, u, q, hg, h => by
  simp only [List.cons_append]
  unfold qd at h ⊢
  split at h
  ·rename_i hc; rw [if_pos hc]; exact h
  ·rename_i hc
   rw [if_neg hc]
   split at h
   ·cases h
   ·rename_i b n e
    have hl := rd_len e
    have e2 := rd_app u e
    rw [List.cons_append] at e2
    rw [e2]
    simp only []
    cases hq : qd f ((c :: t).drop n) with
    | none => rw [hq] at h; cases h
    | some q2 =>
     rw [hq] at h
     have hd : (c :: (t ++ u)).drop n = (c :: t).drop n ++ u := by rw [← List.cons_append, List.drop_append_of_le_length hl.2]
     rw [hd, qd_app f g _ u (by omega) hq]
     exact h
theorem cd_app : ∀ (f g : Nat) (s u : List UInt8) {q : List (UInt8 × UInt8) × Nat}, f ≤ g → cd f s = some q → cd g (s ++ u) = some q
 | _, _, [], _, _, _, h => by simp [cd] at h
 | 0, _, _ :: _, _, _, _, h => by simp [cd] at h
 | f + 1, 0, _ :: _, _, _, hg, _ => by omega
 | f + 1, g + 1, c :: t, u, q, hg, h => by
  simp only [List.cons_append]
  unfold cd at h ⊢
  split at h
  ·rename_i hc; rw [if_pos hc]; exact h
  ·rename_i hc
   rw [if_neg hc]
   split at h
   ·cases h
   ·rename_i b n e
    have hl := rd_len e
    have e2 := rd_app u e
    rw [List.cons_append] at e2
    rw [e2]
    have hd : (c :: (t ++ u)).drop n = (c :: t).drop n ++ u := by rw [← List.cons_append, List.drop_append_of_le_length hl.2]
    simp only []
    rw [hd]
    split at h
    ·cases h
    ·rename_i d v hv
     rw [hv]
     simp only [List.cons_append]
     split at h
     ·rename_i h45
      rw [if_pos h45]
      split at h
      ·cases h
      ·rename_i b2 m e3
       have hl3 := rd_len e3
       rw [rd_app u e3]
       simp only []
       cases hq : cd f (v.drop m) with
       | none => rw [hq] at h; cases h
       | some q2 =>
        rw [hq] at h
        rw [List.drop_append_of_le_length hl3.2, cd_app f g _ u (by omega) hq]
        exact h
     ·rename_i h45
      rw [if_neg h45]
      cases hq : cd f (d :: v) with
      | none => rw [hq] at h; cases h
      | some q2 =>
       rw [hq] at h
       have := cd_app f g _ u (by omega) hq
       rw [List.cons_append] at this
       rw [this]
       exact h
theorem wordR_app {x : UInt8} (hx : Dlm x) (u : List UInt8) {s : List UInt8} {r : Wr} (hs : s ≠ []) (h : wordR s = some r) : wordR (s ++ x :: u) = some r := by
 cases s with
 | nil => exact absurd rfl hs
 | cons c t =>
  simp only [List.cons_append]
  unfold wordR at h ⊢
  simp only [] at h ⊢
  split at h
  ·rename_i hc
   rw [if_pos hc]
   have := nameW_app hx u (c :: t)
   rw [List.cons_append] at this
   rw [this]; exact h
  ·rename_i hc
   rw [if_neg hc]
   split at h
   ·rename_i h34
    rw [if_pos h34]
    cases hq : qd t.length t with
    | none => rw [hq] at h; cases h
    | some q =>
     rw [hq] at h
     rw [qd_app t.length _ t (x :: u) (by simp) hq]
     exact h
   ·rename_i h34
    rw [if_neg h34]
    split at h
    ·rename_i h91
     rw [if_pos h91]
     cases hq : cd t.length t with
     | none => rw [hq] at h; cases h
     | some q =>
      rw [hq] at h
      rw [cd_app t.length _ t (x :: u) (by simp) hq]
      exact h
    ·rename_i h91
     rw [if_neg h91]
     have hh : (t ++ x :: u).head? = some 45 ↔ t.head? = some 45 := by
      cases t with
      | nil => simp [hx.ld.2.2.2]
      | cons d v => simp
     have hb : ((t ++ x :: u).head? == some 45) = (t.head? == some 45) := by
      rw [Bool.eq_iff_iff]; simpa using hh
     rw [hb]
     exact h
theorem skp_app : ∀ (s : List UInt8) (b : Bool) (u : List UInt8), (skp b s < s.length → skp b (s ++ u) = skp b s) ∧ (skp b s = s.length → ∃ b', skp b (s ++ u) = s.length + skp b' u)
 | [], b, u => ⟨fun h => by simp at h, fun _ => ⟨b, by simp⟩⟩
 | c :: s, true, u => by
  obtain ⟨h1, h2⟩ := skp_app s (c != 10) u
  simp only [List.cons_append, skp, List.length_cons]
  refine ⟨fun h => by rw [h1 (by omega)], fun h => ?_⟩
  obtain ⟨b', e⟩ := h2 (by omega)
  exact ⟨b', by rw [e]; omega⟩
 | c :: s, false, u => by
  obtain ⟨h1, h2⟩ := skp_app s false u
  obtain ⟨h3, h4⟩ := skp_app s true u
  simp only [List.cons_append, skp, List.length_cons]
  split
  ·refine ⟨fun h => by rw [h1 (by omega)], fun h => ?_⟩
   obtain ⟨b', e⟩ := h2 (by omega)
   exact ⟨b', by rw [e]; omega⟩
  ·split
   ·refine ⟨fun h => by rw [h3 (by omega)], fun h => ?_⟩
    obtain ⟨b', e⟩ := h4 (by omega)
    exact ⟨b', by rw [e]; omega⟩
   ·exact ⟨fun _ => rfl, fun h => by omega⟩
end Go.Proofs.YthfefbmkgebmkaaGreatDoor
namespace Go.Proofs.YthfefbmkgebmkaaGreatDoor

/-- A word, so much further on. -/
def Wd.far (n : Nat) (w : Wd) : Wd := { w with at_ := n + w.at_, nx := n + w.nx }
/-- What may stand between two texts. -/
structure Gap (g : List UInt8) : Prop where
 hd : ∃ x u, g = x :: u ∧ Dlm x
 sk : ∀ (b : Bool) (u : List UInt8), skp b (g ++ u) = g.length + skp false u
theorem nextW_far (p l : List UInt8) (k : Nat) : nextW (p ++ l) (p.length + k) = (nextW l k).map (Wd.far p.length) := by
 unfold nextW
 have e1 : (p ++ l).drop (p.length + k) = l.drop k := by rw [← List.drop_drop, List.drop_left]
 have e2 : (p ++ l).drop (p.length + k + skp false (l.drop k)) = l.drop (k + skp false (l.drop k)) := by rw [Nat.add_assoc, ← List.drop_drop, List.drop_left]
 rw [e1, e2]
 cases wordR (l.drop (k + skp false (l.drop k))) with
 | none => rfl
 | some r => simp only [Option.map_some, Wr.at, Wd.far, Option.some.injEq, Wd.mk.injEq, true_and, and_true]; exact ⟨by omega, by omega⟩
theorem wordsF_far (p l : List UInt8) : ∀ (f k : Nat), wordsF (p ++ l) f (p.length + k) = ((wordsF l f k).1.map (Wd.far p.length), (wordsF l f k).2.map (p.length + ·))
 | 0, k => rfl
 | f + 1, k => by
  simp only [wordsF]
  rw [nextW_far]
  cases hw : nextW l k with
  | none =>
   have e1 : (p ++ l).drop (p.length + k) = l.drop k := by rw [← List.drop_drop, List.drop_left]
   simp only [Option.map_none, List.map_nil, Option.map_some, e1, Nat.add_assoc]
  | some w =>
   simp only [Option.map_some]
   have e : (Wd.far p.length w).kind = w.kind := rfl
   rw [e]
   by_cases hc : w.kind = 1
   ·rw [if_pos hc, if_pos hc]; rfl
   ·rw [if_neg hc, if_neg hc]
    have e2 : (Wd.far p.length w).nx = p.length + w.nx := rfl
    rw [e2, wordsF_far p l f w.nx]
    rfl
theorem nextW_in {a g : List UInt8} (hg : Gap g) (b : List UInt8) {k : Nat} {w : Wd} (hk : k ≤ a.length) (h : nextW a k = some w) (hc : w.kind ≠ 1) : nextW (a ++ (g ++ b)) k = some w := by
 obtain ⟨h1, h2, h3, h4, h5, h6, h7, h8⟩ := nextW_some h hk
 have hlt : w.at_ < a.length := by
  have : w.at_ ≠ a.length := fun e => hc (h8.2 e)
  omega
 obtain ⟨x, u, rfl, hx⟩ := hg.hd
 unfold nextW at h ⊢
 have hd : (a ++ (x :: u ++ b)).drop k = a.drop k ++ (x :: u ++ b) := List.drop_append_of_le_length hk
 have hsk : skp false ((a ++ (x :: u ++ b)).drop k) = skp false (a.drop k) := by
  rw [hd]
  exact (skp_app (a.drop k) false (x :: u ++ b)).1 (by rw [List.length_drop]; omega)
 rw [hsk]
 generalize hs : skp false (a.drop k) = s at *
 have hd2 : (a ++ (x :: u ++ b)).drop (k + s) = a.drop (k + s) ++ x :: (u ++ b) := List.drop_append_of_le_length (by omega)
 rw [hd2]
 cases hr : wordR (a.drop (k + s)) with
 | none => rw [hr] at h; cases h
 | some r =>
  rw [hr] at h
  rw [wordR_app hx (u ++ b) (by rw [Ne, List.drop_eq_nil_iff]; omega) hr]
  exact h
theorem nextW_out {a g : List UInt8} (hg : Gap g) (b : List UInt8) {k : Nat} {w : Wd} (hk : k ≤ a.length) (h : nextW a k = some w) (hc : w.kind = 1) :
  nextW (a ++ (g ++ b)) k = (nextW b 0).map (Wd.far (a.length + g.length)) ∧ k + skp false ((a ++ (g ++ b)).drop k) = a.length + g.length + skp false b := by
 obtain ⟨h1, h2, h3, h4, h5, h6, h7, h8⟩ := nextW_some h hk
 have hat := h8.1 hc
 have hsl : skp false (a.drop k) = (a.drop k).length := by rw [List.length_drop]; omega
 obtain ⟨b', e⟩ := (skp_app (a.drop k) false (g ++ b)).2 hsl
 rw [hg.sk, List.length_drop] at e
 have hd : (a ++ (g ++ b)).drop k = a.drop k ++ (g ++ b) := List.drop_append_of_le_length hk
 have hsk : k + skp false ((a ++ (g ++ b)).drop k) = a.length + g.length + skp false b := by rw [hd, e]; omega
 refine ⟨?_, hsk⟩
 have hf := nextW_far (a ++ g) b 0
 rw [Nat.add_zero, List.length_append, List.append_assoc] at hf
 rw [← hf]
 unfold nextW
 have hd3 : (a ++ (g ++ b)).drop (a.length + g.length) = b := by rw [← List.append_assoc, ← List.length_append, List.drop_left]
 rw [hsk, hd3]
theorem join_words {a g : List UInt8} (hg : Gap g) (b : List UInt8) : ∀ (ws : List Wd) (k f : Nat), k ≤ a.length → Chain a k ws → (a ++ (g ++ b)).length < f + k →
  wordsF (a ++ (g ++ b)) f k = (ws.dropLast ++ (wordsOf b).1.map (Wd.far (a.length + g.length)), (wordsOf b).2.map (a.length + g.length + ·))
 | [], k, f, _, h, _ => h.elim
 | w :: ws, k, 0, hk, h, hf => by simp only [List.length_append] at hf; omega
 | w :: ws, k, f + 1, hk, h, hf => by
  obtain ⟨hw, hc⟩ := h
  obtain ⟨h1, h2, h3, h4, h5, h6, h7, h8⟩ := nextW_some hw hk
  rcases hc with ⟨hc, rfl⟩ | ⟨hc, hch⟩
  ·obtain ⟨e1, e2⟩ := nextW_out hg b hk hw hc
   have hfar := wordsF_far (a ++ g) b (f + 1) 0
   rw [Nat.add_zero, List.length_append, List.append_assoc] at hfar
   have hfu := wordsF_fuel (l := b) (f + 1) (b.length + 1) 0 (by omega) (by simp only [List.length_append] at hf; omega) (by omega)
   unfold wordsOf
   rw [← hfu, List.dropLast_singleton, List.nil_append, ← hfar]
   -- the first word behind the end of a is b's first
   have hne := nextW_far (a ++ g) b 0
   rw [Nat.add_zero, List.length_append, List.append_assoc] at hne
   have hsk2 : (a.length + g.length) + skp false ((a ++ (g ++ b)).drop (a.length + g.length)) = a.length + g.length + skp false b := by
    rw [← List.append_assoc, ← List.length_append, List.drop_left]
   simp only [wordsF]
   rw [e1, ← hne, e2]
   simp only [Nat.add_zero]
   rw [hsk2]
  ·have hne : ws ≠ [] := fun e => by subst e; exact hch
   simp only [wordsF]
   rw [nextW_in hg b hk hw hc]
   simp only []
   rw [if_neg hc]
   have hlt : w.at_ ≠ w.nx := fun e => hc (h7.1 e.symm)
   rw [join_words hg b ws w.nx f h4 hch (by omega), List.dropLast_cons_of_ne_nil hne]
   rfl
theorem gap_ok (i : Nat) (hi : i < 4) : Gap (match i with | 0 => [10] | 1 => [10, 32, 9, 13] | 2 => [10, 35, 120, 10] | _ => [32, 10, 35, 10, 10]) := by
 match i, hi with
 | 0, _ => exact ⟨⟨_, _, rfl, .inl rfl⟩, fun b u => by cases b <;> simp [skp, isBl]⟩
 | 1, _ => exact ⟨⟨_, _, rfl, .inl rfl⟩, fun b u => by cases b <;> simp [skp, isBl] <;> omega⟩
 | 2, _ => exact ⟨⟨_, _, rfl, .inl rfl⟩, fun b u => by cases b <;> simp [skp, isBl] <;> omega⟩
 | 3, _ => exact ⟨⟨_, _, rfl, .inr (.inl rfl)⟩, fun b u => by cases b <;> simp [skp, isBl] <;> omega⟩
end Go.Proofs.YthfefbmkgebmkaaGreatDoor
namespace Go.Proofs.YthfefbmkgebmkaaGreatDoor

theorem skp_blanks : ∀ t : List UInt8, skp false t = (t.takeWhile isBl).length + skp false (t.dropWhile isBl)
 | [] => rfl
 | c :: t => by
  rw [List.takeWhile_cons, List.dropWhile_cons]
  by_cases h : isBl c = true
  ·rw [if_pos h, if_pos h]
   have := skp_blanks t
   simp only [skp]
   rw [if_pos h, this, List.length_cons]
   omega
  ·rw [if_neg h, if_neg h]; simp
theorem skp_stop {c : UInt8} {t : List UInt8} (h1 : isBl c = false) (h2 : c ≠ 35) : skp false (c :: t) = 0 := by
 simp only [skp]; rw [if_neg (by rw [h1]; exact Bool.false_ne_true), if_neg (by simpa using h2)]
theorem drop_head {p : UInt8 → Bool} : ∀ {t : List UInt8} {c : UInt8} {u : List UInt8}, t.dropWhile p = c :: u → p c = false
 | [], c, u, h => by cases h
 | x :: t, c, u, h => by
  rw [List.dropWhile_cons] at h
  by_cases hp : p x = true
  ·rw [if_pos hp] at h; exact drop_head h
  ·rw [if_neg hp] at h; cases h; simpa using hp
theorem drop_tw {p : UInt8 → Bool} : ∀ l : List UInt8, l.dropWhile p = l.drop (l.takeWhile p).length
 | [] => rfl
 | c :: l => by
  rw [List.dropWhile_cons, List.takeWhile_cons]
  split
  ·rw [List.length_cons, List.drop_succ_cons]; exact drop_tw l
  ·rfl
theorem pre1 (p c : UInt8) (u : List UInt8) : Lib.hasPrefix (c :: u) [p] = (p == c) := by
 show (p == c && List.isPrefixOf [] u) = (p == c)
 rw [List.isPrefixOf_nil_left, Bool.and_true]
theorem ix_ge (l : List UInt8) (c : UInt8) : -1 ≤ Lib.indexByte l c ∧ Lib.indexByte l c < l.length := by
 induction l with
 | nil => simp [Lib.indexByte]
 | cons b l ih =>
  simp only [Lib.indexByte, List.length_cons]
  split
  ·omega
  ·split
   ·omega
   ·rename_i h; simp only [beq_iff_eq] at h; omega
theorem skp_remark : ∀ u : List UInt8, skp true u = if Lib.indexByte u 10 < 0 then u.length else (Lib.indexByte u 10).toNat + 1 + skp false (u.drop ((Lib.indexByte u 10).toNat + 1))
 | [] => rfl
 | c :: u => by
  have ih := skp_remark u
  have hb := ix_ge u 10
  by_cases h : c = 10
  ·subst h
   have e1 : Lib.indexByte (10 :: u) 10 = 0 := by simp [Lib.indexByte]
   rw [e1]
   simp [skp]
  ·have h1 : (c == 10) = false := by simpa using h
   have h2 : (c != 10) = true := by rw [bne, h1]; rfl
   have e1 : Lib.indexByte (c :: u) 10 = if Lib.indexByte u 10 == -1 then -1 else Lib.indexByte u 10 + 1 := by simp [Lib.indexByte, h]
   have e0 : skp true (c :: u) = 1 + skp true u := by simp only [skp]; rw [h2]
   rw [e0, e1, ih, List.length_cons]
   by_cases h3 : Lib.indexByte u 10 < 0
   ·have h4 : Lib.indexByte u 10 = -1 := by omega
    rw [if_pos h3, h4]
    simp; omega
   ·have h4 : (Lib.indexByte u 10 == -1) = false := by simp; omega
    rw [if_neg h3, h4]
    simp only [Bool.false_eq_true, if_false]
    rw [if_neg (by omega)]
    have h5 : (Lib.indexByte u 10 + 1).toNat = (Lib.indexByte u 10).toNat + 1 := by omega
    rw [h5, List.drop_succ_cons]
    omega
theorem ix_at : ∀ (u : List UInt8) (c : UInt8), 0 ≤ Lib.indexByte u c → ∃ v, u.drop (Lib.indexByte u c).toNat = c :: v
 | [], c, h => by simp [Lib.indexByte] at h
 | b :: u, c, h => by
  simp only [Lib.indexByte] at h ⊢
  by_cases h1 : (b == c) = true
  ·rw [if_pos h1]; rw [beq_iff_eq] at h1; subst h1; exact ⟨u, rfl⟩
  ·rw [if_neg h1] at h ⊢
   by_cases h2 : (Lib.indexByte u c == -1) = true
   ·rw [if_pos h2] at h; omega
   ·rw [if_neg h2] at h ⊢
    have hb := ix_ge u c
    simp only [beq_iff_eq] at h2
    obtain ⟨v, hv⟩ := ix_at u c (by omega)
    have h5 : (Lib.indexByte u c + 1).toNat = (Lib.indexByte u c).toNat + 1 := by omega
    exact ⟨v, by rw [h5, List.drop_succ_cons]; exact hv⟩
/-- A remark, up to the byte that ends it. -/
theorem skp_hash (u : List UInt8) : (Lib.indexByte (35 :: u) 10 < 0 → skp false (35 :: u) = (35 :: u).length) ∧
  (0 ≤ Lib.indexByte (35 :: u) 10 → 1 ≤ Lib.indexByte (35 :: u) 10 ∧ skp false (35 :: u) = (Lib.indexByte (35 :: u) 10).toNat + skp false ((35 :: u).drop (Lib.indexByte (35 :: u) 10).toNat)) := by
 have e0 : skp false (35 :: u) = 1 + skp true u := by simp [skp, isBl]
 have e1 : Lib.indexByte (35 :: u) 10 = if Lib.indexByte u 10 == -1 then -1 else Lib.indexByte u 10 + 1 := by simp [Lib.indexByte]
 have hb := ix_ge u 10
 rw [e0, e1, skp_remark u]
 by_cases h : Lib.indexByte u 10 < 0
 ·have h4 : Lib.indexByte u 10 = -1 := by omega
  rw [h4]
  simp
  omega
 ·have h4 : (Lib.indexByte u 10 == -1) = false := by simp; omega
  rw [h4, if_neg h]
  simp only [Bool.false_eq_true, if_false]
  refine ⟨fun h => by omega, fun _ => ⟨by omega, ?_⟩⟩
  have h5 : (Lib.indexByte u 10 + 1).toNat = (Lib.indexByte u 10).toNat + 1 := by omega
  rw [h5, List.drop_succ_cons]
  obtain ⟨v, hv⟩ := ix_at u 10 (by omega)
  have e2 : u.drop ((Lib.indexByte u 10).toNat + 1) = v := by rw [← List.drop_drop, hv]; rfl
  rw [hv, e2]
  simp [skp, isBl]
  omega

/-! ### Classes of bytes, as texts -/
def blS : ByteArray := ⟨#[32, 9, 10, 13]⟩
def dgS : ByteArray := ⟨#[48, 49, 50, 51, 52, 53, 54, 55, 56, 57]⟩
def ltS : ByteArray := ⟨#[97, 98, 99, 100, 101, 102, 103, 104, 105, 106, 107, 108, 109, 110, 111, 112, 113, 114, 115, 116, 117, 118, 119, 120, 121, 122, 65, 66, 67, 68, 69, 70, 71, 72, 73, 74, 75, 76, 77, 78, 79, 80, 81, 82, 83, 84, 85, 86, 87, 88, 89, 90, 95]⟩
def ldS : ByteArray := ⟨#[97, 98, 99, 100, 101, 102, 103, 104, 105, 106, 107, 108, 109, 110, 111, 112, 113, 114, 115, 116, 117, 118, 119, 120, 121, 122, 65, 66, 67, 68, 69, 70, 71, 72, 73, 74, 75, 76, 77, 78, 79, 80, 81, 82, 83, 84, 85, 86, 87, 88, 89, 90, 95, 48, 49, 50, 51, 52, 53, 54, 55, 56, 57]⟩
theorem blS_is (c : UInt8) : blS.data.toList.contains c = isBl c := u8_all (P := fun c => blS.data.toList.contains c = isBl c) (by decide +kernel) c
theorem dgS_is (c : UInt8) : dgS.data.toList.contains c = isDg c := u8_all (P := fun c => dgS.data.toList.contains c = isDg c) (by decide +kernel) c
theorem ltS_is (c : UInt8) : ltS.data.toList.contains c = isLt c := u8_all (P := fun c => ltS.data.toList.contains c = isLt c) (by decide +kernel) c
theorem ldS_is (c : UInt8) : ldS.data.toList.contains c = isLD c := u8_all (P := fun c => ldS.data.toList.contains c = isLD c) (by decide +kernel) c
theorem trim_is {S : ByteArray} {p : UInt8 → Bool} (h : ∀ c, S.data.toList.contains c = p c) (l : List UInt8) : Lib.trimLeftS l S.data.toList = l.dropWhile p := by
 unfold Lib.trimLeftS
 congr 1
 funext c
 exact h c
end Go.Proofs.YthfefbmkgebmkaaGreatDoor
namespace Go.Proofs.YthfefbmkgebmkaaGreatDoor
open Go.RowKit
set_option maxRecDepth 100000
set_option maxHeartbeats 4000000

/-- A list of bytes, as a text. -/
def tx (l : List UInt8) : ByteArray := ⟨l.toArray⟩
theorem tx_list (l : List UInt8) : (tx l).data.toList = l := rfl
theorem tx_size (l : List UInt8) : (tx l).size = l.length := by simp [tx, ByteArray.size]
theorem tx_self (s : ByteArray) : tx s.data.toList = s := rfl
theorem trimL_any (S : ByteArray) (p : UInt8 → Bool) (hS : ∀ c, S.data.toList.contains c = p c) (hz : S.size < 4294967281) (hasc : ∀ (j : Nat) b, S.data.toList[j]? = some b → b.toNat < 128) (s : ByteArray) (w : World) :
  Calls Tryz.prog 65 #[.string s, .string S] w fun e w' => e = .returned (.string (tx (s.data.toList.dropWhile p))) ∧ Below w.heap.size w w' :=
 (Any.strings_TrimLeft_laid Tryz.lays161 (by kernel_rfl) s S w hz hasc).mono fun e w' ⟨he, hb⟩ => ⟨by rw [he, trim_is hS]; rfl, hb⟩
theorem span_any (S : ByteArray) (p : UInt8 → Bool) (hS : ∀ c, S.data.toList.contains c = p c) (hz : S.size < 4294967281) (hasc : ∀ (j : Nat) b, S.data.toList[j]? = some b → b.toNat < 128) (s : ByteArray) (w : World) (hs : s.size ≤ 1000000) :
  Calls Tryz.prog 37 #[.string s, .string S] w fun e w' => e = .returned (.int .i64 (s.data.toList.takeWhile p).length) ∧ Below w.heap.size w w' := by
 have HT := Lib.hid (trimL_any S p hS hz hasc s w)
 have hl := tw_le p s.data.toList
 rw [ba_len] at hl
 have hd : (tx (s.data.toList.dropWhile p)).size = (s.data.toList.dropWhile p).length := tx_size _
 have h1 : ((s.data.toList.dropWhile p).length : Int) ≤ s.size := by omega
 have HE := Lib.hid (show (s.size : Int) - ((s.data.toList.dropWhile p).length : Int) = (s.data.toList.takeWhile p).length by omega)
 clear hl
 generalize tx (s.data.toList.dropWhile p) = t at *
 generalize (s.data.toList.dropWhile p).length = n at *
 generalize (s.data.toList.takeWhile p).length = m at *
 go_enter Tryz.func37, Tryz.ntmps37
 go_wp2_with fail
 refine HT.out.mono ?_
 rintro e x ⟨rfl, hb⟩
 have HB := Lib.hid hb; clear hb
 go_wp2_with fail
 go_ret
 exact ⟨by rw [← HE.out]; rfl, HB.out⟩
theorem blS_small : blS.size < 4294967281 := by show 4 < 4294967281; omega
theorem dgS_small : dgS.size < 4294967281 := by show 10 < 4294967281; omega
theorem ltS_small : ltS.size < 4294967281 := by show 53 < 4294967281; omega
theorem ldS_small : ldS.size < 4294967281 := by show 63 < 4294967281; omega
theorem span_bl (s : ByteArray) (w : World) (hs : s.size ≤ 1000000) : Calls Tryz.prog 37 #[.string s, .string blS] w fun e w' => e = .returned (.int .i64 (s.data.toList.takeWhile isBl).length) ∧ Below w.heap.size w w' := span_any blS isBl blS_is blS_small (ascii_of_all (by decide)) s w hs
theorem span_dg (s : ByteArray) (w : World) (hs : s.size ≤ 1000000) : Calls Tryz.prog 37 #[.string s, .string dgS] w fun e w' => e = .returned (.int .i64 (s.data.toList.takeWhile isDg).length) ∧ Below w.heap.size w w' := span_any dgS isDg dgS_is dgS_small (ascii_of_all (by decide)) s w hs
theorem span_lt (s : ByteArray) (w : World) (hs : s.size ≤ 1000000) : Calls Tryz.prog 37 #[.string s, .string ltS] w fun e w' => e = .returned (.int .i64 (s.data.toList.takeWhile isLt).length) ∧ Below w.heap.size w w' := span_any ltS isLt ltS_is ltS_small (ascii_of_all (by decide)) s w hs
theorem span_ld (s : ByteArray) (w : World) (hs : s.size ≤ 1000000) : Calls Tryz.prog 37 #[.string s, .string ldS] w fun e w' => e = .returned (.int .i64 (s.data.toList.takeWhile isLD).length) ∧ Below w.heap.size w w' := span_any ldS isLD ldS_is ldS_small (ascii_of_all (by decide)) s w hs
/-- A text from a place on. -/
theorem ext_from (s : ByteArray) (k : Nat) : s.extract k s.size = tx (s.data.toList.drop k) := by
 apply ByteArray.ext
 rw [ByteArray.data_extract]
 unfold tx
 apply Array.toList_inj.1
 have : s.data.size = s.size := rfl
 simp [List.take_of_length_le, this]
theorem from_run {P : Program} (t : TypeId) (ht : P.underlying t = some .string) (s : ByteArray) (k : Nat) (a : Int) (ha : a = k) (h : k ≤ s.size) (wx : World) :
  (Instr.slice t (.string s) (some (.int .i64 a)) none none).run P wx = .ok (.string (tx (s.data.toList.drop k))) wx := by
 subst ha
 have := run_slice_string_from_if (P := P) wx t s .i64 k ht
 rw [this, if_pos (by omega)]
 rw [Int.toNat_natCast, ext_from s k]
end Go.Proofs.YthfefbmkgebmkaaGreatDoor
namespace Go.Proofs.YthfefbmkgebmkaaGreatDoor
open Go.RowKit Go.ChangeShapes Go.WideShapes Go.ChangeAt
set_option maxRecDepth 100000

section
variable {H : Type}
theorem str_size {P : Program} {ts : List TypeId} {ds : List (DataW H)} (h : (DataW.weightsEach P ts ds).all (· ≤ reachBytes) = true) {j : Nat} {t : TypeId} {s : ByteArray}
  (ht : ts[j]? = some t) (hd : ds[j]? = some (.lit (.string s.data.toList))) : s.size ≤ 140737488355328 := by
 have h2 : s.data.toList.length ∈ (DataW.lit (.string s.data.toList) : DataW H).weights P t := by simp only [DataW.weights, List.mem_cons, true_or]
 have h3 : s.data.toList.length ≤ reachBytes := by simpa using List.all_eq_true.1 h _ (DataW.weights_mem_each ht hd _ h2)
 rw [ba_len] at h3
 simp only [reachBytes] at h3
 omega
end
end Go.Proofs.YthfefbmkgebmkaaGreatDoor
namespace Go.Proofs.YthfefbmkgebmkaaGreatDoor

theorem qd_fuel : ∀ (f g : Nat) (l : List UInt8), l.length ≤ f → l.length ≤ g → qd f l = qd g l
 | f, g, [], _, _ => by cases f <;> cases g <;> rfl
 | 0, _, _ :: _, h, _ => by simp at h
 | _, 0, _ :: _, _, h => by simp at h
 | f + 1, g + 1, c :: t, hf, hg => by
  unfold qd
  split
  ·rfl
  ·cases hr : rd 1 (c :: t) with
   | none => rfl
   | some q =>
    obtain ⟨b, n⟩ := q
    have hl := rd_len hr
    simp only []
    simp only [List.length_cons] at hf hg hl
    rw [qd_fuel f g ((c :: t).drop n) (by rw [List.length_drop, List.length_cons]; omega) (by rw [List.length_drop, List.length_cons]; omega)]
theorem cd_fuel : ∀ (f g : Nat) (l : List UInt8), l.length ≤ f → l.length ≤ g → cd f l = cd g l
 | f, g, [], _, _ => by cases f <;> cases g <;> rfl
 | 0, _, _ :: _, h, _ => by simp at h
 | _, 0, _ :: _, _, h => by simp at h
 | f + 1, g + 1, c :: t, hf, hg => by
  unfold cd
  split
  ·rfl
  ·cases hr : rd 2 (c :: t) with
   | none => rfl
   | some q =>
    obtain ⟨b, n⟩ := q
    have hl := rd_len hr
    simp only []
    simp only [List.length_cons] at hf hg hl
    cases hd : (c :: t).drop n with
    | nil => rfl
    | cons d u =>
     have hdl : (d :: u).length = (c :: t).length - n := by rw [← hd, List.length_drop]
     simp only [List.length_cons] at hdl
     simp only []
     split
     ·cases hr2 : rd 2 u with
      | none => rfl
      | some q2 =>
       obtain ⟨b2, m⟩ := q2
       simp only []
       rw [cd_fuel f g (u.drop m) (by rw [List.length_drop]; omega) (by rw [List.length_drop]; omega)]
     ·rw [cd_fuel f g (d :: u) (by rw [List.length_cons]; omega) (by rw [List.length_cons]; omega)]
/-- A text behind its quote; a class behind its bracket. -/
def qdS (l : List UInt8) : Option (List UInt8 × Nat) := qd l.length l
def cdS (l : List UInt8) : Option (List (UInt8 × UInt8) × Nat) := cd l.length l
theorem qd_nil : qdS [] = none := rfl
theorem qd_close (t : List UInt8) : qdS (34 :: t) = some ([], 1) := rfl
theorem qd_bad {c : UInt8} {t : List UInt8} (hc : c ≠ 34) (h : rd 1 (c :: t) = none) : qdS (c :: t) = none := by
 unfold qdS; rw [List.length_cons]; unfold qd
 rw [if_neg (by simpa using hc), h]
theorem qd_step {c b : UInt8} {n : Nat} {t : List UInt8} (hc : c ≠ 34) (h : rd 1 (c :: t) = some (b, n)) : qdS (c :: t) = (qdS ((c :: t).drop n)).map fun q => (b :: q.1, n + q.2) := by
 have hl := rd_len h
 unfold qdS; rw [List.length_cons]; conv => lhs; unfold qd
 rw [if_neg (by simpa using hc), h]
 simp only []
 rw [qd_fuel t.length _ ((c :: t).drop n) (by rw [List.length_drop, List.length_cons]; omega) (Nat.le_refl _)]
theorem cd_nil : cdS [] = none := rfl
theorem cd_close (t : List UInt8) : cdS (93 :: t) = some ([], 1) := rfl
theorem cd_bad {c : UInt8} {t : List UInt8} (hc : c ≠ 93) (h : rd 2 (c :: t) = none) : cdS (c :: t) = none := by
 unfold cdS; rw [List.length_cons]; unfold cd
 rw [if_neg (by simpa using hc), h]
theorem cd_end {c b : UInt8} {n : Nat} {t : List UInt8} (hc : c ≠ 93) (h : rd 2 (c :: t) = some (b, n)) (hd : (c :: t).drop n = []) : cdS (c :: t) = none := by
 unfold cdS; rw [List.length_cons]; unfold cd
 rw [if_neg (by simpa using hc), h]
 simp only []
 rw [hd]
theorem cd_one {c b d : UInt8} {n : Nat} {t u : List UInt8} (hc : c ≠ 93) (h : rd 2 (c :: t) = some (b, n)) (hd : (c :: t).drop n = d :: u) (h5 : d ≠ 45) : cdS (c :: t) = (cdS (d :: u)).map fun q => ((b, b) :: q.1, n + q.2) := by
 have hl := rd_len h
 have hdl : (d :: u).length = (c :: t).length - n := by rw [← hd, List.length_drop]
 unfold cdS; conv => lhs; rw [List.length_cons]; unfold cd
 rw [if_neg (by simpa using hc), h]
 simp only []
 rw [hd]
 simp only []
 rw [if_neg (by simpa using h5), cd_fuel t.length _ (d :: u) (by rw [hdl, List.length_cons]; omega) (Nat.le_refl _)]
theorem cd_bad2 {c b : UInt8} {n : Nat} {t u : List UInt8} (hc : c ≠ 93) (h : rd 2 (c :: t) = some (b, n)) (hd : (c :: t).drop n = 45 :: u) (h2 : rd 2 u = none) : cdS (c :: t) = none := by
 unfold cdS; rw [List.length_cons]; unfold cd
 rw [if_neg (by simpa using hc), h]
 simp only []
 rw [hd]
 simp only []
 rw [if_pos (by decide), h2]
theorem cd_two {c b b2 : UInt8} {n m : Nat} {t u : List UInt8} (hc : c ≠ 93) (h : rd 2 (c :: t) = some (b, n)) (hd : (c :: t).drop n = 45 :: u) (h2 : rd 2 u = some (b2, m)) : cdS (c :: t) = (cdS (u.drop m)).map fun q => ((b, b2) :: q.1, n + 1 + m + q.2) := by
 have hl := rd_len h
 have hdl : (45 :: u).length = (c :: t).length - n := by rw [← hd, List.length_drop]
 simp only [List.length_cons] at hdl
 unfold cdS; conv => lhs; rw [List.length_cons]; unfold cd
 rw [if_neg (by simpa using hc), h]
 simp only []
 rw [hd]
 simp only []
 rw [if_pos (by decide), h2]
 simp only []
 rw [cd_fuel t.length _ (u.drop m) (by rw [List.length_drop]; omega) (Nat.le_refl _)]
/-- A text; a class. -/
def txR (l : List UInt8) : Option Wr := match l with | c :: t => if c == 34 then (qdS t).map fun q => ⟨3, 1 + q.2, q.1, 0, []⟩ else none | [] => none
def stR (l : List UInt8) : Option Wr := match l with | c :: t => if c == 91 then (cdS t).map fun q => ⟨4, 1 + q.2, [], 0, q.1⟩ else none | [] => none
end Go.Proofs.YthfefbmkgebmkaaGreatDoor
namespace Go.Proofs.YthfefbmkgebmkaaGreatDoor

/-- The place where there is no word, as it is yielded. -/
def badW (e : Nat) : Wd := ⟨0, e, 0, [], 0, []⟩
/-- What is yielded from a place on. -/
def yieldsF (l : List UInt8) : Nat → Nat → List (Wd × Bool)
 | 0, _ => []
 | f + 1, k => match nextW l k with
  | none => [(badW (k + skp false (l.drop k)), false)]
  | some w => if w.kind = 1 then [(w, true)] else (w, true) :: yieldsF l f w.nx
theorem yields_words (l : List UInt8) : ∀ (f k : Nat), yieldsF l f k = (wordsF l f k).1.map (·, true) ++ (match (wordsF l f k).2 with | some e => [(badW e, false)] | none => [])
 | 0, _ => rfl
 | f + 1, k => by
  unfold yieldsF wordsF
  cases nextW l k with
  | none => rfl
  | some w =>
   simp only []
   split
   ·rfl
   ·rw [yields_words l f w.nx]; rfl
/-- The step: what is yielded from a place on, and what then. -/
theorem yields_none {l : List UInt8} {f k : Nat} (hf : l.length < f + k) (hk : k ≤ l.length) (h : nextW l k = none) : yieldsF l f k = [(badW (k + skp false (l.drop k)), false)] := by
 cases f with
 | zero => omega
 | succ f => unfold yieldsF; rw [h]
theorem yields_end {l : List UInt8} {f k : Nat} {w : Wd} (hf : l.length < f + k) (hk : k ≤ l.length) (h : nextW l k = some w) (hc : w.kind = 1) : yieldsF l f k = [(w, true)] := by
 cases f with
 | zero => omega
 | succ f => unfold yieldsF; rw [h]; simp only []; rw [if_pos hc]
theorem yields_more {l : List UInt8} {f k : Nat} {w : Wd} (hf : l.length < f + k) (hk : k ≤ l.length) (h : nextW l k = some w) (hc : w.kind ≠ 1) :
  ∃ g, yieldsF l f k = (w, true) :: yieldsF l g w.nx ∧ k < w.nx ∧ w.nx ≤ l.length ∧ l.length < g + w.nx := by
 obtain ⟨h1, h2, h3, h4, h5, h6, h7, h8⟩ := nextW_some h hk
 have h9 : w.at_ ≠ w.nx := fun e => hc (h7.1 e.symm)
 cases f with
 | zero => omega
 | succ f =>
  refine ⟨f, ?_, by omega, h4, by omega⟩
  conv => lhs; unfold yieldsF
  rw [h]; simp only []; rw [if_neg hc]
/-- All that a text yields. -/
def yieldsOf (l : List UInt8) : List (Wd × Bool) := yieldsF l (l.length + 1) 0
end Go.Proofs.YthfefbmkgebmkaaGreatDoor
namespace Go.Proofs.YthfefbmkgebmkaaGreatDoor

/-- A node as it is read. -/
inductive Pt where
  | mk (kind : Nat) (cl : List (UInt8 × UInt8)) (tx : List UInt8) (lv : Int) (at_ : Nat) (nm : List UInt8) (kids : List Pt)
def Pt.at_ : Pt → Nat | .mk _ _ _ _ a _ _ => a
/-- What comes of reading: something, and which word comes next; or why not, and where. -/
inductive Rs (α : Type) where
  | ok (x : α) (j : Nat)
  | err (e : Nat) (at_ : Nat)
/-- The word at a place (an end behind all). -/
def wdAt (L : List Wd) (i : Nat) : Wd := L.getD i ⟨1, 0, 0, [], 0, []⟩
/-- Is it that sign? -/
def hereW (L : List Wd) (i : Nat) (s : List UInt8) : Bool := (wdAt L i).kind == 5 && (wdAt L i).tx == s
/-- Does a row of parts go on? -/
def goesW (L : List Wd) (i : Nat) : Bool := (wdAt L i).kind != 1 && !(hereW L i [47] || hereW L i [41] || hereW L i [59] || hereW L i [60, 45] || hereW L i [42] || hereW L i [43] || hereW L i [63])
/-- Parts as one. -/
def grp (k : Nat) : List Pt → Pt
  | [p] => p
  | l => .mk k [] [] 0 ((l.head?.map Pt.at_).getD 0) [] l
def ovr (k at_ : Nat) (p : Pt) : Pt := .mk k [] [] 0 at_ [] [p]
/-- The signs behind a part. -/
def sufF (L : List Wd) : Nat → Pt → Nat → Pt × Nat
  | 0, p, i => (p, i)
  | f + 1, p, i =>
    if hereW L i [42] then sufF L f (ovr 8 (wdAt L i).at_ p) (i + 1)
    else if hereW L i [43] then sufF L f (ovr 9 (wdAt L i).at_ p) (i + 1)
    else if hereW L i [63] then sufF L f (ovr 10 (wdAt L i).at_ p) (i + 1)
    else (p, i)
inductive Md where | alt | altM | seq | seqM | item | prim
/-- The parser: none, if the fuel runs out. -/
def prs (L : List Wd) : Nat → Md → List Pt → Nat → Nat → Option (Rs Pt)
  | 0, _, _, _, _ => none
  | f + 1, .alt, _, i, d => match prs L f .seq [] i d with
    | some (.ok p j) => prs L f .altM [p] j d
    | r => r
  | f + 1, .altM, acc, i, d => if hereW L i [47] then (match prs L f .seq [] (i + 1) d with
      | some (.ok p j) => prs L f .altM (acc ++ [p]) j d
      | r => r)
    else some (.ok (grp 7 acc) i)
  | f + 1, .seq, _, i, d => match prs L f .item [] i d with
    | some (.ok p j) => prs L f .seqM [p] j d
    | r => r
  | f + 1, .seqM, acc, i, d => if goesW L i then (match prs L f .item [] i d with
      | some (.ok p j) => prs L f .seqM (acc ++ [p]) j d
      | r => r)
    else some (.ok (grp 6 acc) i)
  | f + 1, .item, _, i, d =>
    if hereW L i [33] then (match prs L f .item [] (i + 1) d with
      | some (.ok p j) => some (.ok (ovr 11 (wdAt L i).at_ p) j)
      | r => r)
    else if hereW L i [38] then (match prs L f .item [] (i + 1) d with
      | some (.ok p j) => some (.ok (ovr 12 (wdAt L i).at_ p) j)
      | r => r)
    else (match prs L f .prim [] i d with
      | some (.ok p j) => some (.ok (sufF L L.length p j).1 (sufF L L.length p j).2)
      | r => r)
  | f + 1, .prim, _, i, d =>
    let w := wdAt L i
    if w.kind = 2 then some (.ok (.mk 5 [] [] (max w.lv 0) w.at_ w.tx []) (i + 1))
    else if w.kind = 3 then some (.ok (.mk 4 [] w.tx 0 w.at_ [] []) (i + 1))
    else if w.kind = 4 then some (.ok (.mk 3 w.cl [] 0 w.at_ [] []) (i + 1))
    else if hereW L i [46] then some (.ok (.mk 2 [] [] 0 w.at_ [] []) (i + 1))
    else if hereW L i [40] then
      (if 500 ≤ d then some (.err 3 w.at_)
       else if hereW L (i + 1) [41] then some (.ok (.mk 1 [] [] 0 w.at_ [] []) (i + 2))
       else match prs L f .alt [] (i + 1) (d + 1) with
         | some (.ok p j) => if hereW L j [41] then some (.ok p (j + 1)) else some (.err 7 (wdAt L j).at_)
         | r => r)
    else some (.err 7 w.at_)
/-- A rule. -/
def rulP (L : List Wd) (f : Nat) (i : Nat) : Option (Rs (Wd × Pt)) :=
  let w := wdAt L i
  if w.kind ≠ 2 ∨ 0 ≤ w.lv then some (.err 7 w.at_)
  else if hereW L (i + 1) [60, 45] then (match prs L f .alt [] (i + 2) 0 with
    | some (.ok p j) => if hereW L j [59] then some (.ok (w, p) (j + 1)) else some (.err 7 (wdAt L j).at_)
    | some (.err e a) => some (.err e a)
    | none => none)
  else some (.err 7 (wdAt L (i + 1)).at_)
/-- All rules, from a word on. -/
def rulsP (L : List Wd) (f : Nat) : Nat → List (Wd × Pt) → Nat → Option (Rs (List (Wd × Pt)))
  | 0, _, _ => none
  | g + 1, acc, i => match rulP L f i with
    | some (.ok x j) => if (wdAt L j).kind = 1 then some (.ok (acc ++ [x]) j) else rulsP L f g (acc ++ [x]) j
    | some (.err e a) => some (.err e a)
    | none => none
/-- What holds of words: an end at the end alone; signs are signs. -/
structure WsOk (L : List Wd) : Prop where
  pos : 0 < L.length
  en : ∀ i, i < L.length → ((wdAt L i).kind = 1 ↔ i + 1 = L.length)
  kd : ∀ i, i < L.length → 1 ≤ (wdAt L i).kind ∧ (wdAt L i).kind ≤ 5
  sg : ∀ i, i < L.length → (wdAt L i).kind = 5 → (wdAt L i).tx = [60, 45] ∨ ∃ c ∈ sgs, (wdAt L i).tx = [c]
theorem WsOk.next {L : List Wd} (h : WsOk L) {i : Nat} (hi : i < L.length) (hk : (wdAt L i).kind ≠ 1) : i + 1 < L.length := by
  rcases Nat.lt_or_ge (i + 1) L.length with h1 | h1
  · exact h1
  · exact absurd ((h.en i hi).2 (by omega)) hk
theorem here_kind {L : List Wd} {i : Nat} {s : List UInt8} (h : hereW L i s = true) : (wdAt L i).kind = 5 ∧ (wdAt L i).tx = s := by
  unfold hereW at h
  simp only [Bool.and_eq_true, beq_iff_eq] at h
  exact h
theorem WsOk.after {L : List Wd} (h : WsOk L) {i : Nat} (hi : i < L.length) {s : List UInt8} (hh : hereW L i s = true) : i + 1 < L.length :=
  h.next hi (by rw [(here_kind hh).1]; decide)
/-- Signs are taken one by one. -/
theorem sufF_le {L : List Wd} (h : WsOk L) : ∀ (f : Nat) (p : Pt) (i : Nat), i < L.length → i ≤ (sufF L f p i).2 ∧ (sufF L f p i).2 < L.length
  | 0, p, i, hi => ⟨Nat.le_refl _, hi⟩
  | f + 1, p, i, hi => by
    unfold sufF
    split
    · rename_i hh; have := sufF_le h f (ovr 8 (wdAt L i).at_ p) (i + 1) (h.after hi hh); omega
    · split
      · rename_i hh; have := sufF_le h f (ovr 9 (wdAt L i).at_ p) (i + 1) (h.after hi hh); omega
      · split
        · rename_i hh; have := sufF_le h f (ovr 10 (wdAt L i).at_ p) (i + 1) (h.after hi hh); omega
        · exact ⟨Nat.le_refl _, hi⟩
/-- How far it goes: something is taken, and the end is not passed. -/
theorem prs_bd {L : List Wd} (h : WsOk L) : ∀ (f : Nat) (m : Md) (acc : List Pt) (i d : Nat) (p : Pt) (j : Nat), i < L.length → prs L f m acc i d = some (.ok p j) →
    j < L.length ∧ i ≤ j ∧ (match m with | .altM => True | .seqM => True | _ => i < j)
  | 0, m, acc, i, d, p, j, hi, e => by simp [prs] at e
  | f + 1, .alt, acc, i, d, p, j, hi, e => by
    simp only [prs] at e
    cases hq : prs L f .seq [] i d with
    | none => rw [hq] at e; cases e
    | some r =>
      rw [hq] at e
      cases r with
      | err a b => cases e
      | ok q k =>
        simp only [] at e
        obtain ⟨h1, h2, h3⟩ := prs_bd h f .seq [] i d q k hi hq
        obtain ⟨h4, h5, _⟩ := prs_bd h f .altM [q] k d p j h1 e
        simp only [] at h3
        exact ⟨h4, by omega, by show i < j; omega⟩
  | f + 1, .altM, acc, i, d, p, j, hi, e => by
    simp only [prs] at e
    by_cases hh : hereW L i [47] = true
    · rw [if_pos hh] at e
      cases hq : prs L f .seq [] (i + 1) d with
      | none => rw [hq] at e; cases e
      | some r =>
        rw [hq] at e
        cases r with
        | err a b => cases e
        | ok q k =>
          simp only [] at e
          obtain ⟨h1, h2, h3⟩ := prs_bd h f .seq [] (i + 1) d q k (h.after hi hh) hq
          obtain ⟨h4, h5, _⟩ := prs_bd h f .altM (acc ++ [q]) k d p j h1 e
          exact ⟨h4, by omega, trivial⟩
    · rw [if_neg hh] at e
      simp only [Option.some.injEq, Rs.ok.injEq] at e
      exact ⟨by omega, by omega, trivial⟩
  | f + 1, .seq, acc, i, d, p, j, hi, e => by
    simp only [prs] at e
    cases hq : prs L f .item [] i d with
    | none => rw [hq] at e; cases e
    | some r =>
      rw [hq] at e
      cases r with
      | err a b => cases e
      | ok q k =>
        simp only [] at e
        obtain ⟨h1, h2, h3⟩ := prs_bd h f .item [] i d q k hi hq
        obtain ⟨h4, h5, _⟩ := prs_bd h f .seqM [q] k d p j h1 e
        simp only [] at h3
        exact ⟨h4, by omega, by show i < j; omega⟩
  | f + 1, .seqM, acc, i, d, p, j, hi, e => by
    simp only [prs] at e
    by_cases hh : goesW L i = true
    · rw [if_pos hh] at e
      cases hq : prs L f .item [] i d with
      | none => rw [hq] at e; cases e
      | some r =>
        rw [hq] at e
        cases r with
        | err a b => cases e
        | ok q k =>
          simp only [] at e
          obtain ⟨h1, h2, h3⟩ := prs_bd h f .item [] i d q k hi hq
          obtain ⟨h4, h5, _⟩ := prs_bd h f .seqM (acc ++ [q]) k d p j h1 e
          exact ⟨h4, by omega, trivial⟩
    · rw [if_neg hh] at e
      simp only [Option.some.injEq, Rs.ok.injEq] at e
      exact ⟨by omega, by omega, trivial⟩
  | f + 1, .item, acc, i, d, p, j, hi, e => by
    simp only [prs] at e
    by_cases hh : hereW L i [33] = true
    · rw [if_pos hh] at e
      cases hq : prs L f .item [] (i + 1) d with
      | none => rw [hq] at e; cases e
      | some r =>
        rw [hq] at e
        cases r with
        | err a b => cases e
        | ok q k =>
          simp only [Option.some.injEq, Rs.ok.injEq] at e
          obtain ⟨h1, h2, h3⟩ := prs_bd h f .item [] (i + 1) d q k (h.after hi hh) hq
          exact ⟨by omega, by omega, by show i < j; omega⟩
    · rw [if_neg hh] at e
      by_cases hh2 : hereW L i [38] = true
      · rw [if_pos hh2] at e
        cases hq : prs L f .item [] (i + 1) d with
        | none => rw [hq] at e; cases e
        | some r =>
          rw [hq] at e
          cases r with
          | err a b => cases e
          | ok q k =>
            simp only [Option.some.injEq, Rs.ok.injEq] at e
            obtain ⟨h1, h2, h3⟩ := prs_bd h f .item [] (i + 1) d q k (h.after hi hh2) hq
            exact ⟨by omega, by omega, by show i < j; omega⟩
      · rw [if_neg hh2] at e
        cases hq : prs L f .prim [] i d with
        | none => rw [hq] at e; cases e
        | some r =>
          rw [hq] at e
          cases r with
          | err a b => cases e
          | ok q k =>
            simp only [Option.some.injEq, Rs.ok.injEq] at e
            obtain ⟨h1, h2, h3⟩ := prs_bd h f .prim [] i d q k hi hq
            have := sufF_le h L.length q k h1
            simp only [] at h3
            exact ⟨by omega, by omega, by show i < j; omega⟩
  | f + 1, .prim, acc, i, d, p, j, hi, e => by
    simp only [prs] at e
    have one : (wdAt L i).kind ≠ 1 → i + 1 = j → j < L.length ∧ i ≤ j ∧ i < j := fun hk ej => ⟨by have := h.next hi hk; omega, by omega, by omega⟩
    split at e
    · rename_i hk; simp only [Option.some.injEq, Rs.ok.injEq] at e; exact one (by omega) e.2
    split at e
    · rename_i hk; simp only [Option.some.injEq, Rs.ok.injEq] at e; exact one (by omega) e.2
    split at e
    · rename_i hk; simp only [Option.some.injEq, Rs.ok.injEq] at e; exact one (by omega) e.2
    split at e
    · rename_i hh; simp only [Option.some.injEq, Rs.ok.injEq] at e; exact one (by rw [(here_kind hh).1]; decide) e.2
    split at e
    · rename_i hh
      split at e
      · cases e
      · split at e
        · rename_i hh2
          simp only [Option.some.injEq, Rs.ok.injEq] at e
          have h1 := h.after hi hh
          have h2 := h.after h1 hh2
          exact ⟨by omega, by omega, by show i < j; omega⟩
        · cases hq : prs L f .alt [] (i + 1) (d + 1) with
          | none => rw [hq] at e; cases e
          | some r =>
            rw [hq] at e
            cases r with
            | err a b => cases e
            | ok q k =>
              simp only [] at e
              obtain ⟨h1, h2, h3⟩ := prs_bd h f .alt [] (i + 1) (d + 1) q k (h.after hi hh) hq
              split at e
              · rename_i hh2
                simp only [Option.some.injEq, Rs.ok.injEq] at e
                have := h.after h1 hh2
                exact ⟨by omega, by omega, by show i < j; omega⟩
              · cases e
    · cases e
end Go.Proofs.YthfefbmkgebmkaaGreatDoor
namespace Go.Proofs.YthfefbmkgebmkaaGreatDoor

/-- How much fuel is enough. -/
def need : Md → Nat → Nat
 | .prim, k => 6 * k + 1
 | .item, k => 6 * k + 2
 | .seq, k => 6 * k + 3
 | .seqM, k => 6 * k + 3
 | .alt, k => 6 * k + 4
 | .altM, k => 6 * k + 4
theorem prs_tot {L : List Wd} (h : WsOk L) : ∀ (f : Nat) (m : Md) (acc : List Pt) (i d : Nat), i < L.length → need m (L.length - i) ≤ f → prs L f m acc i d ≠ none
 | 0, m, acc, i, d, hi, hn => by cases m <;> (simp only [need] at hn; omega)
 | f + 1, .alt, acc, i, d, hi, hn => by
  simp only [need] at hn
  simp only [prs]
  have h1 := prs_tot h f .seq [] i d hi (by simp only [need]; omega)
  cases hq : prs L f .seq [] i d with
  | none => exact absurd hq h1
  | some r =>
   cases r with
   | err a b => simp
   | ok q k =>
    obtain ⟨h2, h3, h4⟩ := prs_bd h f .seq [] i d q k hi hq
    simp only [] at h4 ⊢
    exact prs_tot h f .altM [q] k d h2 (by simp only [need]; omega)
 | f + 1, .altM, acc, i, d, hi, hn => by
  simp only [need] at hn
  simp only [prs]
  by_cases hh : hereW L i [47] = true
  ·rw [if_pos hh]
   have hi1 := h.after hi hh
   have h1 := prs_tot h f .seq [] (i + 1) d hi1 (by simp only [need]; omega)
   cases hq : prs L f .seq [] (i + 1) d with
   | none => exact absurd hq h1
   | some r =>
    cases r with
    | err a b => simp
    | ok q k =>
     obtain ⟨h2, h3, h4⟩ := prs_bd h f .seq [] (i + 1) d q k hi1 hq
     simp only [] at h4 ⊢
     exact prs_tot h f .altM (acc ++ [q]) k d h2 (by simp only [need]; omega)
  ·rw [if_neg hh]; simp
 | f + 1, .seq, acc, i, d, hi, hn => by
  simp only [need] at hn
  simp only [prs]
  have h1 := prs_tot h f .item [] i d hi (by simp only [need]; omega)
  cases hq : prs L f .item [] i d with
  | none => exact absurd hq h1
  | some r =>
   cases r with
   | err a b => simp
   | ok q k =>
    obtain ⟨h2, h3, h4⟩ := prs_bd h f .item [] i d q k hi hq
    simp only [] at h4 ⊢
    exact prs_tot h f .seqM [q] k d h2 (by simp only [need]; omega)
 | f + 1, .seqM, acc, i, d, hi, hn => by
  simp only [need] at hn
  simp only [prs]
  by_cases hh : goesW L i = true
  ·rw [if_pos hh]
   have h1 := prs_tot h f .item [] i d hi (by simp only [need]; omega)
   cases hq : prs L f .item [] i d with
   | none => exact absurd hq h1
   | some r =>
    cases r with
    | err a b => simp
    | ok q k =>
     obtain ⟨h2, h3, h4⟩ := prs_bd h f .item [] i d q k hi hq
     simp only [] at h4 ⊢
     exact prs_tot h f .seqM (acc ++ [q]) k d h2 (by simp only [need]; omega)
  ·rw [if_neg hh]; simp
 | f + 1, .item, acc, i, d, hi, hn => by
  simp only [need] at hn
  simp only [prs]
  by_cases hh : hereW L i [33] = true
  ·rw [if_pos hh]
   have h1 := prs_tot h f .item [] (i + 1) d (h.after hi hh) (by simp only [need]; omega)
   cases hq : prs L f .item [] (i + 1) d with
   | none => exact absurd hq h1
   | some r => cases r <;> simp
  ·rw [if_neg hh]
   by_cases hh2 : hereW L i [38] = true
   ·rw [if_pos hh2]
    have h1 := prs_tot h f .item [] (i + 1) d (h.after hi hh2) (by simp only [need]; omega)
    cases hq : prs L f .item [] (i + 1) d with
    | none => exact absurd hq h1
    | some r => cases r <;> simp
   ·rw [if_neg hh2]
    have h1 := prs_tot h f .prim [] i d hi (by simp only [need]; omega)
    cases hq : prs L f .prim [] i d with
    | none => exact absurd hq h1
    | some r => cases r <;> simp
 | f + 1, .prim, acc, i, d, hi, hn => by
  simp only [need] at hn
  simp only [prs]
  split
  ·simp
  split
  ·simp
  split
  ·simp
  split
  ·simp
  split
  ·rename_i hh
   split
   ·simp
   ·split
    ·simp
    ·have h1 := prs_tot h f .alt [] (i + 1) (d + 1) (h.after hi hh) (by simp only [need]; omega)
     cases hq : prs L f .alt [] (i + 1) (d + 1) with
     | none => exact absurd hq h1
     | some r =>
      cases r with
      | err a b => simp
      | ok q k => simp only []; split <;> simp
  ·simp
/-- A rule is read, or not; how far it goes. -/
theorem rulP_tot {L : List Wd} (h : WsOk L) (f i : Nat) (hi : i < L.length) (hf : 6 * L.length + 4 ≤ f) : (∃ w p j, rulP L f i = some (.ok (w, p) j) ∧ i < j ∧ j < L.length) ∨ ∃ e a, rulP L f i = some (.err e a) := by
 unfold rulP
 simp only []
 by_cases hk : (wdAt L i).kind ≠ 2 ∨ 0 ≤ (wdAt L i).lv
 ·rw [if_pos hk]; exact .inr ⟨_, _, rfl⟩
 ·rw [if_neg hk]
  have hk2 : (wdAt L i).kind = 2 := by
   rcases Nat.decEq (wdAt L i).kind 2 with h1 | h1
   ·exact absurd (.inl h1) hk
   ·exact h1
  have h1 := h.next hi (by omega)
  by_cases hh : hereW L (i + 1) [60, 45] = true
  ·rw [if_pos hh]
   have h2 := h.after h1 hh
   have h3 := prs_tot h f .alt [] (i + 2) 0 h2 (by simp only [need]; omega)
   cases hq : prs L f .alt [] (i + 2) 0 with
   | none => exact absurd hq h3
   | some r =>
    cases r with
    | err a b => exact .inr ⟨_, _, rfl⟩
    | ok p j =>
     obtain ⟨h4, h5, _⟩ := prs_bd h f .alt [] (i + 2) 0 p j h2 hq
     simp only []
     by_cases hs : hereW L j [59] = true
     ·rw [if_pos hs]
      exact .inl ⟨_, _, _, rfl, by omega, h.after h4 hs⟩
     ·rw [if_neg hs]; exact .inr ⟨_, _, rfl⟩
  ·rw [if_neg hh]; exact .inr ⟨_, _, rfl⟩
theorem rulsP_tot {L : List Wd} (h : WsOk L) (f : Nat) (hf : 6 * L.length + 4 ≤ f) : ∀ (g : Nat) (acc : List (Wd × Pt)) (i : Nat), i < L.length → L.length - i < g → rulsP L f g acc i ≠ none
 | 0, acc, i, hi, hg => by omega
 | g + 1, acc, i, hi, hg => by
  unfold rulsP
  rcases rulP_tot h f i hi hf with ⟨w, p, j, e, h1, h2⟩ | ⟨a, b, e⟩
  ·rw [e]
   simp only []
   split
   ·simp
   ·exact rulsP_tot h f hf g _ j h2 (by omega)
  ·rw [e]; simp
/-- Rules of words, or why there are none. -/
def readW (L : List Wd) : Rs (List (Wd × Pt)) := match rulsP L (6 * L.length + 4) (L.length + 1) [] 0 with
 | some r => r
 | none => .err 0 0

/-! ### The nodes in a row -/
structure Rn where
 kind : Nat
 cl : List (UInt8 × UInt8)
 tx : List UInt8
 lv : Int
 kids : List Nat
 at_ : Nat
 nm : List UInt8
 deriving DecidableEq
mutual
def Pt.sz : Pt → Nat
 | .mk _ _ _ _ _ _ ks => 1 + szL ks
def szL : List Pt → Nat
 | [] => 0
 | k :: ks => k.sz + szL ks
end
def kidsAt : Nat → List Pt → List Nat
 | _, [] => []
 | n, k :: ks => n :: kidsAt (n + k.sz) ks
mutual
def flat : Nat → Pt → List Rn
 | n, .mk k cl tx lv a nm ks => ⟨k, cl, tx, lv, kidsAt (n + 1) ks, a, nm⟩ :: flatL (n + 1) ks
def flatL : Nat → List Pt → List Rn
 | _, [] => []
 | n, k :: ks => flat n k ++ flatL (n + k.sz) ks
end
mutual
theorem flat_len : ∀ (n : Nat) (p : Pt), (flat n p).length = p.sz
 | n, .mk k cl tx lv a nm ks => by
  unfold flat Pt.sz
  rw [List.length_cons, flatL_len (n + 1) ks]; omega
theorem flatL_len : ∀ (n : Nat) (ks : List Pt), (flatL n ks).length = szL ks
 | n, [] => by unfold flatL szL; rfl
 | n, k :: ks => by
  unfold flatL szL
  rw [List.length_append, flat_len n k, flatL_len (n + k.sz) ks]
end
theorem sz_pos : ∀ p : Pt, 1 ≤ p.sz
 | .mk .. => by unfold Pt.sz; omega
/-- A rule of a tree that was read: its name, its body, its place. -/
structure Rr where
 nm : List UInt8
 body : Nat
 at_ : Nat
 deriving DecidableEq
/-- The rules and nodes from number n on. -/
def treeF : Nat → List (Wd × Pt) → List Rr × List Rn
 | _, [] => ([], [])
 | n, (w, p) :: r => (⟨w.tx, n, w.at_⟩ :: (treeF (n + p.sz) r).1, flat n p ++ (treeF (n + p.sz) r).2)
/-- What a text is read as: rules and nodes; or why not, and where. -/
def readT (l : List UInt8) : (List Rr × List Rn) × Nat × Nat := match (wordsOf l).2 with
 | some p => (([], []), 7, p)
 | none => match readW (wordsOf l).1 with
  | .ok x _ => (treeF 0 x, 0, 0)
  | .err e a => (([], []), e, a)
end Go.Proofs.YthfefbmkgebmkaaGreatDoor
