/- Walks and plain laws: Ig If. -/
import Derived.Test.YthfefbmkgebmkaaGreatDoorM05
import Derived.Test.YthfefbmkgebmkaaGreatDoorM10
namespace Go.Proofs.YthfefbmkgebmkaaGreatDoor

theorem take_take_le {α : Type} (l : List α) {m n : Nat} (h : m ≤ n) : l.take m = (l.take n).take m := by rw [List.take_take, Nat.min_eq_left h]
theorem rd_take {p : Int} {s : List UInt8} {b : UInt8} {n : Nat} (h : rd p s = some (b, n)) : rd p (s.take n) = some (b, n) := by
 cases s with
 | nil => cases h
 | cons c t =>
  have hl := rd_len h
  obtain ⟨m, rfl⟩ : ∃ m, n = m + 1 := ⟨n - 1, by omega⟩
  rw [List.take_succ_cons]
  unfold rd at h ⊢
  simp only [] at h ⊢
  split at h; · cases h
  rename_i g; rw [if_neg g]
  split at h; · rename_i g; rw [if_pos g]; exact h
  rename_i g; rw [if_neg g]
  split at h
  ·rename_i g; rw [if_pos g]
   cases t with
   | nil => cases h
   | cons d t =>
    have h2 := esc_len h
    obtain ⟨k, rfl⟩ : ∃ k, m = k + 1 := ⟨m - 1, by omega⟩
    rw [List.take_succ_cons]
    unfold esc at h ⊢
    simp only [] at h ⊢
    split at h; · rename_i g; rw [if_pos g]; exact h
    rename_i g; rw [if_neg g]
    split at h; · rename_i g; rw [if_pos g]; exact h
    rename_i g; rw [if_neg g]
    split at h; · rename_i g; rw [if_pos g]; exact h
    rename_i g; rw [if_neg g]
    split at h; · rename_i g; rw [if_pos g]; exact h
    rename_i g; rw [if_neg g]
    split at h
    ·rename_i g; rw [if_pos g]
     cases t with
     | nil => cases h
     | cons a t =>
      cases t with
      | nil => cases h
      | cons e t =>
       simp only [] at h
       split at h
       ·rename_i x y hx hy
        simp only [Option.some.injEq, Prod.mk.injEq] at h
        obtain ⟨rfl, hk⟩ := h
        obtain rfl : k = 2 := by omega
        simp only [List.take_succ_cons, hx, hy]
       ·cases h
    ·cases h
  ·cases h
theorem rd_takeN {p : Int} {s : List UInt8} {b : UInt8} {n m : Nat} (h : rd p s = some (b, n)) (hm : n ≤ m) : rd p (s.take m) = some (b, n) := by
 have h1 := rd_take h
 have h2 : s.take m = s.take n ++ (s.take m).drop n := by
  conv => lhs; rw [← List.take_append_drop n (s.take m)]
  rw [← take_take_le s hm]
 rw [h2]
 exact rd_app _ h1
theorem drop_take' {α : Type} (s : List α) (n m : Nat) : (s.take (m + n)).drop m = (s.drop m).take n := by
 rw [List.drop_take]; congr 1; omega
theorem qd_take : ∀ (f : Nat) (s : List UInt8) {b : List UInt8} {n : Nat}, qd f s = some (b, n) → qd f (s.take n) = some (b, n)
 | _, [], _, _, h => by simp [qd] at h
 | 0, _ :: _, _, _, h => by simp [qd] at h
 | f + 1, c :: t, b, n, h => by
  have hl := qd_len _ _ h
  obtain ⟨m, rfl⟩ : ∃ m, n = m + 1 := ⟨n - 1, by omega⟩
  rw [List.take_succ_cons]
  unfold qd at h ⊢
  split at h
  ·rename_i hc; rw [if_pos hc]; exact h
  ·rename_i hc
   rw [if_neg hc]
   split at h
   ·cases h
   ·rename_i b1 n1 e
    cases hq : qd f ((c :: t).drop n1) with
    | none => rw [hq] at h; cases h
    | some q2 =>
     rw [hq] at h
     obtain ⟨b2, n2⟩ := q2
     simp only [Option.map_some, Option.some.injEq, Prod.mk.injEq] at h
     obtain ⟨rfl, hn⟩ := h
     have e2 := rd_takeN e (m := m + 1) (by omega)
     rw [List.take_succ_cons] at e2
     rw [e2]
     simp only []
     have hd : (c :: t.take m).drop n1 = ((c :: t).drop n1).take n2 := by
      rw [← List.take_succ_cons, ← drop_take', hn]
     rw [hd, qd_take f _ hq]
     simp only [Option.map_some, Option.some.injEq, Prod.mk.injEq, true_and]
     exact hn
theorem cd_take : ∀ (f : Nat) (s : List UInt8) {b : List (UInt8 × UInt8)} {n : Nat}, cd f s = some (b, n) → cd f (s.take n) = some (b, n)
 | _, [], _, _, h => by simp [cd] at h
 | 0, _ :: _, _, _, h => by simp [cd] at h
 | f + 1, c :: t, b, n, h => by
  have hl := cd_len _ _ h
  obtain ⟨m, rfl⟩ : ∃ m, n = m + 1 := ⟨n - 1, by omega⟩
  rw [List.take_succ_cons]
  unfold cd at h ⊢
  split at h
  ·rename_i hc; rw [if_pos hc]; exact h
  ·rename_i hc
   rw [if_neg hc]
   split at h
   ·cases h
   ·rename_i b1 n1 e
    split at h
    ·cases h
    ·rename_i d u hv
     split at h
     ·rename_i h45
      split at h
      ·cases h
      ·rename_i b2 n2 e3
       cases hq : cd f (u.drop n2) with
       | none => rw [hq] at h; cases h
       | some q2 =>
        rw [hq] at h
        obtain ⟨b4, n4⟩ := q2
        simp only [Option.map_some, Option.some.injEq, Prod.mk.injEq] at h
        obtain ⟨rfl, hn⟩ := h
        have e2 := rd_takeN e (m := m + 1) (by omega)
        rw [List.take_succ_cons] at e2
        rw [e2]
        have hd : (c :: t.take m).drop n1 = d :: u.take (n2 + n4) := by
         rw [← List.take_succ_cons, show m + 1 = n1 + (n2 + n4 + 1) by omega, drop_take', hv, List.take_succ_cons]
        simp only []
        rw [hd]
        simp only []
        rw [if_pos h45, rd_takeN e3 (by omega)]
        simp only []
        rw [drop_take', cd_take f _ hq]
        simp only [Option.map_some, Option.some.injEq, Prod.mk.injEq, true_and]
        exact hn
     ·rename_i h45
      cases hq : cd f (d :: u) with
      | none => rw [hq] at h; cases h
      | some q2 =>
       rw [hq] at h
       obtain ⟨b4, n4⟩ := q2
       simp only [Option.map_some, Option.some.injEq, Prod.mk.injEq] at h
       obtain ⟨rfl, hn⟩ := h
       have hl4 := cd_len _ _ hq
       have e2 := rd_takeN e (m := m + 1) (by omega)
       rw [List.take_succ_cons] at e2
       rw [e2]
       obtain ⟨n5, rfl⟩ : ∃ n5, n4 = n5 + 1 := ⟨n4 - 1, by omega⟩
       have hd : (c :: t.take m).drop n1 = d :: u.take n5 := by
        rw [← List.take_succ_cons, show m + 1 = n1 + (n5 + 1) by omega, drop_take', hv, List.take_succ_cons]
       simp only []
       rw [hd]
       simp only []
       rw [if_neg h45]
       have := cd_take f _ hq
       rw [List.take_succ_cons] at this
       rw [this]
       simp only [Option.map_some, Option.some.injEq, Prod.mk.injEq, true_and]
       exact hn
theorem tw_self {p : UInt8 → Bool} : ∀ s : List UInt8, (s.takeWhile p).takeWhile p = s.takeWhile p ∧ (s.takeWhile p).dropWhile p = []
 | [] => ⟨rfl, rfl⟩
 | c :: s => by
  have ih := tw_self (p := p) s
  rw [List.takeWhile_cons]
  split
  ·rename_i h
   rw [List.takeWhile_cons, List.dropWhile_cons, if_pos h, if_pos h]
   exact ⟨by rw [ih.1], ih.2⟩
  ·exact ⟨rfl, rfl⟩
theorem tw_take {p : UInt8 → Bool} : ∀ s : List UInt8, s.take (s.takeWhile p).length = s.takeWhile p
 | [] => rfl
 | c :: s => by
  rw [List.takeWhile_cons]
  split
  ·rw [List.length_cons, List.take_succ_cons, tw_take s]
  ·rfl
theorem nameW_take (s : List UInt8) : nameW (s.take (nameW s).n) = nameW s := by
 have hsp := List.takeWhile_append_dropWhile (p := isLD) (l := s)
 have plain : (nameW s).n = (s.takeWhile isLD).length → nameW s = ⟨2, (s.takeWhile isLD).length, s.takeWhile isLD, -1, []⟩ → nameW (s.take (nameW s).n) = nameW s := fun h1 h2 => by
  rw [h1, tw_take]
  obtain ⟨e1, e2⟩ := tw_self (p := isLD) s
  rw [h2]
  unfold nameW
  rw [e1, e2]
 generalize ha : s.takeWhile isLD = a at *
 cases hd : s.dropWhile isLD with
 | nil =>
  have h2 : nameW s = ⟨2, a.length, a, -1, []⟩ := by unfold nameW; rw [hd, ha]
  exact plain (by rw [h2]) h2
 | cons c u =>
  cases u with
  | nil =>
   have h2 : nameW s = ⟨2, a.length, a, -1, []⟩ := by unfold nameW; rw [hd, ha]
   exact plain (by rw [h2]) h2
  | cons d t =>
   by_cases hc : (c == 58 && isDg d) = true
   ·have h2 : nameW s = ⟨2, a.length + 1 + ((d :: t).takeWhile isDg).length, a, lvl ((d :: t).takeWhile isDg), []⟩ := by
     unfold nameW; rw [hd, ha]; simp only []; rw [if_pos hc]
    rw [h2]
    simp only []
    rw [hd] at hsp
    have hcl : isLD c = false := drop_head hd
    have hdg : isDg d = true := by simp only [Bool.and_eq_true] at hc; exact hc.2
    obtain ⟨g, hg⟩ : ∃ g, (d :: t).takeWhile isDg = d :: g := ⟨_, by rw [List.takeWhile_cons, if_pos hdg]⟩
    have htk : s.take (a.length + 1 + ((d :: t).takeWhile isDg).length) = a ++ c :: d :: g := by
     rw [← hsp, Nat.add_assoc, List.take_append, List.take_of_length_le (by omega), show a.length + (1 + ((d :: t).takeWhile isDg).length) - a.length = ((d :: t).takeWhile isDg).length + 1 by omega, List.take_succ_cons, tw_take, hg]
    rw [htk]
    obtain ⟨e1, e2⟩ := tw_app (p := isLD) hcl (d :: g) a
    obtain ⟨e3, e4⟩ := tw_self (p := isLD) s
    rw [ha] at e3 e4
    unfold nameW
    rw [e1, e2, e3, e4]
    simp only [List.nil_append]
    rw [if_pos hc]
    have e5 := (tw_self (p := isDg) (d :: t)).1
    rw [hg] at e5 ⊢
    rw [e5]
   ·have h2 : nameW s = ⟨2, a.length, a, -1, []⟩ := by unfold nameW; rw [hd, ha]; simp only []; rw [if_neg hc]
    exact plain (by rw [h2]) h2
/-- A word by itself. -/
theorem wordR_take {s : List UInt8} {r : Wr} (h : wordR s = some r) (hk : r.kind ≠ 1) : wordR (s.take r.n) = some r := by
 cases s with
 | nil => simp only [wordR, Option.some.injEq] at h; subst h; exact absurd rfl hk
 | cons c t =>
  have hl := wordR_len h
  obtain ⟨m, hm⟩ : ∃ m, r.n = m + 1 := ⟨r.n - 1, by have : r.n ≠ 0 := fun e => hk (hl.2.2.2.1.1 e); omega⟩
  rw [hm, List.take_succ_cons]
  unfold wordR at h ⊢
  simp only [] at h ⊢
  split at h
  ·rename_i hc
   rw [if_pos hc]
   simp only [Option.some.injEq] at h ⊢
   have := nameW_take (c :: t)
   rw [h, hm, List.take_succ_cons] at this
   exact this
  ·rename_i hc
   rw [if_neg hc]
   split at h
   ·rename_i h34
    rw [if_pos h34]
    cases hq : qd t.length t with
    | none => rw [hq] at h; cases h
    | some q =>
     rw [hq] at h
     simp only [Option.map_some, Option.some.injEq] at h
     subst h
     simp only at hm
     obtain rfl : q.2 = m := by omega
     have h2 := qd_take _ _ hq
     rw [qd_fuel _ (t.take q.2).length _ (by rw [List.length_take]; omega) (Nat.le_refl _)] at h2
     rw [h2]; rfl
   ·rename_i h34
    rw [if_neg h34]
    split at h
    ·rename_i h91
     rw [if_pos h91]
     cases hq : cd t.length t with
     | none => rw [hq] at h; cases h
     | some q =>
      rw [hq] at h
      simp only [Option.map_some, Option.some.injEq] at h
      subst h
      simp only at hm
      obtain rfl : q.2 = m := by omega
      have h2 := cd_take _ _ hq
      rw [cd_fuel _ (t.take q.2).length _ (by rw [List.length_take]; omega) (Nat.le_refl _)] at h2
      rw [h2]; rfl
    ·rename_i h91
     rw [if_neg h91]
     split at h
     ·rename_i h60
      simp only [Option.some.injEq] at h
      subst h
      simp only at hm
      obtain rfl : m = 1 := by omega
      simp only [Bool.and_eq_true, beq_iff_eq] at h60
      obtain ⟨h61, h62⟩ := h60
      cases t with
      | nil => cases h62
      | cons d t =>
       simp only [List.head?_cons, Option.some.injEq] at h62
       subst h62 h61
       rfl
     ·rename_i h60
      split at h
      ·rename_i hs
       simp only [Option.some.injEq] at h
       subst h
       simp only at hm
       obtain rfl : m = 0 := by omega
       rw [if_neg (show ¬ (c == 60 && (List.take 0 t).head? == some 45) = true by simp), if_pos hs]
      ·cases h

/-! ### Words with blanks between -/
/-- The same word, wherever it stands. -/
def like (w x : Wd) : Prop := x.kind = w.kind ∧ x.tx = w.tx ∧ x.lv = w.lv ∧ x.cl = w.cl
theorem like.refl (w : Wd) : like w w := ⟨rfl, rfl, rfl, rfl⟩
theorem like.far {n : Nat} {w x : Wd} (h : like w x) : like w (x.far n) := h
/-- The bytes of a word. -/
def wtx (l : List UInt8) (w : Wd) : List UInt8 := (l.drop w.at_).take (w.nx - w.at_)
def spr (l g : List UInt8) (ws : List Wd) : List UInt8 := ws.flatMap fun w => g ++ wtx l w
/-- Words, one by one the same. -/
def likeL (L M : List Wd) : Prop := M.length = L.length ∧ ∀ i, i < L.length → like (wdAt L i) (wdAt M i)
theorem wdAt_cons (w : Wd) (L : List Wd) (i : Nat) : wdAt (w :: L) (i + 1) = wdAt L i := rfl
theorem likeL_cons {w x : Wd} {L M : List Wd} (h : like w x) (hl : likeL L M) : likeL (w :: L) (x :: M) := by
 refine ⟨by simp [hl.1], fun i hi => ?_⟩
 cases i with
 | zero => exact h
 | succ i => rw [wdAt_cons, wdAt_cons]; exact hl.2 i (by simpa using hi)
theorem likeL_far {n : Nat} {L M : List Wd} (hl : likeL L M) : likeL L (M.map (Wd.far n)) := by
 refine ⟨by simp [hl.1], fun i hi => ?_⟩
 have h1 := hl.2 i hi
 have hi' : i < M.length := by rw [hl.1]; exact hi
 rw [wdAt_in (L := M.map (Wd.far n)) (by simpa using hi'), List.getElem_map]
 rw [wdAt_in hi'] at h1
 exact h1
/-- What may stand between words: blanks, remarks that end. -/
structure GapW (g : List UInt8) : Prop where
 hd : ∃ x u, g = x :: u ∧ Dlm x
 sk : ∀ u : List UInt8, skp false (g ++ u) = g.length + skp false u
theorem spread_words {l g : List UInt8} (hg : GapW g) : ∀ (ws : List Wd) (k f : Nat), k ≤ l.length → Chain l k ws → (spr l g ws).length < f → ∃ ws', wordsF (spr l g ws) f 0 = (ws', none) ∧ likeL ws ws'
 | [], k, f, hk, h, _ => h.elim
 | w :: ws, k, 0, hk, h, hf => by omega
 | w :: ws, k, f + 1, hk, ⟨hw, hc⟩, hf => by
  obtain ⟨h1, h2, h3, h4, h5, h6, h7, h8⟩ := nextW_some hw hk
  have h0 := nextW_self hw hk
  have hsp : spr l g (w :: ws) = g ++ (wtx l w ++ spr l g ws) := by unfold spr; rw [List.flatMap_cons, List.append_assoc]
  have hsk0 : skp false (l.drop w.at_) = 0 := by
   rw [h1]
   have := skp_idem (l.drop k) false
   rwa [List.drop_drop] at this
  obtain ⟨r, hr, hrw⟩ : ∃ r, wordR (l.drop w.at_) = some r ∧ w = r.at w.at_ := by
   unfold nextW at h0
   rw [hsk0, Nat.add_zero] at h0
   cases hr : wordR (l.drop w.at_) with
   | none => rw [hr] at h0; cases h0
   | some r => rw [hr] at h0; simp only [Option.map_some, Option.some.injEq] at h0; exact ⟨r, rfl, h0.symm⟩
  have hrk : r.kind = w.kind := by rw [hrw]; rfl
  have hrn : w.nx - w.at_ = r.n := by rw [hrw]; show w.at_ + r.n - w.at_ = r.n; omega
  rcases hc with ⟨hc, rfl⟩ | ⟨hc, hch⟩
  ·have hn : r.n = 0 := (wordR_len hr).2.2.2.1.2 (by omega)
   have hwt : wtx l w = [] := by unfold wtx; rw [hrn, hn]; rfl
   rw [hsp, hwt]
   have hs : spr l g [] = [] := rfl
   rw [hs, List.append_nil, List.append_nil]
   have hsk : skp false g = g.length := by have := hg.sk []; simpa [skp] using this
   have hnx : nextW g 0 = some (Wr.at ⟨1, 0, [], 0, []⟩ g.length) := by
    unfold nextW
    rw [List.drop_zero, hsk, Nat.zero_add, List.drop_length]; rfl
   refine ⟨[Wr.at ⟨1, 0, [], 0, []⟩ g.length], ?_, ?_⟩
   ·simp only [wordsF]
    rw [hnx]
    simp only []
    rw [if_pos (show (Wr.at ⟨1, 0, [], 0, []⟩ g.length).kind = 1 from rfl)]
   ·have hnil : l.drop w.at_ = [] := (wordR_len hr).2.2.2.2.1 (by omega)
    rw [hnil] at hr
    have hre : r = ⟨1, 0, [], 0, []⟩ := by simpa [wordR] using hr.symm
    refine likeL_cons ?_ ⟨rfl, fun i hi => by simp at hi⟩
    rw [hrw, hre]
    exact ⟨rfl, rfl, rfl, rfl⟩
  ·obtain ⟨ws', e1, e2⟩ := spread_words hg ws w.nx f h4 hch (by rw [hsp] at hf; simp only [List.length_append] at hf; obtain ⟨x, u, rfl, _⟩ := hg.hd; simp only [List.length_cons] at hf; omega)
   have hne : r.n ≠ 0 := fun e => hc (by have := (wordR_len hr).2.2.2.1.1 e; omega)
   have hwt : wtx l w = (l.drop w.at_).take r.n := by unfold wtx; rw [hrn]
   have hwl : (wtx l w).length = r.n := by
    rw [hwt, List.length_take]
    have := (wordR_len hr).1
    omega
   have hR := wordR_take hr (by omega)
   rw [← hwt] at hR
   have hwne : wtx l w ≠ [] := fun e => hne (by rw [← hwl, e]; rfl)
   -- the rest begins with a blank
   have hrest : ∃ x u, spr l g ws = x :: u ∧ Dlm x := by
    cases ws with
    | nil => exact hch.elim
    | cons v vs =>
     obtain ⟨x, u, e, hx⟩ := hg.hd
     exact ⟨x, u ++ (wtx l v ++ spr l g vs), by unfold spr; rw [List.flatMap_cons, List.append_assoc, e]; rfl, hx⟩
   obtain ⟨x, u, ex, hx⟩ := hrest
   have hR2 : wordR (wtx l w ++ spr l g ws) = some r := by rw [ex]; exact wordR_app hx u hwne hR
   have hskw : skp false (wtx l w ++ spr l g ws) = 0 := by
    cases hl : l.drop w.at_ with
    | nil => rw [hwt, hl] at hwne; simp at hwne
    | cons c t =>
     rw [hl] at hsk0
     obtain ⟨m, hm⟩ : ∃ m, r.n = m + 1 := ⟨r.n - 1, by omega⟩
     rw [hwt, hl, hm, List.take_succ_cons, List.cons_append]
     simp only [skp] at hsk0 ⊢
     split at hsk0
     ·omega
     ·rename_i hb
      rw [if_neg hb]
      split at hsk0
      ·omega
      ·rename_i hb2; rw [if_neg hb2]
   have hsk : skp false (g ++ (wtx l w ++ spr l g ws)) = g.length := by rw [hg.sk, hskw]; rfl
   have hnx : nextW (g ++ (wtx l w ++ spr l g ws)) 0 = some (r.at g.length) := by
    unfold nextW
    rw [List.drop_zero, hsk, Nat.zero_add, List.drop_left, hR2]; rfl
   have hfar := wordsF_far (g ++ wtx l w) (spr l g ws) f 0
   rw [Nat.add_zero, List.append_assoc, List.length_append, hwl, e1] at hfar
   refine ⟨r.at g.length :: ws'.map (Wd.far (g.length + r.n)), ?_, likeL_cons ?_ (likeL_far e2)⟩
   ·rw [hsp]
    simp only [wordsF]
    rw [hnx]
    simp only []
    rw [if_neg (show (r.at g.length).kind ≠ 1 from fun e => hc (by rw [← hrk]; exact e))]
    rw [show (r.at g.length).nx = g.length + r.n from rfl, hfar]
    rfl
   ·rw [hrw]; exact ⟨rfl, rfl, rfl, rfl⟩
end Go.Proofs.YthfefbmkgebmkaaGreatDoor
namespace Go.Proofs.YthfefbmkgebmkaaGreatDoor

/-- A node by itself. -/
def WfN (L : List Wd) (k : Nat) (t : List UInt8) (a : Nat) (nm : List UInt8) (ks : List Pt) : Prop :=
 ∃ i, i + 1 < L.length ∧ a = (wdAt L i).at_ ∧ (k = 5 → nm = (wdAt L i).tx ∧ (wdAt L i).kind = 2) ∧ (k ≠ 5 → nm = []) ∧ (t = if k = 4 then (wdAt L i).tx else []) ∧ ((k = 6 ∨ k = 7) → 2 ≤ ks.length ∧ ∃ q r, ks = q :: r ∧ q.at_ = a)
mutual
def WfP (L : List Wd) : Pt → Prop
 | .mk k _ t _ a nm ks => WfN L k t a nm ks ∧ WfL L ks
def WfL (L : List Wd) : List Pt → Prop
 | [] => True
 | p :: ps => WfP L p ∧ WfL L ps
end
theorem wfL_app {L : List Wd} : ∀ (a b : List Pt), WfL L a → WfL L b → WfL L (a ++ b)
 | [], b, _, h => h
 | p :: a, b, h, hb => by
  show WfL L (p :: (a ++ b))
  unfold WfL at h ⊢
  exact ⟨h.1, wfL_app a b h.2 hb⟩
theorem wfP_at {L : List Wd} : ∀ {p : Pt}, WfP L p → ∃ i, i + 1 < L.length ∧ p.at_ = (wdAt L i).at_
 | .mk .., h => by unfold WfP at h; obtain ⟨⟨i, h1, h2, _⟩, _⟩ := h; exact ⟨i, h1, h2⟩
theorem wf_grp {L : List Wd} {k : Nat} (hk : k = 6 ∨ k = 7) : ∀ (l : List Pt), l ≠ [] → WfL L l → WfP L (grp k l)
 | [], h, _ => absurd rfl h
 | [p], _, h => by unfold WfL at h; exact h.1
 | p :: q :: r, _, h => by
  have h1 : WfP L p := by unfold WfL at h; exact h.1
  obtain ⟨i, hi, ha⟩ := wfP_at h1
  show WfP L (.mk k [] [] 0 p.at_ [] (p :: q :: r))
  unfold WfP
  exact ⟨⟨i, hi, ha, fun e => by omega, fun _ => rfl, (if_neg (by omega)).symm, fun _ => ⟨by simp, p, q :: r, rfl, rfl⟩⟩, h⟩
theorem wf_ovr {L : List Wd} {k i : Nat} {p : Pt} (hk : 8 ≤ k) (hi : i + 1 < L.length) (h : WfP L p) : WfP L (ovr k (wdAt L i).at_ p) := by
 unfold ovr WfP
 refine ⟨⟨i, hi, rfl, fun e => by omega, fun _ => rfl, (if_neg (by omega)).symm, fun e => by omega⟩, ?_⟩
 unfold WfL
 exact ⟨h, by unfold WfL; trivial⟩
theorem wf_suf {L : List Wd} (h : WsOk L) : ∀ (f : Nat) (p : Pt) (i : Nat), i < L.length → WfP L p → WfP L (sufF L f p i).1
 | 0, p, i, hi, hp => hp
 | f + 1, p, i, hi, hp => by
  unfold sufF
  split
  ·rename_i hh; exact wf_suf h f _ _ (h.after hi hh) (wf_ovr (by omega) (h.after hi hh) hp)
  ·split
   ·rename_i hh; exact wf_suf h f _ _ (h.after hi hh) (wf_ovr (by omega) (h.after hi hh) hp)
   ·split
    ·rename_i hh; exact wf_suf h f _ _ (h.after hi hh) (wf_ovr (by omega) (h.after hi hh) hp)
    ·exact hp
theorem prs_wf {L : List Wd} (h : WsOk L) : ∀ (f : Nat) (m : Md) (acc : List Pt) (i d : Nat) (p : Pt) (j : Nat), i < L.length → prs L f m acc i d = some (.ok p j) → WfL L acc → (match m with | .altM => acc ≠ [] | .seqM => acc ≠ [] | _ => True) → WfP L p
 | 0, m, acc, i, d, p, j, hi, e, _, _ => by simp [prs] at e
 | f + 1, .alt, acc, i, d, p, j, hi, e, _, _ => by
  simp only [prs] at e
  cases hq : prs L f .seq [] i d with
  | none => rw [hq] at e; cases e
  | some r =>
   rw [hq] at e
   cases r with
   | err a b => cases e
   | ok q k =>
    simp only [] at e
    obtain ⟨h1, h2, h3⟩ := prs_bd h f .seq [] i d q k hi hq
    have hw := prs_wf h f .seq [] i d q k hi hq (by unfold WfL; trivial) trivial
    exact prs_wf h f .altM [q] k d p j h1 e (by unfold WfL; exact ⟨hw, by unfold WfL; trivial⟩) (by simp)
 | f + 1, .altM, acc, i, d, p, j, hi, e, ha, hn => by
  simp only [prs] at e
  by_cases hh : hereW L i [47] = true
  ·rw [if_pos hh] at e
   cases hq : prs L f .seq [] (i + 1) d with
   | none => rw [hq] at e; cases e
   | some r =>
    rw [hq] at e
    cases r with
    | err a b => cases e
    | ok q k =>
     simp only [] at e
     obtain ⟨h1, h2, h3⟩ := prs_bd h f .seq [] (i + 1) d q k (h.after hi hh) hq
     have hw := prs_wf h f .seq [] (i + 1) d q k (h.after hi hh) hq (by unfold WfL; trivial) trivial
     exact prs_wf h f .altM (acc ++ [q]) k d p j h1 e (wfL_app _ _ ha (by unfold WfL; exact ⟨hw, by unfold WfL; trivial⟩)) (by simp)
  ·rw [if_neg hh] at e
   simp only [Option.some.injEq, Rs.ok.injEq] at e
   rw [← e.1]
   exact wf_grp (.inr rfl) _ hn ha
 | f + 1, .seq, acc, i, d, p, j, hi, e, _, _ => by
  simp only [prs] at e
  cases hq : prs L f .item [] i d with
  | none => rw [hq] at e; cases e
  | some r =>
   rw [hq] at e
   cases r with
   | err a b => cases e
   | ok q k =>
    simp only [] at e
    obtain ⟨h1, h2, h3⟩ := prs_bd h f .item [] i d q k hi hq
    have hw := prs_wf h f .item [] i d q k hi hq (by unfold WfL; trivial) trivial
    exact prs_wf h f .seqM [q] k d p j h1 e (by unfold WfL; exact ⟨hw, by unfold WfL; trivial⟩) (by simp)
 | f + 1, .seqM, acc, i, d, p, j, hi, e, ha, hn => by
  simp only [prs] at e
  by_cases hh : goesW L i = true
  ·rw [if_pos hh] at e
   cases hq : prs L f .item [] i d with
   | none => rw [hq] at e; cases e
   | some r =>
    rw [hq] at e
    cases r with
    | err a b => cases e
    | ok q k =>
     simp only [] at e
     obtain ⟨h1, h2, h3⟩ := prs_bd h f .item [] i d q k hi hq
     have hw := prs_wf h f .item [] i d q k hi hq (by unfold WfL; trivial) trivial
     exact prs_wf h f .seqM (acc ++ [q]) k d p j h1 e (wfL_app _ _ ha (by unfold WfL; exact ⟨hw, by unfold WfL; trivial⟩)) (by simp)
  ·rw [if_neg hh] at e
   simp only [Option.some.injEq, Rs.ok.injEq] at e
   rw [← e.1]
   exact wf_grp (.inl rfl) _ hn ha
 | f + 1, .item, acc, i, d, p, j, hi, e, _, _ => by
  simp only [prs] at e
  by_cases hh : hereW L i [33] = true
  ·rw [if_pos hh] at e
   cases hq : prs L f .item [] (i + 1) d with
   | none => rw [hq] at e; cases e
   | some r =>
    rw [hq] at e
    cases r with
    | err a b => cases e
    | ok q k =>
     simp only [Option.some.injEq, Rs.ok.injEq] at e
     rw [← e.1]
     exact wf_ovr (by omega) (h.after hi hh) (prs_wf h f .item [] (i + 1) d q k (h.after hi hh) hq (by unfold WfL; trivial) trivial)
  ·rw [if_neg hh] at e
   by_cases hh2 : hereW L i [38] = true
   ·rw [if_pos hh2] at e
    cases hq : prs L f .item [] (i + 1) d with
    | none => rw [hq] at e; cases e
    | some r =>
     rw [hq] at e
     cases r with
     | err a b => cases e
     | ok q k =>
      simp only [Option.some.injEq, Rs.ok.injEq] at e
      rw [← e.1]
      exact wf_ovr (by omega) (h.after hi hh2) (prs_wf h f .item [] (i + 1) d q k (h.after hi hh2) hq (by unfold WfL; trivial) trivial)
   ·rw [if_neg hh2] at e
    cases hq : prs L f .prim [] i d with
    | none => rw [hq] at e; cases e
    | some r =>
     rw [hq] at e
     cases r with
     | err a b => cases e
     | ok q k =>
      simp only [Option.some.injEq, Rs.ok.injEq] at e
      obtain ⟨h1, h2, h3⟩ := prs_bd h f .prim [] i d q k hi hq
      rw [← e.1]
      exact wf_suf h _ _ _ h1 (prs_wf h f .prim [] i d q k hi hq (by unfold WfL; trivial) trivial)
 | f + 1, .prim, acc, i, d, p, j, hi, e, _, _ => by
  simp only [prs] at e
  have one : (wdAt L i).kind ≠ 1 → i + 1 < L.length := fun hk => h.next hi hk
  have leaf : ∀ (k : Nat) (cl : List (UInt8 × UInt8)) (t : List UInt8) (lv : Int) (nm : List UInt8), i + 1 < L.length → (k = 5 → nm = (wdAt L i).tx ∧ (wdAt L i).kind = 2) → (k ≠ 5 → nm = []) → (t = if k = 4 then (wdAt L i).tx else []) → k < 6 → WfP L (.mk k cl t lv (wdAt L i).at_ nm []) := fun k cl t lv nm h1 h2 h3 h4 h5 => by
   unfold WfP
   exact ⟨⟨i, h1, rfl, h2, h3, h4, fun e => by omega⟩, by unfold WfL; trivial⟩
  split at e
  ·rename_i hk; simp only [Option.some.injEq, Rs.ok.injEq] at e; rw [← e.1]; exact leaf _ _ _ _ _ (one (by omega)) (fun _ => ⟨rfl, hk⟩) (fun e => absurd rfl e) rfl (by omega)
  split at e
  ·rename_i hk; simp only [Option.some.injEq, Rs.ok.injEq] at e; rw [← e.1]; exact leaf _ _ _ _ _ (one (by omega)) (fun e => by omega) (fun _ => rfl) rfl (by omega)
  split at e
  ·rename_i hk; simp only [Option.some.injEq, Rs.ok.injEq] at e; rw [← e.1]; exact leaf _ _ _ _ _ (one (by omega)) (fun e => by omega) (fun _ => rfl) rfl (by omega)
  split at e
  ·rename_i hh; simp only [Option.some.injEq, Rs.ok.injEq] at e; rw [← e.1]; exact leaf _ _ _ _ _ (h.after hi hh) (fun e => by omega) (fun _ => rfl) rfl (by omega)
  split at e
  ·rename_i hh
   split at e
   ·cases e
   ·split at e
    ·simp only [Option.some.injEq, Rs.ok.injEq] at e
     rw [← e.1]; exact leaf _ _ _ _ _ (h.after hi hh) (fun e => by omega) (fun _ => rfl) rfl (by omega)
    ·cases hq : prs L f .alt [] (i + 1) (d + 1) with
     | none => rw [hq] at e; cases e
     | some r =>
      rw [hq] at e
      cases r with
      | err a b => cases e
      | ok q k =>
       simp only [] at e
       split at e
       ·simp only [Option.some.injEq, Rs.ok.injEq] at e
        rw [← e.1]
        exact prs_wf h f .alt [] (i + 1) (d + 1) q k (h.after hi hh) hq (by unfold WfL; trivial) trivial
       ·cases e
  ·cases e

/-! ### Where kids stand -/
/-- Numbers in a row: each but the first is the end of the one ahead. -/
def Chn (E : Nat → Nat) : Nat → List Nat → Nat → Prop
 | n, [], e => n = e
 | n, k :: ks, e => k = n ∧ Chn E (E k) ks e
mutual
def szs : Pt → List Nat
 | .mk _ _ _ _ _ _ ks => (1 + szL ks) :: szsL ks
def szsL : List Pt → List Nat
 | [] => []
 | k :: ks => szs k ++ szsL ks
end
mutual
theorem szs_len : ∀ p : Pt, (szs p).length = p.sz
 | .mk _ _ _ _ _ _ ks => by unfold szs Pt.sz; rw [List.length_cons, szsL_len ks]; omega
theorem szsL_len : ∀ l : List Pt, (szsL l).length = szL l
 | [] => by unfold szsL szL; rfl
 | k :: ks => by unfold szsL szL; rw [List.length_append, szs_len k, szsL_len ks]
end
theorem szs_head (p : Pt) : ∃ t, szs p = p.sz :: t := by
 cases p with
 | mk a b c d e f ks => exact ⟨szsL ks, by unfold szs Pt.sz; rfl⟩
/-- Where a node ends. -/
def endE (S : List Nat) (n : Nat) : Nat := n + S.getD n 0
theorem drop_getD {S : List Nat} {n a : Nat} {t : List Nat} (h : S.drop n = a :: t) : S.getD n 0 = a ∧ S.drop (n + 1) = t := by
 have h1 : S[n]? = some a := by
  have := congrArg List.head? h
  rwa [List.head?_drop] at this
 refine ⟨by rw [List.getD_eq_getElem?_getD, h1]; rfl, ?_⟩
 rw [← List.drop_drop, h]; rfl
theorem kidsAt_chn {S : List Nat} : ∀ (n : Nat) (ks : List Pt) (t : List Nat), S.drop n = szsL ks ++ t → Chn (endE S) n (kidsAt n ks) (n + szL ks)
 | n, [], t, h => rfl
 | n, k :: ks, t, h => by
  obtain ⟨u, hu⟩ := szs_head k
  have h1 : S.drop n = szs k ++ (szsL ks ++ t) := by rw [h]; simp [szsL]
  have h2 : S.getD n 0 = k.sz := (drop_getD (a := k.sz) (t := u ++ (szsL ks ++ t)) (by rw [h1, hu]; rfl)).1
  have h3 : S.drop (n + k.sz) = szsL ks ++ t := by
   rw [← List.drop_drop, h1, List.drop_left' (szs_len k)]
  unfold kidsAt Chn
  refine ⟨rfl, ?_⟩
  have := kidsAt_chn (n + k.sz) ks t h3
  unfold endE at this ⊢
  rw [h2]
  simpa [szL, Nat.add_assoc] using this
mutual
theorem flat_chn {S : List Nat} : ∀ (n : Nat) (p : Pt) (t : List Nat), S.drop n = szs p ++ t → ∀ m (h : m < (flat n p).length), Chn (endE S) (n + m + 1) (flat n p)[m].kids (endE S (n + m)) ∧ endE S (n + m) ≤ n + p.sz
 | n, .mk kd cl tt lv a nm ks, t, hS, m, h => by
  have hS' : S.drop n = (1 + szL ks) :: (szsL ks ++ t) := by rw [hS]; simp [szs]
  obtain ⟨h1, h2⟩ := drop_getD hS'
  cases m with
  | zero =>
   have hk := kidsAt_chn (n + 1) ks t h2
   have he : endE S (n + 0) = n + 1 + szL ks := by unfold endE; rw [Nat.add_zero, h1]; omega
   rw [he]
   refine ⟨by simpa [flat] using hk, by simp only [Pt.sz]; omega⟩
  | succ m =>
   have h3 : m < (flatL (n + 1) ks).length := by simpa [flat] using h
   obtain ⟨h4, h5⟩ := flatL_chn (n + 1) ks t h2 m h3
   rw [show n + (m + 1) = n + 1 + m by omega]
   refine ⟨by simpa [flat] using h4, by simp only [Pt.sz]; omega⟩
theorem flatL_chn {S : List Nat} : ∀ (n : Nat) (ks : List Pt) (t : List Nat), S.drop n = szsL ks ++ t → ∀ m (h : m < (flatL n ks).length), Chn (endE S) (n + m + 1) (flatL n ks)[m].kids (endE S (n + m)) ∧ endE S (n + m) ≤ n + szL ks
 | n, [], t, hS, m, h => by simp [flatL] at h
 | n, p :: ks, t, hS, m, h => by
  have hl := flat_len n p
  have h1 : S.drop n = szs p ++ (szsL ks ++ t) := by rw [hS]; simp [szsL]
  have h3 : S.drop (n + p.sz) = szsL ks ++ t := by rw [← List.drop_drop, h1, List.drop_left' (szs_len p)]
  have hm : m < (flat n p ++ flatL (n + p.sz) ks).length := by simpa [flatL] using h
  simp only [flatL]
  rcases Nat.lt_or_ge m (flat n p).length with h4 | h4
  ·rw [List.getElem_append_left h4]
   obtain ⟨h5, h6⟩ := flat_chn n p _ h1 m h4
   exact ⟨h5, by simp only [szL]; omega⟩
  ·rw [List.getElem_append_right h4]
   obtain ⟨h5, h6⟩ := flatL_chn (n + p.sz) ks t h3 (m - (flat n p).length) (by rw [List.length_append] at hm; omega)
   have e : n + p.sz + (m - (flat n p).length) = n + m := by omega
   simp only [e] at h5 h6
   exact ⟨h5, by simp only [szL]; omega⟩
end

/-! ### Each node by itself -/
def NodeOk (L : List Wd) (x : Rn) (y : Option Rn) : Prop :=
 ∃ i, i + 1 < L.length ∧ x.at_ = (wdAt L i).at_ ∧ (x.kind = 5 → x.nm = (wdAt L i).tx ∧ (wdAt L i).kind = 2) ∧ (x.kind ≠ 5 → x.nm = []) ∧ (x.tx = if x.kind = 4 then (wdAt L i).tx else []) ∧ ((x.kind = 6 ∨ x.kind = 7) → 2 ≤ x.kids.length ∧ ∃ z, y = some z ∧ z.at_ = x.at_)
theorem kidsAt_len : ∀ (n : Nat) (ks : List Pt), (kidsAt n ks).length = ks.length
 | _, [] => rfl
 | n, k :: ks => by unfold kidsAt; rw [List.length_cons, List.length_cons, kidsAt_len]
theorem flat_head (n : Nat) (p : Pt) : ∃ x t, flat n p = x :: t ∧ x.at_ = p.at_ := by
 cases p with
 | mk kd cl tt lv a nm ks => exact ⟨_, flatL (n + 1) ks, by unfold flat; rfl, rfl⟩
theorem NodeOk.more {L : List Wd} {x : Rn} {y z : Option Rn} (h : NodeOk L x y) (hyz : ∀ v, y = some v → z = some v) : NodeOk L x z := by
 obtain ⟨i, h1, h2, h3, h4, h5, h6⟩ := h
 exact ⟨i, h1, h2, h3, h4, h5, fun hk => by obtain ⟨a, v, b, c⟩ := h6 hk; exact ⟨a, v, hyz v b, c⟩⟩
mutual
theorem flat_ok {L : List Wd} : ∀ (n : Nat) (p : Pt), WfP L p → ∀ m (h : m < (flat n p).length), NodeOk L (flat n p)[m] (flat n p)[m + 1]?
 | n, .mk kd cl tt lv a nm ks, hp, m, h => by
  unfold WfP at hp
  obtain ⟨⟨i, h1, h2, h3, h4, h5, h6⟩, hk⟩ := hp
  cases m with
  | zero =>
   simp only [flat, List.getElem_cons_zero, Nat.zero_add, List.getElem?_cons_succ]
   refine ⟨i, h1, h2, h3, h4, h5, fun hkd => ?_⟩
   obtain ⟨g1, q, r, rfl, g2⟩ := h6 hkd
   refine ⟨by simp only [kidsAt_len]; exact g1, ?_⟩
   obtain ⟨x, t, e1, e2⟩ := flat_head (n + 1) q
   exact ⟨x, by simp only [flatL]; rw [e1]; rfl, e2.trans g2⟩
  | succ m =>
   have h7 : m < (flatL (n + 1) ks).length := by simpa [flat] using h
   have := flatL_ok (n + 1) ks hk m h7
   simpa [flat] using this
theorem flatL_ok {L : List Wd} : ∀ (n : Nat) (ks : List Pt), WfL L ks → ∀ m (h : m < (flatL n ks).length), NodeOk L (flatL n ks)[m] (flatL n ks)[m + 1]?
 | n, [], _, m, h => by simp [flatL] at h
 | n, p :: ks, hp, m, h => by
  have hl := flat_len n p
  unfold WfL at hp
  have hm : m < (flat n p ++ flatL (n + p.sz) ks).length := by simpa [flatL] using h
  simp only [flatL]
  rcases Nat.lt_or_ge m (flat n p).length with h4 | h4
  ·rw [List.getElem_append_left h4]
   refine (flat_ok n p hp.1 m h4).more fun v hv => ?_
   have h5 : m + 1 < (flat n p).length := by
    rcases Nat.lt_or_ge (m + 1) (flat n p).length with h5 | h5
    ·exact h5
    ·rw [List.getElem?_eq_none h5] at hv; cases hv
   rw [List.getElem?_append_left h5]; exact hv
  ·rw [List.getElem_append_right h4, List.getElem?_append_right (by omega)]
   have := flatL_ok (n + p.sz) ks hp.2 (m - (flat n p).length) (by rw [List.length_append] at hm; omega)
   rw [show m + 1 - (flat n p).length = m - (flat n p).length + 1 by omega]
   exact this
end
theorem treeF_is : ∀ (n : Nat) (l : List (Wd × Pt)), (treeF n l).2 = flatL n (l.map (·.2)) ∧ (treeF n l).1.map (·.body) = kidsAt n (l.map (·.2)) ∧ (treeF n l).1.map (·.nm) = l.map (·.1.tx) ∧ (treeF n l).1.map (·.at_) = l.map (·.1.at_)
 | n, [] => ⟨rfl, rfl, rfl, rfl⟩
 | n, (w, p) :: l => by
  obtain ⟨h1, h2, h3, h4⟩ := treeF_is (n + p.sz) l
  refine ⟨by simp only [treeF, List.map_cons, flatL, h1], by simp only [treeF, List.map_cons, kidsAt, h2], by simp only [treeF, List.map_cons, h3], by simp only [treeF, List.map_cons, h4]⟩

/-! ### Rules -/
/-- Rules that were read ahead of word j. -/
structure RsOk (L : List Wd) (acc : List (Wd × Pt)) (j : Nat) : Prop where
 wf : WfL L (acc.map (·.2))
 nm : ∀ x ∈ acc, ∃ i, i < j ∧ i + 1 < L.length ∧ x.1 = wdAt L i ∧ x.1.kind = 2
 up : ∀ i (h : i + 1 < acc.length), ∃ a b, a < b ∧ b + 1 < L.length ∧ acc[i].1 = wdAt L a ∧ acc[i + 1].1 = wdAt L b
theorem wfL_map {L : List Wd} {acc : List (Wd × Pt)} {w : Wd} {p : Pt} (h : WfL L (acc.map (·.2))) (hp : WfP L p) : WfL L ((acc ++ [(w, p)]).map (·.2)) := by
 rw [List.map_append]
 exact wfL_app _ _ h (by show WfL L [p]; unfold WfL; exact ⟨hp, by unfold WfL; trivial⟩)
theorem rulP_ok {L : List Wd} (h : WsOk L) {f i j : Nat} {w : Wd} {p : Pt} (hi : i < L.length) (e : rulP L f i = some (.ok (w, p) j)) : w = wdAt L i ∧ w.kind = 2 ∧ i + 1 < L.length ∧ WfP L p ∧ i < j ∧ j < L.length := by
 unfold rulP at e
 simp only [] at e
 by_cases hk : (wdAt L i).kind ≠ 2 ∨ 0 ≤ (wdAt L i).lv
 ·rw [if_pos hk] at e; cases e
 ·rw [if_neg hk] at e
  have hk2 : (wdAt L i).kind = 2 := by
   rcases Nat.decEq (wdAt L i).kind 2 with h1 | h1
   ·exact absurd (.inl h1) hk
   ·exact h1
  have h1 := h.next hi (by omega)
  by_cases hh : hereW L (i + 1) [60, 45] = true
  ·rw [if_pos hh] at e
   have h2 := h.after h1 hh
   cases hq : prs L f .alt [] (i + 2) 0 with
   | none => rw [hq] at e; cases e
   | some r =>
    rw [hq] at e
    cases r with
    | err a b => cases e
    | ok q k =>
     obtain ⟨h4, h5, _⟩ := prs_bd h f .alt [] (i + 2) 0 q k h2 hq
     have hw := prs_wf h f .alt [] (i + 2) 0 q k h2 hq (by unfold WfL; trivial) trivial
     simp only [] at e
     by_cases hs : hereW L k [59] = true
     ·rw [if_pos hs] at e
      simp only [Option.some.injEq, Rs.ok.injEq, Prod.mk.injEq] at e
      obtain ⟨⟨rfl, rfl⟩, rfl⟩ := e
      exact ⟨rfl, hk2, h1, hw, by omega, h.after h4 hs⟩
     ·rw [if_neg hs] at e; cases e
  ·rw [if_neg hh] at e; cases e
theorem rulsP_ok {L : List Wd} (h : WsOk L) (f : Nat) : ∀ (g : Nat) (acc : List (Wd × Pt)) (i : Nat) (x : List (Wd × Pt)) (j : Nat), i < L.length → RsOk L acc i → rulsP L f g acc i = some (.ok x j) → x ≠ [] ∧ RsOk L x j
 | 0, acc, i, x, j, hi, ha, e => by cases e
 | g + 1, acc, i, x, j, hi, ha, e => by
  unfold rulsP at e
  cases hq : rulP L f i with
  | none => rw [hq] at e; cases e
  | some r =>
   rw [hq] at e
   cases r with
   | err a b => cases e
   | ok y k =>
    obtain ⟨w, p⟩ := y
    obtain ⟨h1, h2, h3, h4, h5, h6⟩ := rulP_ok h hi hq
    simp only [] at e
    have hn : RsOk L (acc ++ [(w, p)]) k := by
     refine ⟨wfL_map ha.wf h4, fun y hy => ?_, fun m hm => ?_⟩
     ·rcases List.mem_append.1 hy with hy | hy
      ·obtain ⟨a, b1, b2⟩ := ha.nm y hy; exact ⟨a, by omega, b2⟩
      ·obtain rfl : y = (w, p) := by simpa using hy
       exact ⟨i, h5, h3, h1, h2⟩
     ·rw [List.length_append] at hm
      simp only [List.length_cons, List.length_nil] at hm
      rcases Nat.lt_or_ge (m + 1) acc.length with h7 | h7
      ·obtain ⟨a, b, c⟩ := ha.up m h7
       rw [List.getElem_append_left (by omega), List.getElem_append_left h7]
       exact ⟨a, b, c⟩
      ·have hm' : m < acc.length := by omega
       obtain ⟨a, b1, b2, b3, b4⟩ := ha.nm acc[m] (List.getElem_mem hm')
       rw [List.getElem_append_left hm', List.getElem_append_right h7]
       refine ⟨a, i, b1, h3, b3, ?_⟩
       simp only [show m + 1 - acc.length = 0 by omega, List.getElem_cons_zero]
       exact h1
    split at e
    ·simp only [Option.some.injEq, Rs.ok.injEq] at e
     obtain ⟨rfl, rfl⟩ := e
     exact ⟨by simp, hn⟩
    ·exact rulsP_ok h f g _ k x j h6 hn e
theorem readW_ok {L : List Wd} (h : WsOk L) {x : List (Wd × Pt)} {j : Nat} (e : readW L = .ok x j) : x ≠ [] ∧ RsOk L x j := by
 unfold readW at e
 cases hq : rulsP L (6 * L.length + 4) (L.length + 1) [] 0 with
 | none => rw [hq] at e; cases e
 | some r =>
  rw [hq] at e
  simp only [] at e
  subst e
  exact rulsP_ok h _ _ _ _ _ _ h.pos ⟨by show WfL L []; unfold WfL; trivial, fun x hx => (by cases hx), fun i hi => (by simp at hi)⟩ hq

/-! ### Errors -/
theorem wdAt_le {L : List Wd} {n : Nat} (h : ∀ i (hi : i < L.length), L[i].at_ ≤ n) (i : Nat) : (wdAt L i).at_ ≤ n := by
 rcases Nat.lt_or_ge i L.length with hi | hi
 ·rw [wdAt_in hi]; exact h i hi
 ·have : wdAt L i = ⟨1, 0, 0, [], 0, []⟩ := by unfold wdAt; rw [List.getD_eq_getElem?_getD, List.getElem?_eq_none hi]; rfl
  rw [this]; exact Nat.zero_le _
theorem prs_err {L : List Wd} {n : Nat} (h : ∀ i, (wdAt L i).at_ ≤ n) : ∀ (f : Nat) (m : Md) (acc : List Pt) (i d : Nat) (e a : Nat), prs L f m acc i d = some (.err e a) → (e = 3 ∨ e = 7) ∧ a ≤ n
 | 0, m, acc, i, d, e, a, hr => by simp [prs] at hr
 | f + 1, .alt, acc, i, d, e, a, hr => by
  simp only [prs] at hr
  cases hq : prs L f .seq [] i d with
  | none => rw [hq] at hr; cases hr
  | some r =>
   rw [hq] at hr
   cases r with
   | err b c => simp only [Option.some.injEq, Rs.err.injEq] at hr; obtain ⟨rfl, rfl⟩ := hr; exact prs_err h f .seq [] i d _ _ hq
   | ok q k => exact prs_err h f .altM [q] k d e a hr
 | f + 1, .altM, acc, i, d, e, a, hr => by
  simp only [prs] at hr
  split at hr
  ·cases hq : prs L f .seq [] (i + 1) d with
   | none => rw [hq] at hr; cases hr
   | some r =>
    rw [hq] at hr
    cases r with
    | err b c => simp only [Option.some.injEq, Rs.err.injEq] at hr; obtain ⟨rfl, rfl⟩ := hr; exact prs_err h f .seq [] (i + 1) d _ _ hq
    | ok q k => exact prs_err h f .altM _ k d e a hr
  ·cases hr
 | f + 1, .seq, acc, i, d, e, a, hr => by
  simp only [prs] at hr
  cases hq : prs L f .item [] i d with
  | none => rw [hq] at hr; cases hr
  | some r =>
   rw [hq] at hr
   cases r with
   | err b c => simp only [Option.some.injEq, Rs.err.injEq] at hr; obtain ⟨rfl, rfl⟩ := hr; exact prs_err h f .item [] i d _ _ hq
   | ok q k => exact prs_err h f .seqM [q] k d e a hr
 | f + 1, .seqM, acc, i, d, e, a, hr => by
  simp only [prs] at hr
  split at hr
  ·cases hq : prs L f .item [] i d with
   | none => rw [hq] at hr; cases hr
   | some r =>
    rw [hq] at hr
    cases r with
    | err b c => simp only [Option.some.injEq, Rs.err.injEq] at hr; obtain ⟨rfl, rfl⟩ := hr; exact prs_err h f .item [] i d _ _ hq
    | ok q k => exact prs_err h f .seqM _ k d e a hr
  ·cases hr
 | f + 1, .item, acc, i, d, e, a, hr => by
  simp only [prs] at hr
  split at hr
  ·cases hq : prs L f .item [] (i + 1) d with
   | none => rw [hq] at hr; cases hr
   | some r =>
    rw [hq] at hr
    cases r with
    | err b c => simp only [Option.some.injEq, Rs.err.injEq] at hr; obtain ⟨rfl, rfl⟩ := hr; exact prs_err h f .item [] (i + 1) d _ _ hq
    | ok q k => cases hr
  ·split at hr
   ·cases hq : prs L f .item [] (i + 1) d with
    | none => rw [hq] at hr; cases hr
    | some r =>
     rw [hq] at hr
     cases r with
     | err b c => simp only [Option.some.injEq, Rs.err.injEq] at hr; obtain ⟨rfl, rfl⟩ := hr; exact prs_err h f .item [] (i + 1) d _ _ hq
     | ok q k => cases hr
   ·cases hq : prs L f .prim [] i d with
    | none => rw [hq] at hr; cases hr
    | some r =>
     rw [hq] at hr
     cases r with
     | err b c => simp only [Option.some.injEq, Rs.err.injEq] at hr; obtain ⟨rfl, rfl⟩ := hr; exact prs_err h f .prim [] i d _ _ hq
     | ok q k => cases hr
 | f + 1, .prim, acc, i, d, e, a, hr => by
  simp only [prs] at hr
  split at hr
  ·cases hr
  split at hr
  ·cases hr
  split at hr
  ·cases hr
  split at hr
  ·cases hr
  split at hr
  ·split at hr
   ·simp only [Option.some.injEq, Rs.err.injEq] at hr; exact ⟨.inl hr.1.symm, hr.2 ▸ h i⟩
   ·split at hr
    ·cases hr
    ·cases hq : prs L f .alt [] (i + 1) (d + 1) with
     | none => rw [hq] at hr; cases hr
     | some r =>
      rw [hq] at hr
      cases r with
      | err b c => simp only [Option.some.injEq, Rs.err.injEq] at hr; obtain ⟨rfl, rfl⟩ := hr; exact prs_err h f .alt [] (i + 1) (d + 1) _ _ hq
      | ok q k =>
       simp only [] at hr
       split at hr
       ·cases hr
       ·simp only [Option.some.injEq, Rs.err.injEq] at hr; exact ⟨.inr hr.1.symm, hr.2 ▸ h k⟩
  ·simp only [Option.some.injEq, Rs.err.injEq] at hr; exact ⟨.inr hr.1.symm, hr.2 ▸ h i⟩
theorem rulP_err {L : List Wd} {n : Nat} (h : ∀ i, (wdAt L i).at_ ≤ n) {f i e a : Nat} (hr : rulP L f i = some (.err e a)) : (e = 3 ∨ e = 7) ∧ a ≤ n := by
 unfold rulP at hr
 simp only [] at hr
 split at hr
 ·simp only [Option.some.injEq, Rs.err.injEq] at hr; exact ⟨.inr hr.1.symm, hr.2 ▸ h i⟩
 ·split at hr
  ·cases hq : prs L f .alt [] (i + 2) 0 with
   | none => rw [hq] at hr; cases hr
   | some r =>
    rw [hq] at hr
    cases r with
    | err b c => simp only [Option.some.injEq, Rs.err.injEq] at hr; obtain ⟨rfl, rfl⟩ := hr; exact prs_err h f .alt [] (i + 2) 0 _ _ hq
    | ok q k =>
     simp only [] at hr
     split at hr
     ·cases hr
     ·simp only [Option.some.injEq, Rs.err.injEq] at hr; exact ⟨.inr hr.1.symm, hr.2 ▸ h k⟩
  ·simp only [Option.some.injEq, Rs.err.injEq] at hr; exact ⟨.inr hr.1.symm, hr.2 ▸ h (i + 1)⟩
theorem rulsP_err {L : List Wd} {n : Nat} (h : ∀ i, (wdAt L i).at_ ≤ n) (f : Nat) : ∀ (g : Nat) (acc : List (Wd × Pt)) (i e a : Nat), rulsP L f g acc i = some (.err e a) → (e = 3 ∨ e = 7) ∧ a ≤ n
 | 0, acc, i, e, a, hr => by cases hr
 | g + 1, acc, i, e, a, hr => by
  unfold rulsP at hr
  cases hq : rulP L f i with
  | none => rw [hq] at hr; cases hr
  | some r =>
   rw [hq] at hr
   cases r with
   | err b c => simp only [Option.some.injEq, Rs.err.injEq] at hr; obtain ⟨rfl, rfl⟩ := hr; exact rulP_err h hq
   | ok y k =>
    simp only [] at hr
    split at hr
    ·cases hr
    ·exact rulsP_err h f g _ k e a hr
theorem readW_err {L : List Wd} (hW : WsOk L) {n : Nat} (h : ∀ i, (wdAt L i).at_ ≤ n) {e a : Nat} (hr : readW L = .err e a) : (e = 3 ∨ e = 7) ∧ a ≤ n := by
 unfold readW at hr
 cases hq : rulsP L (6 * L.length + 4) (L.length + 1) [] 0 with
 | none => exact absurd hq (rulsP_tot hW _ (Nat.le_refl _) _ _ _ hW.pos (by omega))
 | some r =>
  rw [hq] at hr
  simp only [] at hr
  subst hr
  exact rulsP_err h _ _ _ _ _ _ hq
/-- Why a text is none, and where: a place of it. -/
theorem readT_err {l : List UInt8} {X : List Rr × List Rn} {e a : Nat} (h : readT l = (X, e, a)) (he : e ≠ 0) : X = ([], []) ∧ (e = 3 ∨ e = 7) ∧ a ≤ l.length := by
 unfold readT at h
 cases hw : (wordsOf l).2 with
 | some p =>
  rw [hw] at h
  simp only [Prod.mk.injEq] at h
  obtain ⟨rfl, rfl, rfl⟩ := h
  exact ⟨rfl, .inr rfl, Nat.le_of_lt (wordsF_err _ _ (Nat.zero_le _) (by omega) hw).1⟩
 | none =>
  rw [hw] at h
  have hA := words_at hw
  simp only [] at h
  cases hr : readW (wordsOf l).1 with
  | ok x j => rw [hr] at h; simp only [Prod.mk.injEq] at h; exact absurd h.2.1.symm he
  | err b c =>
   rw [hr] at h
   simp only [Prod.mk.injEq] at h
   obtain ⟨rfl, rfl, rfl⟩ := h
   have := readW_err hA.ok (n := l.length) (fun i => wdAt_le (fun i hi => (hA.at_ i hi).2.1) i) hr
   exact ⟨rfl, this.1, this.2⟩

/-! ### The theorem -/
theorem nameW_ne {c : UInt8} {t : List UInt8} (hc : isLt c = true) : (nameW (c :: t)).tx ≠ [] := by
 have hl : isLD c = true := by unfold isLD; rw [hc]; rfl
 have h1 : (c :: t).takeWhile isLD ≠ [] := by rw [List.takeWhile_cons, if_pos hl]; simp
 unfold nameW
 split
 ·split <;> exact h1
 ·exact h1
theorem wordR_name {l : List UInt8} {r : Wr} (h : wordR l = some r) (hk : r.kind = 2) : r.tx ≠ [] := by
 cases l with
 | nil => simp only [wordR, Option.some.injEq] at h; subst h; cases hk
 | cons c t =>
  simp only [wordR] at h
  split at h
  ·rename_i hc; simp only [Option.some.injEq] at h; subst h; exact nameW_ne hc
  ·split at h
   ·cases hq : qd t.length t with
    | none => rw [hq] at h; cases h
    | some q => rw [hq] at h; simp only [Option.map_some, Option.some.injEq] at h; subst h; cases hk
   ·split at h
    ·cases hq : cd t.length t with
     | none => rw [hq] at h; cases h
     | some q => rw [hq] at h; simp only [Option.map_some, Option.some.injEq] at h; subst h; cases hk
    ·split at h
     ·simp only [Option.some.injEq] at h; subst h; cases hk
     ·split at h
      ·simp only [Option.some.injEq] at h; subst h; cases hk
      ·cases h
theorem nextW_name {l : List UInt8} {k : Nat} {w : Wd} (h : nextW l k = some w) (hk : w.kind = 2) : w.tx ≠ [] := by
 unfold nextW at h
 cases hr : wordR (l.drop (k + skp false (l.drop k))) with
 | none => rw [hr] at h; cases h
 | some r =>
  rw [hr] at h
  simp only [Option.map_some, Option.some.injEq] at h
  subst h
  exact wordR_name hr hk
theorem qd_tx : ∀ (f : Nat) (t : List UInt8) {b : List UInt8} {n : Nat}, qd f t = some (b, n) → b.length ≤ n
 | _, [], _, _, h => by simp [qd] at h
 | 0, _ :: _, _, _, h => by simp [qd] at h
 | f + 1, c :: t, b, n, h => by
  unfold qd at h
  split at h
  ·simp only [Option.some.injEq, Prod.mk.injEq] at h; obtain ⟨rfl, rfl⟩ := h; simp
  ·split at h
   ·cases h
   ·rename_i b1 n1 e
    have hl := rd_len e
    cases hq : qd f ((c :: t).drop n1) with
    | none => rw [hq] at h; cases h
    | some q =>
     rw [hq] at h
     obtain ⟨b2, n2⟩ := q
     simp only [Option.map_some, Option.some.injEq, Prod.mk.injEq] at h
     obtain ⟨rfl, rfl⟩ := h
     have := qd_tx f _ hq
     simp only [List.length_cons]; omega
theorem wordR_tx {s : List UInt8} {r : Wr} (h : wordR s = some r) : r.tx.length ≤ s.length := by
 cases s with
 | nil => simp only [wordR, Option.some.injEq] at h; subst h; simp
 | cons c t =>
  simp only [wordR] at h
  split at h
  ·simp only [Option.some.injEq] at h; subst h
   have h1 := tw_le isLD (c :: t)
   unfold nameW
   split
   ·split <;> (simp only []; omega)
   ·simp only []; omega
  ·split at h
   ·cases hq : qd t.length t with
    | none => rw [hq] at h; cases h
    | some q =>
     rw [hq] at h; simp only [Option.map_some, Option.some.injEq] at h; subst h
     have h1 := qd_tx _ _ hq; have h2 := qd_len _ _ hq
     simp only [List.length_cons]; omega
   ·split at h
    ·cases hq : cd t.length t with
     | none => rw [hq] at h; cases h
     | some q => rw [hq] at h; simp only [Option.map_some, Option.some.injEq] at h; subst h; simp
    ·split at h
     ·rename_i h60
      simp only [Option.some.injEq] at h; subst h
      simp only [Bool.and_eq_true, beq_iff_eq] at h60
      cases t with
      | nil => cases h60.2
      | cons d t => simp
     ·split at h
      ·simp only [Option.some.injEq] at h; subst h; simp
      ·cases h
theorem nextW_tx {l : List UInt8} {k : Nat} {w : Wd} (h : nextW l k = some w) : w.tx.length ≤ l.length := by
 unfold nextW at h
 cases hr : wordR (l.drop (k + skp false (l.drop k))) with
 | none => rw [hr] at h; cases h
 | some r =>
  rw [hr] at h
  simp only [Option.map_some, Option.some.injEq] at h
  subst h
  have := wordR_tx hr
  rw [List.length_drop] at this
  show r.tx.length ≤ _
  omega
/-- What the theorem says of a node. -/
def NodeL (l : List UInt8) (x : Rn) (y : Option Rn) : Prop :=
 x.at_ < l.length ∧ ((x.nm ≠ []) ↔ x.kind = 5) ∧ (∃ w, nextW l x.at_ = some w ∧ w.at_ = x.at_ ∧ (x.kind = 5 → w.tx = x.nm) ∧ (x.kind = 4 → w.tx = x.tx)) ∧ ((x.kind = 6 ∨ x.kind = 7) → 2 ≤ x.kids.length ∧ ∃ z, y = some z ∧ z.at_ = x.at_) ∧ x.tx.length ≤ l.length
theorem NodeOk.text {l : List UInt8} {L : List Wd} (hA : WsAt l 0 L) {x : Rn} {y : Option Rn} (h : NodeOk L x y) : NodeL l x y := by
 obtain ⟨i, h1, h2, h3, h4, h5, h6⟩ := h
 have hi : i < L.length := by omega
 obtain ⟨a1, a2, a3, a4, a5, a6, a7, a8⟩ := hA.at_ i hi
 have hw := wdAt_in hi
 rw [hw] at h2 h3 h5
 have hlt : L[i].at_ < l.length := by
  have : L[i].at_ ≠ l.length := fun e => by have := a4.1 (a8.2 e); omega
  omega
 refine ⟨by rw [h2]; exact hlt, ⟨fun hn => ?_, fun hk => ?_⟩, ⟨L[i], by rw [h2]; exact a3, h2.symm, fun hk => (h3 hk).1.symm, fun hk => by rw [h5, if_pos hk]⟩, h6, ?_⟩
 ·rcases Nat.decEq x.kind 5 with h | h
  ·exact absurd (h4 h) hn
  ·exact h
 ·rw [(h3 hk).1]
  exact nextW_name a3 (h3 hk).2
 ·rw [h5]
  split
  ·exact nextW_tx a3
  ·simp
theorem at_up {l : List UInt8} {L : List Wd} (hA : WsAt l 0 L) : ∀ (d i : Nat), i + d + 1 < L.length → (wdAt L i).at_ < (wdAt L (i + d + 1)).at_
 | 0, i, h => by
  rw [wdAt_in (by omega), wdAt_in (by omega)]
  have := hA.up i h
  simp only [Nat.add_zero]; omega
 | d + 1, i, h => by
  have h1 := at_up hA d i (by omega)
  have h2 := at_up hA 0 (i + d + 1) (by omega)
  rw [show i + (d + 1) + 1 = i + d + 1 + 0 + 1 by omega]
  omega
theorem at_lt {l : List UInt8} {L : List Wd} (hA : WsAt l 0 L) {i j : Nat} (h : i < j) (hj : j < L.length) : (wdAt L i).at_ < (wdAt L j).at_ := by
 have := at_up hA (j - i - 1) i (by omega)
 rwa [show i + (j - i - 1) + 1 = j by omega] at this
/-- A tree's nodes stand in preorder. -/
theorem preorder {l : List UInt8} {R : List Rr} {N : List Rn} {a : Nat} (h : readT l = ((R, N), 0, a)) :
  a = 0 ∧ R ≠ [] ∧ KidsUp N ∧ (∀ r ∈ R, r.body < N.length) ∧ ∃ E : Nat → Nat, (∀ n (hn : n < N.length), Chn E (n + 1) N[n].kids (E n) ∧ E n ≤ N.length ∧ NodeL l N[n] N[n + 1]?) ∧ Chn E 0 (R.map (·.body)) N.length ∧
   (∀ r ∈ R, r.at_ ≤ l.length ∧ ∃ w, nextW l r.at_ = some w ∧ w.tx = r.nm) ∧ (∀ i (hi : i + 1 < R.length), R[i].at_ < R[i + 1].at_) := by
 unfold readT at h
 cases hw : (wordsOf l).2 with
 | some p => rw [hw] at h; simp at h
 | none =>
  rw [hw] at h
  have hA := words_at hw
  simp only [] at h
  cases hr : readW (wordsOf l).1 with
  | err b c =>
   rw [hr] at h
   simp only [Prod.mk.injEq] at h
   have := (readW_err hA.ok (n := l.length) (fun i => wdAt_le (fun i hi => (hA.at_ i hi).2.1) i) hr).1
   omega
  | ok x j =>
   rw [hr] at h
   simp only [Prod.mk.injEq] at h
   obtain ⟨ht, -, ha⟩ := h
   obtain ⟨hx, hR⟩ := readW_ok hA.ok hr
   obtain ⟨t1, t2, t3, t4⟩ := treeF_is 0 x
   rw [ht] at t1 t2 t3 t4
   simp only at t1 t2 t3 t4
   have hlen : R.length = x.length := by have := congrArg List.length t4; simpa using this
   have hnl : N.length = szL (x.map (·.2)) := by rw [t1, flatL_len]
   refine ⟨ha.symm, fun e => hx (by rw [e] at hlen; exact List.eq_nil_of_length_eq_zero (by simpa using hlen.symm)), ?_, ?_, endE (szsL (x.map (·.2))), ?_, ?_, ?_, ?_⟩
   ·have := tree_up x; rw [ht] at this; exact this
   ·intro r hr'
    have := treeF_body 0 x r (by rw [ht]; exact hr')
    rw [ht] at this
    simpa using this.2
   ·intro n hn
    have hn' : n < (flatL 0 (x.map (·.2))).length := t1 ▸ hn
    have c1 := flatL_chn (S := szsL (x.map (·.2))) 0 (x.map (·.2)) [] (by simp) n hn'
    have c2 := (flatL_ok 0 _ hR.wf n hn').text hA
    subst t1
    simp only [Nat.zero_add] at c1
    exact ⟨c1.1, by rw [hnl]; exact c1.2, c2⟩
   ·have := kidsAt_chn (S := szsL (x.map (·.2))) 0 (x.map (·.2)) [] (by simp)
    rw [t2, hnl]
    simpa using this
   ·intro r hr'
    obtain ⟨i, hi, rfl⟩ := List.mem_iff_getElem.1 hr'
    have e1 : R[i].at_ = (x[i]'(by omega)).1.at_ := by
     have := congrArg (fun l => l[i]?) t4
     simpa [hi, show i < x.length by omega] using this
    have e2 : R[i].nm = (x[i]'(by omega)).1.tx := by
     have := congrArg (fun l => l[i]?) t3
     simpa [hi, show i < x.length by omega] using this
    obtain ⟨k, k1, k2, k3, k4⟩ := hR.nm x[i] (List.getElem_mem _)
    have hk : k < (wordsOf l).1.length := by omega
    refine ⟨?_, (wordsOf l).1[k], ?_, ?_⟩
    ·rw [e1, k3, wdAt_in hk]; exact (hA.at_ k hk).2.1
    ·rw [e1, k3, wdAt_in hk]; exact (hA.at_ k hk).2.2.1
    ·rw [e2, k3, wdAt_in hk]
   ·intro i hi
    have e1 : ∀ m (h : m < R.length), R[m].at_ = (x[m]'(by omega)).1.at_ := fun m hm => by
     have := congrArg (fun l => l[m]?) t4
     simpa [hm, show m < x.length by omega] using this
    obtain ⟨a, b, h1, h2, h3, h4⟩ := hR.up i (by omega)
    rw [e1 i (by omega), e1 (i + 1) hi, h3, h4]
    exact at_lt hA h1 (by omega)
end Go.Proofs.YthfefbmkgebmkaaGreatDoor
