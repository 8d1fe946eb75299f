/- Plain: what the program's functions compute is what the reference's compute. -/
import Derived.Test.YtbndpmfekglnkaaPlP
namespace Go.Proofs.Ytbndpmfekglnkaa

/-- How deep one stands behind r; none if it ever was below 0. -/
def depA : List Int → Int → Option Int
  | [], o => if o < 0 then none else some o
  | x :: r, o => if o < 0 then none else depA r (if x = 1 then o + 1 else if x = 8 then o - 1 else o)
def stp (e d : Int) : Int := if e = 1 then d + 1 else if e = 8 then d - 1 else d

theorem depA_snoc : ∀ (r : List Int) (e o : Int), depA (r ++ [e]) o = (depA r o).bind fun d => if stp e d < 0 then none else some (stp e d)
  | [], e, o => by
    simp only [List.nil_append, depA, stp]
    split <;> first | rfl | (simp; rfl)
  | x :: r, e, o => by
    simp only [List.cons_append, depA]
    split
    · rfl
    · exact depA_snoc r e _

theorem ownGo_snoc : ∀ (r : List Int) (e o : Int), ownGo (r ++ [e]) o = ownGo r o ++ (match depA r o with | some d => if (e = 2 ∨ e = 3) ∧ d = 0 then [e] else [] | none => [])
  | [], e, o => by
    simp only [List.nil_append, ownGo, depA]
    by_cases ho : o < 0
    · simp [ho]
    · simp only [ho, if_false]
      by_cases h1 : e = 1
      · subst h1; simp
      · by_cases h8 : e = 8
        · subst h8; simp
        · simp only [h1, h8, if_false]
  | x :: r, e, o => by
    simp only [List.cons_append, ownGo, depA]
    by_cases ho : o < 0
    · simp [ho]
    · simp only [ho, if_false]
      by_cases h1 : x = 1
      · simp only [h1, if_true]; exact ownGo_snoc r e _
      · by_cases h8 : x = 8
        · simp only [h8, if_true]; exact ownGo_snoc r e _
        · simp only [h1, h8, if_false]
          split
          · rw [ownGo_snoc r e _]; rfl
          · exact ownGo_snoc r e _

def depR (l : List Int) (i : Nat) : Option Int := depA (l.drop (i + 1)) 0
theorem drop_snoc (l : List Int) (e : Int) (i : Nat) (h : i < l.length) : (l ++ [e]).drop (i + 1) = l.drop (i + 1) ++ [e] := by
  rw [List.drop_append_of_le_length (by omega)]
theorem depR_snoc (l : List Int) (e : Int) (i : Nat) (h : i < l.length) : depR (l ++ [e]) i = (depR l i).bind fun d => if stp e d < 0 then none else some (stp e d) := by
  unfold depR; rw [drop_snoc l e i h, depA_snoc]
theorem ownR_snoc (l : List Int) (e : Int) (i : Nat) (h : i < l.length) : ownR (l ++ [e]) i = ownR l i ++ (match depR l i with | some d => if (e = 2 ∨ e = 3) ∧ d = 0 then [e] else [] | none => []) := by
  unfold ownR depR; rw [drop_snoc l e i h, ownGo_snoc]
theorem depR_new (l : List Int) (e : Int) : depR (l ++ [e]) l.length = some 0 := by
  unfold depR; rw [List.drop_of_length_le (by simp)]; rfl
theorem ownR_new (l : List Int) (e : Int) : ownR (l ++ [e]) l.length = [] := by
  unfold ownR; rw [List.drop_of_length_le (by simp)]; rfl

/-- The state of an activation with these own events. -/
def stt (o : List Int) : Int := if o = [] then 1 else o.getLastD 0
theorem stt_snoc (o : List Int) (e : Int) : stt (o ++ [e]) = e := by simp [stt]

/-- The greatest number of bodies. -/
def mostF (l : List Int) : Nat → Nat → Int → Int
  | 0, _, m => m
  | f + 1, n, m => mostF l f (n + 1) (if n < l.length ∧ l.getD n 0 = 1 then max m (bodiesR (ownR l n) : Int) else m)
def pkF (a b : Int) (l : List Int) : Nat → Nat → Int → Int
  | 0, _, p => p
  | f + 1, n, p => pkF a b l f (n + 1) (max p ((cnt a (l.take n) : Int) - cnt b (l.take n)))
theorem peaksR_eq (l : List Int) : ∀ (f n : Nat) (p d m : Int), peaksR l f n (p, d, m) = (pkF 6 7 l f n p, pkF 1 8 l f n d, mostF l f n m)
  | 0, _, _, _, _ => rfl
  | f + 1, n, p, d, m => by
    show peaksR l f (n + 1) _ = _
    rw [peaksR_eq l f (n + 1)]; rfl

theorem pkF_snoc (a b : Int) (l : List Int) (e : Int) : ∀ (f n : Nat) (p : Int), n + f ≤ l.length + 1 → pkF a b (l ++ [e]) f n p = pkF a b l f n p
  | 0, _, _, _ => rfl
  | f + 1, n, p, h => by
    simp only [pkF]
    rw [List.take_append_of_le_length (by omega)]
    exact pkF_snoc a b l e f (n + 1) _ (by omega)
theorem pkF_add (a b : Int) (l : List Int) : ∀ (f g n : Nat) (p : Int), pkF a b l (f + g) n p = pkF a b l g (n + f) (pkF a b l f n p)
  | 0, g, n, p => by simp [pkF]
  | f + 1, g, n, p => by
    rw [show f + 1 + g = (f + g) + 1 by omega]
    simp only [pkF]
    rw [pkF_add a b l f g (n + 1)]
    congr 1; omega
theorem pkF_new (a b : Int) (l : List Int) (e : Int) : pkF a b (l ++ [e]) ((l ++ [e]).length + 1) 0 0 = max (pkF a b l (l.length + 1) 0 0) ((cnt a (l ++ [e]) : Int) - cnt b (l ++ [e])) := by
  rw [show (l ++ [e]).length + 1 = (l.length + 1) + 1 by simp, pkF_add, pkF_snoc a b l e (l.length + 1) 0 0 (by omega)]
  show max _ ((cnt a ((l ++ [e]).take (0 + (l.length + 1))) : Int) - cnt b ((l ++ [e]).take (0 + (l.length + 1)))) = _
  rw [List.take_of_length_le (by simp)]

/-- mostF as a least upper bound. -/
theorem mostF_ge (l : List Int) : ∀ (f n : Nat) (m : Int), m ≤ mostF l f n m
  | 0, _, _ => Int.le_refl _
  | f + 1, n, m => by
    simp only [mostF]
    refine Int.le_trans ?_ (mostF_ge l f (n + 1) _)
    split <;> omega
theorem mostF_ub (l : List Int) : ∀ (f n : Nat) (m : Int) (i : Nat), n ≤ i → i < n + f → i < l.length → l.getD i 0 = 1 → (cnt 2 (ownR l i) : Int) ≤ mostF l f n m
  | 0, n, m, i, h1, h2, _, _ => by omega
  | f + 1, n, m, i, h1, h2, h3, h4 => by
    simp only [mostF]
    by_cases hin : i = n
    · subst hin
      rw [if_pos ⟨h3, h4⟩]
      exact Int.le_trans (by unfold bodiesR; omega) (mostF_ge l f (i + 1) _)
    · exact mostF_ub l f (n + 1) _ i (by omega) (by omega) h3 h4
theorem mostF_lub (l : List Int) (M : Int) (hM : ∀ i, i < l.length → l.getD i 0 = 1 → (cnt 2 (ownR l i) : Int) ≤ M) : ∀ (f n : Nat) (m : Int), m ≤ M → mostF l f n m ≤ M
  | 0, _, _, h => h
  | f + 1, n, m, h => by
    simp only [mostF]
    refine mostF_lub l M hM f (n + 1) _ ?_
    split
    · rename_i hc; have := hM n hc.1 hc.2; unfold bodiesR; omega
    · exact h
def mostR (l : List Int) : Int := mostF l (l.length + 1) 0 0
theorem mostR_is (l : List Int) (M : Int) (h0 : 0 ≤ M) (hM : ∀ i, i < l.length → l.getD i 0 = 1 → (cnt 2 (ownR l i) : Int) ≤ M) (hA : M = 0 ∨ ∃ i, i < l.length ∧ l.getD i 0 = 1 ∧ (cnt 2 (ownR l i) : Int) = M) : mostR l = M := by
  apply Int.le_antisymm
  · exact mostF_lub l M hM _ _ _ h0
  · rcases hA with rfl | ⟨i, h1, h2, h3⟩
    · exact mostF_ge _ _ _ _
    · rw [← h3]; exact mostF_ub l _ _ _ i (Nat.zero_le _) (by omega) h1 h2

/-- What holds of a right trace l, its meter, and where the open activations were begun, the innermost first. -/
structure Jn (l : List Int) (m : Mt) (st : List Nat) : Prop where
  cs : m.a1 = cnt 1 l ∧ m.a2 = cnt 2 l ∧ m.a3 = cnt 3 l ∧ m.a4 = cnt 4 l ∧ m.a5 = cnt 5 l ∧ m.a6 = cnt 6 l ∧ m.a7 = cnt 7 l ∧ m.a8 = cnt 8 l
  lv : cnt 7 l ≤ cnt 6 l
  dl : (st.length : Int) = (cnt 1 l : Int) - cnt 8 l
  fr : m.opn.reverse = st.map fun i => (stt (ownR l i), (cnt 2 (ownR l i) : Int))
  inn : ∀ s, innerGo l.reverse s = (match st[s]? with | some i => (i : Int) | none => -1)
  at1 : ∀ (j i : Nat), st[j]? = some i → i < l.length ∧ l.getD i 0 = 1 ∧ depR l i = some (j : Int)
  at2 : ∀ (i : Nat) (d : Int), i < l.length → l.getD i 0 = 1 → depR l i = some d → ∃ j : Nat, d = j ∧ st[j]? = some i
  pk : m.pk = pkF 6 7 l (l.length + 1) 0 0
  dp : m.dp = pkF 1 8 l (l.length + 1) 0 0
  m0 : 0 ≤ m.ms
  mu : ∀ i, i < l.length → l.getD i 0 = 1 → (cnt 2 (ownR l i) : Int) ≤ m.ms
  ma : m.ms = 0 ∨ ∃ i, i < l.length ∧ l.getD i 0 = 1 ∧ (cnt 2 (ownR l i) : Int) = m.ms

theorem Jn.zero : Jn [] Mt.zero [] := by
  refine ⟨by decide, by decide, by decide, rfl, fun s => rfl, ?_, ?_, rfl, rfl, by decide, ?_, .inl rfl⟩
  · intro j i h; simp at h
  · intro i d h; simp at h
  · intro i h; simp at h

theorem Jn.now {l : List Int} {m : Mt} {st : List Nat} (h : Jn l m st) : m.now = stateR l := by
  have hin := h.inn 0
  have hfr := h.fr
  unfold stateR innerR
  cases st with
  | nil =>
    have hop : m.opn = [] := by simpa using hfr
    rw [hin]; simp [Mt.now, hop]
  | cons i r =>
    simp only [List.getElem?_cons_zero] at hin
    rw [hin]
    have hl : m.opn.getLast? = some (stt (ownR l i), (cnt 2 (ownR l i) : Int)) := by
      rw [← List.head?_reverse, hfr]; rfl
    rw [if_neg (Int.not_lt.2 (Int.natCast_nonneg i)), Int.toNat_natCast]
    simp only [Mt.now, hl]
    rfl

theorem Jn.may {l : List Int} {m : Mt} {st : List Nat} (h : Jn l m st) (e : Int) (h1 : 1 ≤ e) (h8 : e ≤ 8) : m.check e = if mayR l e = false then 13 else 0 := by
  have hnow := h.now
  have hb := h.cs
  have hlv := h.lv
  unfold Mt.check mayR
  rw [if_neg (by omega)]
  by_cases h7 : e = 7
  · subst h7
    have hl : m.live = (cnt 6 l : Int) - cnt 7 l := by unfold Mt.live; omega
    rw [if_pos rfl, hl]
    by_cases hc : cnt 7 l < cnt 6 l
    · rw [if_neg (by omega)]; simp [hc]
    · rw [if_pos (by omega)]; simp [hc]
  · rw [if_neg h7]
    have : mayM e m.now = (if e = 1 ∨ e = 5 then stateR l == 0 || stateR l == 2 else if e = 2 then stateR l == 1 || stateR l == 3 else if e = 3 ∨ e = 4 then stateR l == 2 else if e = 6 ∨ e = 8 then stateR l == 2 || stateR l == 3 else decide (cnt 7 l < cnt 6 l)) := by
      rw [hnow]; unfold mayM
      have : e = 1 ∨ e = 2 ∨ e = 3 ∨ e = 4 ∨ e = 5 ∨ e = 6 ∨ e = 8 := by omega
      rcases this with rfl | rfl | rfl | rfl | rfl | rfl | rfl <;> rfl
    rw [this]

/-- An event that is neither Call nor End turns no depth. -/
theorem dep_same (l : List Int) (e : Int) (h1 : e ≠ 1) (h8 : e ≠ 8) (i : Nat) (hi : i < l.length) (hd : ∀ d, depR l i = some d → 0 ≤ d) : depR (l ++ [e]) i = depR l i := by
  rw [depR_snoc l e i hi]
  cases hdd : depR l i with
  | none => rfl
  | some d => have := hd d hdd; simp [stp, h1, h8, show ¬ d < 0 by omega]
theorem depA_nonneg : ∀ (r : List Int) (o d : Int), depA r o = some d → 0 ≤ d
  | [], o, d, h => by
    simp only [depA] at h
    split at h
    · cases h
    · cases h; omega
  | x :: r, o, d, h => by
    simp only [depA] at h
    split at h
    · cases h
    · exact depA_nonneg r _ d h
theorem depR_nonneg (l : List Int) (i : Nat) (d : Int) (h : depR l i = some d) : 0 ≤ d := depA_nonneg _ _ _ h
theorem getD_snoc (l : List Int) (e : Int) (i : Nat) (h : i < l.length) : (l ++ [e]).getD i 0 = l.getD i 0 := by
  simp [List.getD_eq_getElem?_getD, List.getElem?_append_left h]
theorem getD_last (l : List Int) (e : Int) : (l ++ [e]).getD l.length 0 = e := by simp [List.getD_eq_getElem?_getD]

/-- Own events of another activation than the innermost open one stay. -/
theorem own_other (l : List Int) (e : Int) (i : Nat) (hi : i < l.length) (h : (e ≠ 2 ∧ e ≠ 3) ∨ depR l i ≠ some 0) : ownR (l ++ [e]) i = ownR l i := by
  rw [ownR_snoc l e i hi]
  cases hd : depR l i with
  | none => simp
  | some d =>
    rcases h with h | h
    · simp [h.1, h.2]
    · rw [hd] at h; simp only [ne_eq, Option.some.injEq] at h; simp [h]
theorem own_top (l : List Int) (e : Int) (i : Nat) (hi : i < l.length) (h : e = 2 ∨ e = 3) (hd : depR l i = some 0) : ownR (l ++ [e]) i = ownR l i ++ [e] := by
  rw [ownR_snoc l e i hi, hd]; simp [h]
end Go.Proofs.Ytbndpmfekglnkaa
