/- Plain: what is written is tidy; what is read, written, is no longer. -/
import Derived.Test.YtnfkcdnkmcifbaaDoorPa
namespace Go.Proofs.YtnfkcdnkmcifbaaDoor

theorem esc_one {p : Int} (hp : isPl p = true) {t : List UInt8} {b : UInt8} {n : Nat} (h : esc t = some (b, n)) : (one p b).length ≤ n := by
  have h4 : (one p b).length ≤ 4 := by
    rcases spec_alt p hp with rfl | rfl
    · exact u8_all (P := fun c => (one 1 c).length ≤ 4) (by decide +kernel) b
    · exact u8_all (P := fun c => (one 2 c).length ≤ 4) (by decide +kernel) b
  have h2 : b = 10 ∨ b = 13 ∨ b = 9 ∨ b = 92 ∨ b = 34 ∨ b = 93 ∨ b = 45 → (one p b).length ≤ 2 := by
    rcases spec_alt p hp with rfl | rfl
    · exact u8_all (P := fun c => c = 10 ∨ c = 13 ∨ c = 9 ∨ c = 92 ∨ c = 34 ∨ c = 93 ∨ c = 45 → (one 1 c).length ≤ 2) (by decide +kernel) b
    · exact u8_all (P := fun c => c = 10 ∨ c = 13 ∨ c = 9 ∨ c = 92 ∨ c = 34 ∨ c = 93 ∨ c = 45 → (one 2 c).length ≤ 2) (by decide +kernel) b
  unfold esc at h
  split at h
  · cases h
  rename_i d t
  split at h; · cases h; exact h2 (by simp)
  split at h; · cases h; exact h2 (by simp)
  split at h; · cases h; exact h2 (by simp)
  split at h; · rename_i g; cases h; apply h2; simp at g; rcases g with ((g | g) | g) | g <;> simp [g]
  split at h
  · split at h
    · split at h
      · cases h; exact h4
      · cases h
    · cases h
  · cases h
theorem rd_one_le {p : Int} (hp : isPl p = true) {s : List UInt8} {b : UInt8} {n : Nat} (h : rd p s = some (b, n)) : (one p b).length ≤ n := by
  unfold rd at h
  split at h
  · cases h
  split at h; · cases h
  split at h
  · rename_i g1 g2; cases h
    unfold one
    rw [if_neg (by rw [hp]; decide), if_pos g2]; simp
  split at h
  · exact esc_one hp h
  · cases h
theorem decode_shorter {p : Int} (hp : isPl p = true) : ∀ (k : Nat) (s : List UInt8), s.length ≤ k → (all p (decode p s).1).length ≤ s.length
  | 0, s, h => by
    have : s = [] := List.eq_nil_of_length_eq_zero (by omega)
    subst this; simp [decode_nil, all_nil]
  | k + 1, s, h => by
    by_cases hs : s = []
    · subst hs; simp [decode_nil, all_nil]
    · cases hr : rd p s with
      | none => rw [decode_none hs hr]; simp [all_nil]
      | some q =>
        obtain ⟨b, n⟩ := q
        have hl := rd_len hr
        rw [decode_some hr]
        have ih := decode_shorter hp k (s.drop n) (by rw [List.length_drop]; omega)
        rw [List.length_drop] at ih
        have h1 := rd_one_le hp hr
        rw [all_cons, List.length_append]; omega

/-- Written bytes alone; the one that ends a place stands behind a backslash. -/
def tidy (e : UInt8) : UInt8 → List UInt8 → Bool
  | _, [] => true
  | q, c :: t => decide (32 ≤ c) && decide (c ≤ 126) && (c != e || q == 92) && tidy e c t
def lst : UInt8 → List UInt8 → UInt8
  | q, [] => q
  | _, c :: t => lst c t
theorem tidy_app (e : UInt8) : ∀ (a : List UInt8) (q : UInt8) (b : List UInt8), tidy e q (a ++ b) = (tidy e q a && tidy e (lst q a) b)
  | [], q, b => by simp [tidy, lst]
  | c :: a, q, b => by simp only [List.cons_append, tidy, lst, tidy_app e a c b, Bool.and_assoc]
/-- Nothing is asked of the byte ahead where no byte is the end. -/
theorem tidy_weak (e : UInt8) : ∀ (a : List UInt8) (q : UInt8), tidy e 0 a = true → tidy e q a = true
  | [], _, _ => rfl
  | c :: a, q, h => by
    simp only [tidy, Bool.and_eq_true, Bool.or_eq_true] at h ⊢
    refine ⟨⟨h.1.1, ?_⟩, h.2⟩
    rcases h.1.2 with g | g
    · exact .inl g
    · exact absurd g (by decide)
theorem tidy_one (c : UInt8) : tidy 34 0 (one 1 c) = true ∧ tidy 93 0 (one 2 c) = true :=
  u8_all (P := fun c => tidy 34 0 (one 1 c) = true ∧ tidy 93 0 (one 2 c) = true) (by decide +kernel) c
theorem tidy_all {p : Int} {e : UInt8} (h : (p = 1 ∧ e = 34) ∨ (p = 2 ∧ e = 93)) : ∀ (l : List UInt8) (q : UInt8), tidy e q (all p l) = true
  | [], _ => rfl
  | c :: l, q => by
    rw [all_cons, tidy_app, tidy_all h l _, Bool.and_true]
    apply tidy_weak
    rcases h with ⟨rfl, rfl⟩ | ⟨rfl, rfl⟩
    · exact (tidy_one c).1
    · exact (tidy_one c).2
theorem tidy_at {e : UInt8} : ∀ {t : List UInt8} {q : UInt8}, tidy e q t = true → ∀ (i : Nat) (c : UInt8), t[i]? = some c → 32 ≤ c ∧ c ≤ 126 ∧ (c = e → (i = 0 ∧ q = 92) ∨ (0 < i ∧ t[i - 1]? = some 92))
  | [], _, _, i, c, hc => by simp at hc
  | d :: t, q, h, 0, c, hc => by
    simp only [tidy, Bool.and_eq_true, Bool.or_eq_true, decide_eq_true_eq] at h
    simp only [List.getElem?_cons_zero, Option.some.injEq] at hc
    subst hc
    refine ⟨h.1.1.1, h.1.1.2, fun g => .inl ⟨rfl, ?_⟩⟩
    rcases h.1.2 with k | k
    · exact absurd g (by simpa using k)
    · simpa using k
  | d :: t, q, h, i + 1, c, hc => by
    simp only [tidy, Bool.and_eq_true] at h
    simp only [List.getElem?_cons_succ] at hc
    obtain ⟨h1, h2, h3⟩ := tidy_at h.2 i c hc
    refine ⟨h1, h2, fun g => .inr ⟨by omega, ?_⟩⟩
    rcases h3 g with ⟨rfl, hd⟩ | ⟨hi, hg⟩
    · simp [hd]
    · obtain ⟨j, rfl⟩ : ∃ j, i = j + 1 := ⟨i - 1, by omega⟩
      simpa using hg
/-- What EscapeBack asks of each byte that is written. -/
theorem all_at {p : Int} {e : UInt8} (h : (p = 1 ∧ e = 34) ∨ (p = 2 ∧ e = 93)) (l : List UInt8) (i : Nat) (c : UInt8) (hc : (all p l)[i]? = some c) :
    32 ≤ c ∧ c ≤ 126 ∧ (c = e → 0 < i ∧ (all p l)[i - 1]? = some 92) := by
  obtain ⟨h1, h2, h3⟩ := tidy_at (tidy_all h l 0) i c hc
  refine ⟨h1, h2, fun g => ?_⟩
  rcases h3 g with ⟨_, k⟩ | k
  · exact absurd k (by decide)
  · exact k
end Go.Proofs.YtnfkcdnkmcifbaaDoor
