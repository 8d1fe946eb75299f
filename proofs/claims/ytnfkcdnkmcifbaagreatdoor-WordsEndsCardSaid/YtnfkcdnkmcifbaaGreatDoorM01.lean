/- Walks and plain laws: Pa E1. -/
import Derived.Test.YtnfkcdnkmcifbaaGreatDoorChecked
import Derived.WalkKit
namespace Go.Proofs.YtnfkcdnkmcifbaaGreatDoor

/-- Is it a place? -/
def isPl (p : Int) : Bool := p == 1 || p == 2
/-- A byte that may not stand for itself. -/
def spec (p : Int) (c : UInt8) : Bool := decide (c < 32) || decide (126 < c) || c == 92 || (p == 1 && c == 34) || (p == 2 && (c == 93 || c == 45))
/-- A digit to base 16, written. -/
def dig (n : UInt8) : UInt8 := if n < 10 then 48 + n else 87 + n
/-- A byte, written. -/
def one (p : Int) (c : UInt8) : List UInt8 :=
  if !isPl p then [] else if !spec p c then [c] else if c == 10 then [92, 110] else if c == 13 then [92, 114] else if c == 9 then [92, 116]
  else if decide (32 ≤ c) && decide (c ≤ 126) then [92, c] else [92, 120, dig (c / 16), dig (c % 16)]
/-- Bytes, written. -/
def all (p : Int) (l : List UInt8) : List UInt8 := l.flatMap (one p)
/-- The number of a digit to base 16; none: it is no digit. -/
def hexv (c : UInt8) : Option UInt8 :=
  if decide (48 ≤ c) && decide (c ≤ 57) then some (c - 48) else if decide (97 ≤ c) && decide (c ≤ 102) then some (c - 87) else if decide (65 ≤ c) && decide (c ≤ 70) then some (c - 55) else none
/-- What stands behind a backslash. -/
def esc : List UInt8 → Option (UInt8 × Nat)
  | [] => none
  | d :: t =>
    if d == 110 then some (10, 2) else if d == 114 then some (13, 2) else if d == 116 then some (9, 2)
    else if d == 92 || d == 34 || d == 93 || d == 45 then some (d, 2)
    else if d == 120 then (match t with
      | a :: b :: _ => (match hexv a, hexv b with | some x, some y => some (16 * x + y, 4) | _, _ => none)
      | _ => none)
    else none
/-- A byte, read; how long it is. -/
def rd (p : Int) : List UInt8 → Option (UInt8 × Nat)
  | [] => none
  | c :: t => if !isPl p then none else if !spec p c then some (c, 1) else if c == 92 then esc t else none
/-- What is read, how far, and whether it is all. -/
def dec (p : Int) : Nat → List UInt8 → List UInt8 × Nat × Bool
  | _, [] => ([], 0, true)
  | 0, _ :: _ => ([], 0, false)
  | f + 1, c :: t => match rd p (c :: t) with
    | none => ([], 0, false)
    | some (b, n) => (b :: (dec p f ((c :: t).drop n)).1, n + (dec p f ((c :: t).drop n)).2.1, (dec p f ((c :: t).drop n)).2.2)

theorem esc_len {t : List UInt8} {b : UInt8} {n : Nat} (h : esc t = some (b, n)) : 2 ≤ n ∧ n ≤ t.length + 1 := by
  unfold esc at h
  split at h
  · cases h
  rename_i d t
  split at h; · cases h; simp
  split at h; · cases h; simp
  split at h; · cases h; simp
  split at h; · cases h; simp
  split at h
  · split at h
    · split at h
      · cases h; simp
      · cases h
    · cases h
  · cases h
theorem rd_len {p : Int} {s : List UInt8} {b : UInt8} {n : Nat} (h : rd p s = some (b, n)) : 1 ≤ n ∧ n ≤ s.length := by
  unfold rd at h
  split at h
  · cases h
  split at h; · cases h
  split at h; · cases h; simp
  split at h
  · have := esc_len h; simp only [List.length_cons]; omega
  · cases h
theorem esc_app {t : List UInt8} {b : UInt8} {n : Nat} (u : List UInt8) (h : esc t = some (b, n)) : esc (t ++ u) = some (b, n) := by
  cases t with
  | nil => cases h
  | cons d t =>
    simp only [List.cons_append]
    unfold esc at h ⊢
    simp only [] at h ⊢
    split at h; · rename_i g; rw [if_pos g]; exact h
    rename_i g; rw [if_neg g]
    split at h; · rename_i g; rw [if_pos g]; exact h
    rename_i g; rw [if_neg g]
    split at h; · rename_i g; rw [if_pos g]; exact h
    rename_i g; rw [if_neg g]
    split at h; · rename_i g; rw [if_pos g]; exact h
    rename_i g; rw [if_neg g]
    split at h
    · rename_i g; rw [if_pos g]
      cases t with
      | nil => cases h
      | cons a t =>
        cases t with
        | nil => cases h
        | cons b t => exact h
    · cases h
theorem rd_app {p : Int} {s : List UInt8} {b : UInt8} {n : Nat} (u : List UInt8) (h : rd p s = some (b, n)) : rd p (s ++ u) = some (b, n) := by
  cases s with
  | nil => cases h
  | cons c t =>
    simp only [List.cons_append]
    unfold rd at h ⊢
    simp only [] at h ⊢
    split at h; · cases h
    rename_i g; rw [if_neg g]
    split at h; · rename_i g; rw [if_pos g]; exact h
    rename_i g; rw [if_neg g]
    split at h
    · rename_i g; rw [if_pos g]; exact esc_app u h
    · cases h
theorem dec_fuel (p : Int) : ∀ (f g : Nat) (s : List UInt8), s.length ≤ f → s.length ≤ g → dec p f s = dec p g s
  | f, g, [], _, _ => by cases f <;> cases g <;> rfl
  | 0, _, c :: t, h, _ => by simp at h
  | _, 0, c :: t, _, h => by simp at h
  | f + 1, g + 1, c :: t, h1, h2 => by
    unfold dec
    split
    · rfl
    · rename_i b n e
      have hl := rd_len e
      have hd : ((c :: t).drop n).length ≤ t.length := by rw [List.length_drop]; simp only [List.length_cons] at hl ⊢; omega
      have h1' : t.length ≤ f := by simpa using h1
      have h2' : t.length ≤ g := by simpa using h2
      rw [dec_fuel p f g ((c :: t).drop n) (by omega) (by omega)]
/-- What is read of a text. -/
def decode (p : Int) (s : List UInt8) : List UInt8 × Nat × Bool := dec p s.length s
theorem decode_nil (p : Int) : decode p [] = ([], 0, true) := rfl
theorem decode_none {p : Int} {s : List UInt8} (hs : s ≠ []) (h : rd p s = none) : decode p s = ([], 0, false) := by
  cases s with
  | nil => exact absurd rfl hs
  | cons c t =>
    unfold decode
    rw [List.length_cons]
    unfold dec
    rw [h]
theorem decode_some {p : Int} {s : List UInt8} {b : UInt8} {n : Nat} (h : rd p s = some (b, n)) : decode p s = (b :: (decode p (s.drop n)).1, n + (decode p (s.drop n)).2.1, (decode p (s.drop n)).2.2) := by
  cases s with
  | nil => cases h
  | cons c t =>
    have hl := rd_len h
    unfold decode
    rw [List.length_cons]
    conv => lhs; unfold dec
    rw [h]
    simp only []
    rw [dec_fuel p t.length ((c :: t).drop n).length ((c :: t).drop n) (by rw [List.length_drop]; simp only [List.length_cons] at hl ⊢; omega) (Nat.le_refl _)]
theorem decode_le (p : Int) : ∀ (k : Nat) (s : List UInt8), s.length ≤ k → (decode p s).2.1 ≤ s.length ∧ ((decode p s).2.2 = false → (decode p s).2.1 < s.length) ∧ ((decode p s).2.2 = true → (decode p s).2.1 = s.length)
  | 0, s, h => by
    have : s = [] := List.eq_nil_of_length_eq_zero (by omega)
    subst this; simp [decode_nil]
  | k + 1, s, h => by
    by_cases hs : s = []
    · subst hs; simp [decode_nil]
    · cases hr : rd p s with
      | none => rw [decode_none hs hr]; simpa using List.length_pos_iff.2 hs
      | some q =>
        obtain ⟨b, n⟩ := q
        have hl := rd_len hr
        rw [decode_some hr]
        have ih := decode_le p k (s.drop n) (by rw [List.length_drop]; omega)
        rw [List.length_drop] at ih
        refine ⟨?_, fun e => ?_, fun e => ?_⟩
        · show n + _ ≤ _; omega
        · have := ih.2.1 e; show n + _ < _; omega
        · have := ih.2.2 e; show n + _ = _; omega
theorem decode_app (p : Int) (u : List UInt8) : ∀ (k : Nat) (s : List UInt8), s.length ≤ k →
    ((decode p s).2.2 = true → decode p (s ++ u) = ((decode p s).1 ++ (decode p u).1, s.length + (decode p u).2.1, (decode p u).2.2)) ∧ (decode p s).2.1 ≤ (decode p (s ++ u)).2.1
  | 0, s, h => by
    have : s = [] := List.eq_nil_of_length_eq_zero (by omega)
    subst this; simp [decode_nil]
  | k + 1, s, h => by
    by_cases hs : s = []
    · subst hs; simp [decode_nil]
    · cases hr : rd p s with
      | none => rw [decode_none hs hr]; simp
      | some q =>
        obtain ⟨b, n⟩ := q
        have hl := rd_len hr
        rw [decode_some hr, decode_some (rd_app u hr)]
        have hd : (s ++ u).drop n = s.drop n ++ u := by rw [List.drop_append_of_le_length hl.2]
        rw [hd]
        obtain ⟨i1, i2⟩ := decode_app p u k (s.drop n) (by rw [List.length_drop]; omega)
        refine ⟨fun e => ?_, ?_⟩
        · rw [i1 e]
          simp only [List.cons_append, Prod.mk.injEq, true_and, and_true]
          rw [List.length_drop]; omega
        · show n + _ ≤ n + _; omega

theorem all_nil (p : Int) : all p [] = [] := rfl
theorem all_cons (p : Int) (c : UInt8) (l : List UInt8) : all p (c :: l) = one p c ++ all p l := rfl
theorem all_app (p : Int) (a b : List UInt8) : all p (a ++ b) = all p a ++ all p b := by unfold all; rw [List.flatMap_append]

theorem u8_all {P : UInt8 → Prop} [DecidablePred P] (h : (List.range 256).all (fun n => decide (P (UInt8.ofNat n))) = true) (c : UInt8) : P c := by
  have := List.all_eq_true.1 h c.toNat (List.mem_range.2 c.toNat_lt)
  simpa using this
theorem spec_alt (p : Int) (hp : isPl p = true) : p = 1 ∨ p = 2 := by
  unfold isPl at hp
  simpa using hp
/-- What is written is read. -/
theorem rd_one {p : Int} (hp : isPl p = true) (c : UInt8) : rd p (one p c) = some (c, (one p c).length) := by
  rcases spec_alt p hp with rfl | rfl
  · exact u8_all (P := fun c => rd 1 (one 1 c) = some (c, (one 1 c).length)) (by decide +kernel) c
  · exact u8_all (P := fun c => rd 2 (one 2 c) = some (c, (one 2 c).length)) (by decide +kernel) c
theorem decode_all {p : Int} (hp : isPl p = true) : ∀ l, decode p (all p l) = (l, (all p l).length, true)
  | [] => rfl
  | c :: l => by
    rw [all_cons, decode_some (rd_app (all p l) (rd_one hp c)), List.drop_left, decode_all hp l]
    simp [List.length_append]
theorem one_len {p : Int} (hp : isPl p = true) (c : UInt8) : 1 ≤ (one p c).length := (rd_len (rd_one hp c)).1
theorem all_len {p : Int} (hp : isPl p = true) : ∀ l, l.length ≤ (all p l).length
  | [] => by simp
  | c :: l => by
    have := one_len hp c; have := all_len hp l
    rw [all_cons, List.length_append, List.length_cons]; omega
end Go.Proofs.YtnfkcdnkmcifbaaGreatDoor
namespace Go.Proofs.YtnfkcdnkmcifbaaGreatDoor
open Go.RowKit
set_option maxRecDepth 100000
set_option maxHeartbeats 2000000

/-- The signs that may not stand for themselves in a place. -/
def nmd (p : Int) : ByteArray := if p = 1 then ⟨#[92, 34]⟩ else if p = 2 then ⟨#[92, 93, 45]⟩ else ⟨#[]⟩
theorem named_any (p : Int) (w : World) : Calls Tryz.prog 58 #[.int .i64 p] w fun e w' => e = .returned (.tuple #[.string (nmd p), .bool (isPl p)]) ∧ w' = w := by
 by_cases h1 : p = 1
 ·subst h1
  go_enter Tryz.func58, Tryz.ntmps58
  go_wp2_with fail
  go_ret2
  exact ⟨rfl, rfl⟩
 ·by_cases h2 : p = 2
  ·subst h2
   go_enter Tryz.func58, Tryz.ntmps58
   go_wp2_with fail
   go_ret2
   exact ⟨rfl, rfl⟩
  ·have e1 : nmd p = ⟨#[]⟩ := by unfold nmd; rw [if_neg h1, if_neg h2]
   have e2 : isPl p = false := by unfold isPl; simp [h1, h2]
   rw [e1, e2]
   go_enter Tryz.func58, Tryz.ntmps58
   go_wp2_with fail
   go_ret2
   exact ⟨rfl, rfl⟩
end Go.Proofs.YtnfkcdnkmcifbaaGreatDoor
