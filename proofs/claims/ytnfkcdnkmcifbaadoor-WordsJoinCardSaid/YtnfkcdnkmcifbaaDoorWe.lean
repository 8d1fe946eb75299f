/- Plain: a text and a class, without fuel. -/
import Derived.Test.YtnfkcdnkmcifbaaDoorWd
namespace Go.Proofs.YtnfkcdnkmcifbaaDoor

theorem qd_fuel : ∀ (f g : Nat) (l : List UInt8), l.length ≤ f → l.length ≤ g → qd f l = qd g l
  | f, g, [], _, _ => by cases f <;> cases g <;> rfl
  | 0, _, _ :: _, h, _ => by simp at h
  | _, 0, _ :: _, _, h => by simp at h
  | f + 1, g + 1, c :: t, hf, hg => by
    unfold qd
    split
    · rfl
    · cases hr : rd 1 (c :: t) with
      | none => rfl
      | some q =>
        obtain ⟨b, n⟩ := q
        have hl := rd_len hr
        simp only []
        simp only [List.length_cons] at hf hg hl
        rw [qd_fuel f g ((c :: t).drop n) (by rw [List.length_drop, List.length_cons]; omega) (by rw [List.length_drop, List.length_cons]; omega)]
theorem cd_fuel : ∀ (f g : Nat) (l : List UInt8), l.length ≤ f → l.length ≤ g → cd f l = cd g l
  | f, g, [], _, _ => by cases f <;> cases g <;> rfl
  | 0, _, _ :: _, h, _ => by simp at h
  | _, 0, _ :: _, _, h => by simp at h
  | f + 1, g + 1, c :: t, hf, hg => by
    unfold cd
    split
    · rfl
    · cases hr : rd 2 (c :: t) with
      | none => rfl
      | some q =>
        obtain ⟨b, n⟩ := q
        have hl := rd_len hr
        simp only []
        simp only [List.length_cons] at hf hg hl
        cases hd : (c :: t).drop n with
        | nil => rfl
        | cons d u =>
          have hdl : (d :: u).length = (c :: t).length - n := by rw [← hd, List.length_drop]
          simp only [List.length_cons] at hdl
          simp only []
          split
          · cases hr2 : rd 2 u with
            | none => rfl
            | some q2 =>
              obtain ⟨b2, m⟩ := q2
              simp only []
              rw [cd_fuel f g (u.drop m) (by rw [List.length_drop]; omega) (by rw [List.length_drop]; omega)]
          · rw [cd_fuel f g (d :: u) (by rw [List.length_cons]; omega) (by rw [List.length_cons]; omega)]
/-- A text behind its quote; a class behind its bracket. -/
def qdS (l : List UInt8) : Option (List UInt8 × Nat) := qd l.length l
def cdS (l : List UInt8) : Option (List (UInt8 × UInt8) × Nat) := cd l.length l
theorem qd_nil : qdS [] = none := rfl
theorem qd_close (t : List UInt8) : qdS (34 :: t) = some ([], 1) := rfl
theorem qd_bad {c : UInt8} {t : List UInt8} (hc : c ≠ 34) (h : rd 1 (c :: t) = none) : qdS (c :: t) = none := by
  unfold qdS; rw [List.length_cons]; unfold qd
  rw [if_neg (by simpa using hc), h]
theorem qd_step {c b : UInt8} {n : Nat} {t : List UInt8} (hc : c ≠ 34) (h : rd 1 (c :: t) = some (b, n)) : qdS (c :: t) = (qdS ((c :: t).drop n)).map fun q => (b :: q.1, n + q.2) := by
  have hl := rd_len h
  unfold qdS; rw [List.length_cons]; conv => lhs; unfold qd
  rw [if_neg (by simpa using hc), h]
  simp only []
  rw [qd_fuel t.length _ ((c :: t).drop n) (by rw [List.length_drop, List.length_cons]; omega) (Nat.le_refl _)]
theorem cd_nil : cdS [] = none := rfl
theorem cd_close (t : List UInt8) : cdS (93 :: t) = some ([], 1) := rfl
theorem cd_bad {c : UInt8} {t : List UInt8} (hc : c ≠ 93) (h : rd 2 (c :: t) = none) : cdS (c :: t) = none := by
  unfold cdS; rw [List.length_cons]; unfold cd
  rw [if_neg (by simpa using hc), h]
theorem cd_end {c b : UInt8} {n : Nat} {t : List UInt8} (hc : c ≠ 93) (h : rd 2 (c :: t) = some (b, n)) (hd : (c :: t).drop n = []) : cdS (c :: t) = none := by
  unfold cdS; rw [List.length_cons]; unfold cd
  rw [if_neg (by simpa using hc), h]
  simp only []
  rw [hd]
theorem cd_one {c b d : UInt8} {n : Nat} {t u : List UInt8} (hc : c ≠ 93) (h : rd 2 (c :: t) = some (b, n)) (hd : (c :: t).drop n = d :: u) (h5 : d ≠ 45) : cdS (c :: t) = (cdS (d :: u)).map fun q => ((b, b) :: q.1, n + q.2) := by
  have hl := rd_len h
  have hdl : (d :: u).length = (c :: t).length - n := by rw [← hd, List.length_drop]
  unfold cdS; conv => lhs; rw [List.length_cons]; unfold cd
  rw [if_neg (by simpa using hc), h]
  simp only []
  rw [hd]
  simp only []
  rw [if_neg (by simpa using h5), cd_fuel t.length _ (d :: u) (by rw [hdl, List.length_cons]; omega) (Nat.le_refl _)]
theorem cd_bad2 {c b : UInt8} {n : Nat} {t u : List UInt8} (hc : c ≠ 93) (h : rd 2 (c :: t) = some (b, n)) (hd : (c :: t).drop n = 45 :: u) (h2 : rd 2 u = none) : cdS (c :: t) = none := by
  unfold cdS; rw [List.length_cons]; unfold cd
  rw [if_neg (by simpa using hc), h]
  simp only []
  rw [hd]
  simp only []
  rw [if_pos (by decide), h2]
theorem cd_two {c b b2 : UInt8} {n m : Nat} {t u : List UInt8} (hc : c ≠ 93) (h : rd 2 (c :: t) = some (b, n)) (hd : (c :: t).drop n = 45 :: u) (h2 : rd 2 u = some (b2, m)) : cdS (c :: t) = (cdS (u.drop m)).map fun q => ((b, b2) :: q.1, n + 1 + m + q.2) := by
  have hl := rd_len h
  have hdl : (45 :: u).length = (c :: t).length - n := by rw [← hd, List.length_drop]
  simp only [List.length_cons] at hdl
  unfold cdS; conv => lhs; rw [List.length_cons]; unfold cd
  rw [if_neg (by simpa using hc), h]
  simp only []
  rw [hd]
  simp only []
  rw [if_pos (by decide), h2]
  simp only []
  rw [cd_fuel t.length _ (u.drop m) (by rw [List.length_drop]; omega) (Nat.le_refl _)]
/-- A text; a class. -/
def txR (l : List UInt8) : Option Wr := match l with | c :: t => if c == 34 then (qdS t).map fun q => ⟨3, 1 + q.2, q.1, 0, []⟩ else none | [] => none
def stR (l : List UInt8) : Option Wr := match l with | c :: t => if c == 91 then (cdS t).map fun q => ⟨4, 1 + q.2, [], 0, q.1⟩ else none | [] => none
end Go.Proofs.YtnfkcdnkmcifbaaDoor
