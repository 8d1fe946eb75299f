/- Plain: a text in words (chapter 7). -/
import Derived.Test.YtnfkcdnkmcifbaaDoorPb
namespace Go.Proofs.YtnfkcdnkmcifbaaDoor

def isBl (c : UInt8) : Bool := c == 32 || c == 9 || c == 10 || c == 13
def isLt (c : UInt8) : Bool := (decide (97 ≤ c) && decide (c ≤ 122)) || (decide (65 ≤ c) && decide (c ≤ 90)) || c == 95
def isDg (c : UInt8) : Bool := decide (48 ≤ c) && decide (c ≤ 57)
/-- The signs of one byte. -/
def sgs : List UInt8 := [47, 40, 41, 46, 59, 42, 43, 63, 33, 38]
/-- How many bytes are blanks and remarks; is it within a remark? -/
def skp : Bool → List UInt8 → Nat
  | _, [] => 0
  | true, c :: t => 1 + skp (c != 10) t
  | false, c :: t => if isBl c then 1 + skp false t else if c == 35 then 1 + skp true t else 0
theorem skp_le : ∀ (l : List UInt8) (b : Bool), skp b l ≤ l.length
  | [], b => by cases b <;> simp [skp]
  | c :: l, true => by have := skp_le l (c != 10); simp only [skp, List.length_cons]; omega
  | c :: l, false => by
    have h1 := skp_le l false
    have h2 := skp_le l true
    simp only [skp, List.length_cons]
    split
    · omega
    · split <;> omega
/-- Behind them none begins. -/
theorem skp_idem : ∀ (l : List UInt8) (b : Bool), skp false (l.drop (skp b l)) = 0
  | [], b => by cases b <;> simp [skp]
  | c :: l, true => by
    simp only [skp]
    rw [Nat.add_comm, List.drop_succ_cons]
    exact skp_idem l _
  | c :: l, false => by
    simp only [skp]
    split
    · rw [Nat.add_comm, List.drop_succ_cons]; exact skp_idem l _
    · split
      · rw [Nat.add_comm, List.drop_succ_cons]; exact skp_idem l _
      · rename_i h1 h2
        simp only [List.drop_zero, skp]
        rw [if_neg h1, if_neg h2]
/-- A word, as far as it does not hang on where it stands. -/
structure Wr where
  kind : Nat
  n : Nat
  tx : List UInt8
  lv : Int
  cl : List (UInt8 × UInt8)
  deriving DecidableEq
/-- The number of digits. -/
def lvF (ds : List UInt8) : Int := ds.foldl (fun n c => 10 * n + ((c.toNat : Int) - 48)) 0
def lvl (ds : List UInt8) : Int := if 4 < ds.length then 9999 else lvF ds
def isLD (c : UInt8) : Bool := isLt c || isDg c
/-- A name, and its level. -/
def nameW (s : List UInt8) : Wr :=
  match s.dropWhile isLD with
  | c :: d :: t => if c == 58 && isDg d then ⟨2, (s.takeWhile isLD).length + 1 + ((d :: t).takeWhile isDg).length, s.takeWhile isLD, lvl ((d :: t).takeWhile isDg), []⟩ else ⟨2, (s.takeWhile isLD).length, s.takeWhile isLD, -1, []⟩
  | _ => ⟨2, (s.takeWhile isLD).length, s.takeWhile isLD, -1, []⟩
/-- A text behind its quote; how long it is, the quote behind it too. -/
def qd : Nat → List UInt8 → Option (List UInt8 × Nat)
  | _, [] => none
  | 0, _ :: _ => none
  | f + 1, c :: t => if c == 34 then some ([], 1) else match rd 1 (c :: t) with
    | none => none
    | some (b, n) => (qd f ((c :: t).drop n)).map fun q => (b :: q.1, n + q.2)
/-- A class behind its bracket: its ranges; how long it is. -/
def cd : Nat → List UInt8 → Option (List (UInt8 × UInt8) × Nat)
  | _, [] => none
  | 0, _ :: _ => none
  | f + 1, c :: t => if c == 93 then some ([], 1) else match rd 2 (c :: t) with
    | none => none
    | some (b, n) => match (c :: t).drop n with
      | [] => none
      | d :: u => if d == 45 then (match rd 2 u with
          | none => none
          | some (b2, m) => (cd f (u.drop m)).map fun q => ((b, b2) :: q.1, n + 1 + m + q.2))
        else (cd f (d :: u)).map fun q => ((b, b) :: q.1, n + q.2)
/-- The word that begins a text. -/
def wordR : List UInt8 → Option Wr
  | [] => some ⟨1, 0, [], 0, []⟩
  | c :: t => if isLt c then some (nameW (c :: t))
    else if c == 34 then (qd t.length t).map fun q => ⟨3, 1 + q.2, q.1, 0, []⟩
    else if c == 91 then (cd t.length t).map fun q => ⟨4, 1 + q.2, [], 0, q.1⟩
    else if c == 60 && t.head? == some 45 then some ⟨5, 2, [60, 45], 0, []⟩
    else if sgs.contains c then some ⟨5, 1, [c], 0, []⟩ else none
/-- A word where it stands. -/
structure Wd where
  kind : Nat
  at_ : Nat
  nx : Nat
  tx : List UInt8
  lv : Int
  cl : List (UInt8 × UInt8)
  deriving DecidableEq
def Wr.at (r : Wr) (k : Nat) : Wd := ⟨r.kind, k, k + r.n, r.tx, r.lv, r.cl⟩
/-- What stands from a place on. -/
def nextW (l : List UInt8) (k : Nat) : Option Wd := (wordR (l.drop (k + skp false (l.drop k)))).map fun r => r.at (k + skp false (l.drop k))
/-- The words from a place on; or where there is none. -/
def wordsF (l : List UInt8) : Nat → Nat → List Wd × Option Nat
  | 0, _ => ([], none)
  | f + 1, k => match nextW l k with
    | none => ([], some (k + skp false (l.drop k)))
    | some w => if w.kind = 1 then ([w], none) else (w :: (wordsF l f w.nx).1, (wordsF l f w.nx).2)

theorem qd_len : ∀ (f : Nat) (t : List UInt8) {b : List UInt8} {n : Nat}, qd f t = some (b, n) → 1 ≤ n ∧ n ≤ t.length
  | _, [], _, _, h => by simp [qd] at h
  | 0, _ :: _, _, _, h => by simp [qd] at h
  | f + 1, c :: t, b, n, h => by
    simp only [qd] at h
    split at h
    · simp only [Option.some.injEq, Prod.mk.injEq] at h; simp; omega
    · split at h
      · cases h
      · rename_i b1 n1 e
        have hl := rd_len e
        cases hq : qd f ((c :: t).drop n1) with
        | none => rw [hq] at h; cases h
        | some q =>
          rw [hq] at h
          have := qd_len f _ (b := q.1) (n := q.2) hq
          rw [List.length_drop] at this
          simp only [Option.map_some, Option.some.injEq, Prod.mk.injEq] at h
          omega
theorem cd_len : ∀ (f : Nat) (t : List UInt8) {b : List (UInt8 × UInt8)} {n : Nat}, cd f t = some (b, n) → 1 ≤ n ∧ n ≤ t.length
  | _, [], _, _, h => by simp [cd] at h
  | 0, _ :: _, _, _, h => by simp [cd] at h
  | f + 1, c :: t, b, n, h => by
    simp only [cd] at h
    split at h
    · simp only [Option.some.injEq, Prod.mk.injEq] at h; simp; omega
    · split at h
      · cases h
      · rename_i b1 n1 e
        have hl := rd_len e
        split at h
        · cases h
        · rename_i d u hd
          have hdl : (d :: u).length = (c :: t).length - n1 := by rw [← hd, List.length_drop]
          split at h
          · split at h
            · cases h
            · rename_i b2 m e2
              have hl2 := rd_len e2
              cases hq : cd f (u.drop m) with
              | none => rw [hq] at h; cases h
              | some q =>
                rw [hq] at h
                have := cd_len f _ (b := q.1) (n := q.2) hq
                rw [List.length_drop] at this
                simp only [Option.map_some, Option.some.injEq, Prod.mk.injEq] at h
                simp only [List.length_cons] at hdl
                simp only [List.length_cons]
                omega
          · cases hq : cd f (d :: u) with
            | none => rw [hq] at h; cases h
            | some q =>
              rw [hq] at h
              have := cd_len f _ (b := q.1) (n := q.2) hq
              simp only [Option.map_some, Option.some.injEq, Prod.mk.injEq] at h
              omega
theorem tw_le {α : Type} (p : α → Bool) : ∀ l : List α, (l.takeWhile p).length + (l.dropWhile p).length = l.length
  | [] => rfl
  | x :: l => by
    have := tw_le p l
    simp only [List.takeWhile_cons, List.dropWhile_cons]
    split <;> simp <;> omega
theorem nameW_len {c : UInt8} {t : List UInt8} (hc : isLt c = true) : (nameW (c :: t)).kind = 2 ∧ 1 ≤ (nameW (c :: t)).n ∧ (nameW (c :: t)).n ≤ (c :: t).length := by
  have h1 : 1 ≤ ((c :: t).takeWhile isLD).length := by
    rw [List.takeWhile_cons, if_pos (by unfold isLD; rw [hc]; rfl)]; simp
  have h2 := tw_le isLD (c :: t)
  unfold nameW
  split
  · rename_i x y u hd
    rw [hd, List.length_cons] at h2
    split
    · have h3 := tw_le isDg (y :: u)
      exact ⟨rfl, by show 1 ≤ _ + 1 + _; omega, by show _ + 1 + _ ≤ _; omega⟩
    · exact ⟨rfl, h1, by show List.length _ ≤ _; omega⟩
  · exact ⟨rfl, h1, by show List.length _ ≤ _; omega⟩
theorem wordR_len {s : List UInt8} {r : Wr} (h : wordR s = some r) : r.n ≤ s.length ∧ 1 ≤ r.kind ∧ r.kind ≤ 5 ∧ (r.n = 0 ↔ r.kind = 1) ∧ (r.kind = 1 ↔ s = []) := by
  cases s with
  | nil => simp only [wordR, Option.some.injEq] at h; subst h; simp
  | cons c t =>
    simp only [wordR] at h
    split at h
    · rename_i hc
      obtain ⟨h1, h2, h3⟩ := nameW_len (t := t) hc
      simp only [Option.some.injEq] at h; subst h
      refine ⟨h3, by omega, by omega, ⟨by omega, by omega⟩, ⟨by omega, fun h => by cases h⟩⟩
    · split at h
      · cases hq : qd t.length t with
        | none => rw [hq] at h; cases h
        | some q =>
          rw [hq] at h
          have := qd_len _ _ (b := q.1) (n := q.2) hq
          simp only [Option.map_some, Option.some.injEq] at h; subst h
          simp only [List.length_cons]
          refine ⟨by omega, by omega, by omega, ⟨by omega, by omega⟩, ⟨by omega, fun h => by cases h⟩⟩
      · split at h
        · cases hq : cd t.length t with
          | none => rw [hq] at h; cases h
          | some q =>
            rw [hq] at h
            have := cd_len _ _ (b := q.1) (n := q.2) hq
            simp only [Option.map_some, Option.some.injEq] at h; subst h
            simp only [List.length_cons]
            refine ⟨by omega, by omega, by omega, ⟨by omega, by omega⟩, ⟨by omega, fun h => by cases h⟩⟩
        · split at h
          · rename_i hh
            simp only [Option.some.injEq] at h; subst h
            cases t with
            | nil => simp at hh
            | cons d u => simp
          · split at h
            · simp only [Option.some.injEq] at h; subst h; simp
            · cases h
end Go.Proofs.YtnfkcdnkmcifbaaDoor
