/- The plain functions that the program's functions compute: no program in sight. -/
import Derived.Test.YtbndpmfekglnkaaPl
namespace Go.Proofs.Ytbndpmfekglnkaa

structure Mt where
  (a0 a1 a2 a3 a4 a5 a6 a7 a8 pk dp ms : Int)
  opn : List (Int × Int)

def Mt.zero : Mt := ⟨0, 0, 0, 0, 0, 0, 0, 0, 0, 0, 0, 0, []⟩
def Mt.now (m : Mt) : Int := match m.opn.getLast? with | some f => f.1 | none => 0
def Mt.live (m : Mt) : Int := m.a6 - m.a7
def mayM (e s : Int) : Bool :=
  if e = 1 ∨ e = 5 then s == 0 || s == 2 else if e = 2 then s == 1 || s == 3 else if e = 3 ∨ e = 4 then s == 2 else s == 2 || s == 3
def Mt.check (m : Mt) (e : Int) : Int :=
  if e < 1 ∨ 8 < e then 2 else if e = 7 then (if m.live = 0 then 13 else 0) else if mayM e m.now = false then 13 else 0
def Mt.bump (m : Mt) (e : Int) : Mt :=
  if e = 1 then { m with a1 := m.a1 + 1 } else if e = 2 then { m with a2 := m.a2 + 1 } else if e = 3 then { m with a3 := m.a3 + 1 } else if e = 4 then { m with a4 := m.a4 + 1 }
  else if e = 5 then { m with a5 := m.a5 + 1 } else if e = 6 then { m with a6 := m.a6 + 1 } else if e = 7 then { m with a7 := m.a7 + 1 } else { m with a8 := m.a8 + 1 }
/-- What is done with the open ones. -/
def Mt.turn (m : Mt) (e : Int) : Mt :=
  if e = 1 then { m with opn := m.opn ++ [(1, 0)] }
  else if e = 2 then (match m.opn.getLast? with | some f => { m with opn := m.opn.dropLast ++ [(2, f.2 + 1)], ms := max m.ms (f.2 + 1) } | none => m)
  else if e = 3 then (match m.opn.getLast? with | some f => { m with opn := m.opn.dropLast ++ [(3, f.2)] } | none => m)
  else if e = 8 then { m with opn := m.opn.dropLast } else m
def Mt.tops (m : Mt) : Mt := { m with pk := max m.pk m.live, dp := max m.dp m.opn.length }
def Mt.count (m : Mt) (e : Int) : Mt := ((m.bump e).turn e).tops
def Mt.cn (m : Mt) : Cn := ⟨m.a1, m.a2, m.a3, m.a4, m.a5, m.a6, m.a7, m.a8, m.live, m.pk, m.opn.length, m.dp, m.ms⟩

/-- How many are added, why no more, and the meter behind it. -/
def addM : Mt → List Int → Nat → Nat × Int × Mt
  | m, [], n => (n, 0, m)
  | m, x :: r, n => if m.check x = 0 then addM (m.count x) r (n + 1) else (n, m.check x, m)
def ofM (l : List Int) : Cn × Int :=
  let r := addM Mt.zero l 0
  if r.2.1 = 0 then (r.2.2.cn, 0) else (Cn.zero, r.2.1)

/-- What holds of a meter of which n events were counted. -/
structure Mt.ok (m : Mt) (n : Nat) : Prop where
  b : 0 ≤ m.a1 ∧ m.a1 ≤ n ∧ 0 ≤ m.a2 ∧ m.a2 ≤ n ∧ 0 ≤ m.a3 ∧ m.a3 ≤ n ∧ 0 ≤ m.a4 ∧ m.a4 ≤ n ∧ 0 ≤ m.a5 ∧ m.a5 ≤ n ∧ 0 ≤ m.a6 ∧ m.a6 ≤ n ∧ 0 ≤ m.a7 ∧ m.a7 ≤ n ∧ 0 ≤ m.a8 ∧ m.a8 ≤ n
  t : -(n : Int) ≤ m.pk ∧ m.pk ≤ n ∧ -(n : Int) ≤ m.dp ∧ m.dp ≤ n ∧ -(n : Int) ≤ m.ms ∧ m.ms ≤ n
  o : m.opn.length ≤ n
  f : ∀ x ∈ m.opn, 0 ≤ x.2 ∧ x.2 ≤ n ∧ 1 ≤ x.1 ∧ x.1 ≤ 3

theorem Mt.ok_zero : Mt.zero.ok 0 := ⟨by simp [Mt.zero], by simp [Mt.zero], by simp [Mt.zero], by simp [Mt.zero]⟩

theorem Mt.ok.mono {m : Mt} {n k : Nat} (h : m.ok n) (hk : n ≤ k) : m.ok k := by
  obtain ⟨hb, ht, ho, hf⟩ := h
  exact ⟨by omega, by omega, by omega, fun x hx => by have := hf x hx; omega⟩

theorem Mt.ok.bump {m : Mt} {n : Nat} (h : m.ok n) (e : Int) : (m.bump e).ok (n + 1) := by
  obtain ⟨hb, ht, ho, hf⟩ := h
  unfold Mt.bump
  refine ⟨?_, ?_, ?_, ?_⟩
  · (repeat' split) <;> simp only <;> omega
  · (repeat' split) <;> simp only <;> omega
  · (repeat' split) <;> simp only <;> omega
  · intro x hx
    have : x ∈ m.opn := by revert hx; (repeat' split) <;> exact id
    have := hf x this
    omega

theorem Mt.ok.turn {m : Mt} {n : Nat} (h : m.ok n) (e : Int) : (m.turn e).ok (n + 1) := by
  obtain ⟨hb, ht, ho, hf⟩ := h
  have hlast : ∀ x, m.opn.getLast? = some x → x ∈ m.opn := fun x hx => List.mem_of_getLast? hx
  have hdrop : ∀ x, x ∈ m.opn.dropLast → x ∈ m.opn := fun x hx => List.dropLast_subset _ hx
  have hlen : m.opn.dropLast.length ≤ m.opn.length := by simp
  unfold Mt.turn
  split
  · refine ⟨by simp only; omega, by simp only; omega, by simp; omega, fun x hx => ?_⟩
    simp only [List.mem_append, List.mem_singleton] at hx
    rcases hx with hx | rfl
    · have := hf x hx; omega
    · simp only; omega
  · split
    · split
      · rename_i f hlf
        have hf1 := hf f (hlast f hlf)
        have hpos : 0 < m.opn.length := List.length_pos_of_mem (hlast f hlf)
        refine ⟨by simp only; omega, by simp only; omega, by simp only [List.length_append, List.length_dropLast, List.length_singleton]; omega, fun x hx => ?_⟩
        simp only [List.mem_append, List.mem_singleton] at hx
        rcases hx with hx | rfl
        · have := hf x (hdrop x hx); omega
        · simp only; omega
      · exact ⟨by omega, by omega, by omega, fun x hx => by have := hf x hx; omega⟩
    · split
      · split
        · rename_i f hlf
          have hf1 := hf f (hlast f hlf)
          have hpos : 0 < m.opn.length := List.length_pos_of_mem (hlast f hlf)
          refine ⟨by simp only; omega, by simp only; omega, by simp only [List.length_append, List.length_dropLast, List.length_singleton]; omega, fun x hx => ?_⟩
          simp only [List.mem_append, List.mem_singleton] at hx
          rcases hx with hx | rfl
          · have := hf x (hdrop x hx); omega
          · simp only; omega
        · exact ⟨by omega, by omega, by omega, fun x hx => by have := hf x hx; omega⟩
      · split
        · exact ⟨by simp only; omega, by simp only; omega, by simp only [List.length_dropLast]; omega, fun x hx => by have := hf x (hdrop x hx); omega⟩
        · exact ⟨by omega, by omega, by omega, fun x hx => by have := hf x hx; omega⟩

theorem Mt.ok.tops {m : Mt} {n : Nat} (h : m.ok n) : m.tops.ok n := by
  obtain ⟨hb, ht, ho, hf⟩ := h
  refine ⟨hb, ?_, ho, hf⟩
  simp only [Mt.tops, Mt.live]
  omega

theorem Mt.ok.count {m : Mt} {n : Nat} (h : m.ok n) (e : Int) : (m.count e).ok (n + 2) := (((h.bump e).turn e)).tops

end Go.Proofs.Ytbndpmfekglnkaa
