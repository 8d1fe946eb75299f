/- Plain: tree.Right's stack, and that the forests of derivations are right. -/
import Derived.Test.YtmpccinbeepbgaaC9
namespace Go.Proofs.Ytmpccinbeepbgaa

/-- A twig whose kids are awaited. -/
structure On where
  (left sf st nx : Int)

def On.done (o : On) : Bool := o.left == 0
/-- A stack, its top first, takes a twig. -/
def stp (R : List On) (x : Tw) : Option (List On) :=
  match R.dropWhile On.done with
  | [] => none
  | o :: r => if takesB o.sf o.st o.nx x = true then some (⟨x.kids, x.fr, x.to, x.fr⟩ :: ⟨o.left - 1, o.sf, o.st, x.to⟩ :: r) else none
def runT : List Tw → List On → Option (List On)
  | [], R => some R
  | x :: t, R => (stp R x).bind (runT t)
def base (n : Nat) : On := ⟨n, 0, 9223372036854775807, 0⟩
def forestB (t : List Tw) : Bool := match runT t [base t.length] with | some R => R.dropLast.all On.done | none => false

theorem runT_append : ∀ (t u : List Tw) (R : List On), runT (t ++ u) R = (runT t R).bind (runT u)
  | [], u, R => rfl
  | x :: t, u, R => by
    simp only [List.cons_append, runT]
    cases stp R x with
    | none => rfl
    | some S => exact runT_append t u S

theorem drop_done : ∀ (D : List On) (o : On) (r : List On), (∀ x ∈ D, x.done = true) → o.done = false → (D ++ o :: r).dropWhile On.done = o :: r
  | [], o, r, _, h => by simp [h]
  | d :: D, o, r, hD, h => by
    simp only [List.cons_append, List.dropWhile, hD d (by simp)]
    exact drop_done D o r (fun x hx => hD x (by simp [hx])) h

section
variable {l : Tab} {w : List Int}

theorem take_ok (D : List On) (o : On) (r : List On) (hD : ∀ x ∈ D, x.done = true) (lv a b m : Nat) (hl : 1 ≤ o.left) (h0 : 0 ≤ o.sf) (h1 : o.sf ≤ a) (h2 : (b : Int) ≤ o.st) (h3 : o.nx ≤ a) (hab : a ≤ b) (hlv : lv ≤ 99) :
    stp (D ++ o :: r) (tw lv a b m) = some (⟨m, a, b, a⟩ :: ⟨o.left - 1, o.sf, o.st, b⟩ :: r) := by
  have hn : o.done = false := by unfold On.done; simp; omega
  unfold stp
  rw [drop_done D o r hD hn]
  have : takesB o.sf o.st o.nx (tw lv a b m) = true := by
    have e1 : (0 : Int) ≤ lv := by omega
    have e2 : (lv : Int) ≤ 99 := by omega
    have e3 : (0 : Int) ≤ m := by omega
    have e4 : (0 : Int) ≤ a := by omega
    have e5 : (a : Int) ≤ b := by omega
    have e6 : o.sf ≤ o.st := by omega
    simp [takesB, tw, spanI, spanR, e1, e2, e3, e4, e5, e6, h0, h1, h2, h3]
  simp only [tw] at this
  simp only [tw, this, if_true]

theorem KDf.run (hl : l.length ≤ 32) : ∀ {f a b : Nat} {t : List Tw} {m : Nat}, KDf l w f a b t m → a ≤ b → ∀ (D : List On) (o : On) (r : List On), (∀ x ∈ D, x.done = true) → (m : Int) ≤ o.left → 0 ≤ o.sf → o.sf ≤ a → (b : Int) ≤ o.st → o.nx ≤ a →
    ∃ D' u, runT t (D ++ o :: r) = some (D' ++ ⟨o.left - m, o.sf, o.st, u⟩ :: r) ∧ (∀ x ∈ D', x.done = true) ∧ u ≤ b
  | 0, _, _, _, _, h, _, _, _, _, _, _, _, _, _, _ => h.elim
  | f + 1, a, b, t, m, h, hab, D, o, r, hD, hm, h0, h1, h2, h3 => by
    rcases h with ⟨_, _, rfl, rfl⟩ | ⟨_, e, t', m', rfl, _, k3, k4, rfl, rfl⟩ | ⟨i, c, t1, t2, m1, m2, k1, k2, k3, rfl, rfl⟩
    · exact ⟨D, o.nx, by simp [runT], hD, by omega⟩
    · have := k3.bd
      obtain ⟨D', u, e1, e2, e3⟩ := KDf.run hl k4 (by omega) [] ⟨m', ((a + 1 : Nat) : Int), e, ((a + 1 : Nat) : Int)⟩ (⟨o.left - 1, o.sf, o.st, e⟩ :: r) (by simp) (by simp) (by simp only []; omega) (by simp) (by simp) (by simp)
      refine ⟨D' ++ [⟨(m' : Int) - m', ((a + 1 : Nat) : Int), e, u⟩], e, ?_, ?_, by omega⟩
      · rw [runT, take_ok D o r hD 0 (a + 1) e m' (by omega) h0 (by omega) (by omega) (by omega) (by omega) (by omega)]
        simp only [Option.bind_some]
        simp only [List.nil_append] at e1
        rw [e1]
        simp
      · intro x hx
        rcases List.mem_append.1 hx with hx | hx
        · exact e2 x hx
        · simp at hx; subst hx; simp [On.done]
    · have hk := k1.bd
      have hi := k1.1
      have hbh := lf_bd l i
      obtain ⟨D1, u1, e1, e2, e3⟩ := KDf.run hl k2 (by omega) [] ⟨m1, a, c, a⟩ (⟨o.left - 1, o.sf, o.st, c⟩ :: r) (by simp) (by simp) (by simp) (by simp) (by simp) (by simp)
      obtain ⟨D2, u2, g1, g2, g3⟩ := KDf.run hl k3 (by omega) [] ⟨m2, ((c + 1 : Nat) : Int), b, ((c + 1 : Nat) : Int)⟩ (⟨o.left - 1 - 1, o.sf, o.st, b⟩ :: r) (by simp) (by simp) (by simp only []; omega) (by simp) (by simp) (by simp)
      refine ⟨D2 ++ [⟨(m2 : Int) - m2, ((c + 1 : Nat) : Int), b, u2⟩], b, ?_, ?_, by omega⟩
      · rw [runT_append, runT, take_ok D o r hD i a c m1 (by omega) h0 (by omega) (by omega) (by omega) (by omega) (by omega)]
        simp only [List.nil_append] at e1 g1
        simp only [Option.bind_some, e1]
        have hq := take_ok (D1 ++ [⟨(m1 : Int) - m1, a, c, u1⟩]) ⟨o.left - 1, o.sf, o.st, c⟩ r (by
          intro x hx
          rcases List.mem_append.1 hx with hx | hx
          · exact e2 x hx
          · simp at hx; subst hx; simp [On.done]) (bh l i) (c + 1) b m2 (by simp only []; omega) h0 (by simp only []; omega) h2 (by simp only []; omega) (by omega) (by omega)
        rw [List.append_assoc] at hq
        simp only [List.cons_append, List.nil_append] at hq
        rw [runT, hq]
        simp only [Option.bind_some, g1]
        simp only [List.append_assoc, List.cons_append, List.nil_append]
        rw [show o.left - ((2 : Nat) : Int) = o.left - 1 - 1 by omega]
      · intro x hx
        rcases List.mem_append.1 hx with hx | hx
        · exact g2 x hx
        · simp at hx; subst hx; simp [On.done]

theorem KDf.len : ∀ {f a b : Nat} {t : List Tw} {m : Nat}, KDf l w f a b t m → m ≤ t.length
  | 0, _, _, _, _, h => h.elim
  | f + 1, _, _, _, _, h => by
    rcases h with ⟨_, _, rfl, rfl⟩ | ⟨_, e, t', m', rfl, _, k3, k4, rfl, rfl⟩ | ⟨i, c, t1, t2, m1, m2, k1, k2, k3, rfl, rfl⟩
    · simp
    · simp
    · simp; omega

theorem KD.forest (hl : l.length ≤ 32) (hw : w.length ≤ 1000000) {a b : Nat} {t : List Tw} {m : Nat} (h : KD l w a b t m) (hab : a ≤ b) (hb : b ≤ w.length) : forestB t = true := by
  obtain ⟨f, h⟩ := h
  have hm := h.len
  obtain ⟨D, u, e1, e2, e3⟩ := h.run hl hab [] (base t.length) [] (by simp) (by simp [base]; omega) (by simp [base]) (by simp [base]) (by simp [base]; omega) (by simp [base])
  simp only [List.nil_append] at e1
  unfold forestB
  rw [e1]
  simp only [List.dropLast_concat, List.all_eq_true]
  exact e2
end
end Go.Proofs.Ytmpccinbeepbgaa
