/- Plain: what a walk through words yields. -/
import Derived.Test.YtnfkcdnkmcifbaaDoorWe
namespace Go.Proofs.YtnfkcdnkmcifbaaDoor

/-- The place where there is no word, as it is yielded. -/
def badW (e : Nat) : Wd := ⟨0, e, 0, [], 0, []⟩
/-- What is yielded from a place on. -/
def yieldsF (l : List UInt8) : Nat → Nat → List (Wd × Bool)
  | 0, _ => []
  | f + 1, k => match nextW l k with
    | none => [(badW (k + skp false (l.drop k)), false)]
    | some w => if w.kind = 1 then [(w, true)] else (w, true) :: yieldsF l f w.nx
theorem yields_words (l : List UInt8) : ∀ (f k : Nat), yieldsF l f k = (wordsF l f k).1.map (·, true) ++ (match (wordsF l f k).2 with | some e => [(badW e, false)] | none => [])
  | 0, _ => rfl
  | f + 1, k => by
    unfold yieldsF wordsF
    cases nextW l k with
    | none => rfl
    | some w =>
      simp only []
      split
      · rfl
      · rw [yields_words l f w.nx]; rfl
/-- The step: what is yielded from a place on, and what then. -/
theorem yields_none {l : List UInt8} {f k : Nat} (hf : l.length < f + k) (hk : k ≤ l.length) (h : nextW l k = none) : yieldsF l f k = [(badW (k + skp false (l.drop k)), false)] := by
  cases f with
  | zero => omega
  | succ f => unfold yieldsF; rw [h]
theorem yields_end {l : List UInt8} {f k : Nat} {w : Wd} (hf : l.length < f + k) (hk : k ≤ l.length) (h : nextW l k = some w) (hc : w.kind = 1) : yieldsF l f k = [(w, true)] := by
  cases f with
  | zero => omega
  | succ f => unfold yieldsF; rw [h]; simp only []; rw [if_pos hc]
theorem yields_more {l : List UInt8} {f k : Nat} {w : Wd} (hf : l.length < f + k) (hk : k ≤ l.length) (h : nextW l k = some w) (hc : w.kind ≠ 1) :
    ∃ g, yieldsF l f k = (w, true) :: yieldsF l g w.nx ∧ k < w.nx ∧ w.nx ≤ l.length ∧ l.length < g + w.nx := by
  obtain ⟨h1, h2, h3, h4, h5, h6, h7, h8⟩ := nextW_some h hk
  have h9 : w.at_ ≠ w.nx := fun e => hc (h7.1 e.symm)
  cases f with
  | zero => omega
  | succ f =>
    refine ⟨f, ?_, by omega, h4, by omega⟩
    conv => lhs; unfold yieldsF
    rw [h]; simp only []; rw [if_neg hc]
/-- All that a text yields. -/
def yieldsOf (l : List UInt8) : List (Wd × Bool) := yieldsF l (l.length + 1) 0
end Go.Proofs.YtnfkcdnkmcifbaaDoor
