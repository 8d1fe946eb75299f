/- Plain: a tree is a right forest of one root. -/
import Derived.Test.YtmpccinbeepbgaaCC
import Derived.Test.YtmpccinbeepbgaaGr7
namespace Go.Proofs.Ytmpccinbeepbgaa

section
variable {l : Tab} {w : List Int}
theorem KD.root (hl : l.length ≤ 32) (hw : w.length ≤ 1000000) {a b : Nat} {t : List Tw} {m : Nat} (h : KD l w a b t m) (hab : a ≤ b) (hb : b ≤ w.length) (lv : Nat) (hlv : lv ≤ 99) : forestB (tw lv a b m :: t) = true := by
  obtain ⟨f, h⟩ := h
  have h1 := take_ok [] (base (t.length + 1)) [] (by simp) lv a b m (by simp [base]; omega) (by simp [base]) (by simp [base]) (by simp [base]; omega) (by simp [base]) hab hlv
  obtain ⟨D, u, e1, e2, e3⟩ := h.run hl hab [] ⟨m, a, b, a⟩ [⟨(base (t.length + 1)).left - 1, (base (t.length + 1)).sf, (base (t.length + 1)).st, b⟩] (by simp) (by simp) (by simp) (by simp) (by simp) (by simp)
  simp only [List.nil_append] at e1 h1
  unfold forestB
  rw [List.length_cons]
  simp only [runT, h1, Option.bind_some, e1]
  rw [List.append_cons, List.dropLast_concat]
  simp only [List.all_append, List.all_cons, List.all_nil, Bool.and_true, Bool.and_eq_true, List.all_eq_true]
  exact ⟨e2, by simp [On.done]⟩

/-- What stands behind a node's twigs. -/
theorem KD.tree {a b lv : Nat} {t : List Tw} {m : Nat} (h : KD l w a b t m) : IsTree (tw lv a b m :: t) := let ⟨_, h⟩ := h; h.tree
theorem Nd.after {T : List Tw} {n a b lv m : Nat} {t R : List Tw} (h : T.drop n = (tw lv a b m :: t) ++ R) (hk : KD l w a b t m) : afT 1 (T.drop n) = some (1 + t.length) := by
  rw [h, hk.tree R, List.length_cons, Nat.add_comm]
theorem Nd.split {T : List Tw} {n : Nat} {x : Tw} {t R : List Tw} (h : T.drop n = (x :: t) ++ R) (hn : n ≤ T.length) : T = (T.take n ++ [x]) ++ t ++ R ∧ (T.take n ++ [x]).length = n + 1 := by
  constructor
  · have := List.take_append_drop n T
    rw [h] at this
    simpa using this.symm
  · rw [List.length_append, List.length_take, Nat.min_eq_left hn]; rfl
theorem Nd.get {T : List Tw} {n k : Nat} {U R : List Tw} (h : T.drop n = U ++ R) (hk : k < U.length) : T[n + k]? = U[k]? := by
  have := congrArg (fun L : List Tw => L[k]?) h
  simp only [List.getElem?_drop] at this
  rw [this, List.getElem?_append_left hk]
end
end Go.Proofs.Ytmpccinbeepbgaa
