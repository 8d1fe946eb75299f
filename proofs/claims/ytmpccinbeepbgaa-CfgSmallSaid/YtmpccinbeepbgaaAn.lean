/- Walk: flatTwigs: do lists lie apart? -/
import Derived.Test.YtmpccinbeepbgaaAm
import Derived.Test.YtmpccinbeepbgaaPerm
import Derived.Deep.RegionHeld3
import Derived.Deep.DeepCutAuto
namespace Go.Proofs.Ytmpccinbeepbgaa
open Go.RowKit

section
variable (μ : Int → Int → Int)
def mrow (k n : Nat) : List Tw := (List.range n).map fun j : Nat => mkT μ k (j : Int)
theorem mrow_len (k n : Nat) : (mrow μ k n).length = n := by simp [mrow]
theorem mrow_get (k n j : Nat) (h : j < n) : (mrow μ k n)[j]? = some (mkT μ k j) := by simp [mrow, h]
end
theorem mrow_of {μ : Int → Int → Int} {l : List Tw} {k n : Nat} (hl : l.length = n) (h : ∀ j, j < n → l[j]? = some (mkT μ k j)) : l = mrow μ k n := by
  apply List.ext_getElem?
  intro j
  by_cases hj : j < n
  · rw [h j hj, mrow_get μ k n j hj]
  · rw [List.getElem?_eq_none (by omega), List.getElem?_eq_none (by rw [mrow_len]; omega)]

/-- The row of the lists, and the lists. -/
structure Fl (w0 w : World) (B : Nat) (K : Nat) (lg lc : Nat) (R : Nat → Value) (n : Nat → Nat) (Y : Nat → List Tw) (m : Nat) (G : Nat → Value) (Z : Nat → List Tw) : Prop where
  two : Two twc B 57 5 w K R Y m G Z
  ls : w.ownsRow B 36 1 (.slice (some ⟨lg, 0, none⟩) K lc) K ((List.range K).map R)
  len : ∀ k, k < K → (Y k).length = n k
  fr : Fr (fun b => ∃ i, i < K ∧ (R i).ownBlock = some b) w0 w
  gb : ∀ i g, i < m → (G i).ownBlock = some g → g < w0.heap.size → (R i).ownBlock = some g
theorem Fl.below {w0 w w' : World} {B K lg lc m : Nat} {R G : Nat → Value} {n : Nat → Nat} {Y Z : Nat → List Tw} (h : Fl w0 w B K lg lc R n Y m G Z) (hm : m ≤ K) (_hB : B ≤ w.heap.size) (hb : Below w.heap.size w w') : Fl w0 w' B K lg lc R n Y m G Z :=
  ⟨h.two.below hm hb, owns_fr h.ls (Fr.of_below (F := fun _ => False) hb) (fun _ _ h => h), h.len, h.fr.trans (Fr.of_below (F := fun _ => False) hb) (fun _ _ h => h.elim), h.gb⟩
theorem Fl.size {w0 w : World} {B K lg lc m : Nat} {R G : Nat → Value} {n : Nat → Nat} {Y Z : Nat → List Tw} (h : Fl w0 w B K lg lc R n Y m G Z) : B ≤ w.heap.size := by
  have := h.ls.lt lg rfl; omega
/-- The k-th list, where it stands. -/
theorem Fl.row {w0 w : World} {B K lg lc m : Nat} {R G : Nat → Value} {n : Nat → Nat} {Y Z : Nat → List Tw} (h : Fl w0 w B K lg lc R n Y m G Z) {k : Nat} (hk : k < K) :
    ∃ ao cap, R k = .slice ao (n k) cap ∧ w.cell? ⟨lg, k, none⟩ = some (.slice ao (n k) cap) ∧ n k ≤ cap ∧ cap ≤ 9223372036854775807 := by
  obtain ⟨ao, cap, hv, hs⟩ := Sv.of_owns (h.two.own1 k hk)
  have hb := hs.bound
  rw [h.len k hk] at hv hb
  refine ⟨ao, cap, hv, ?_, hb⟩
  rw [h.ls.cellAt k (by omega)]
  simp [hk, hv]
/-- An element of the k-th list, where it stands. -/
theorem Fl.elem {w0 w : World} {B K lg lc m : Nat} {R G : Nat → Value} {n : Nat → Nat} {Y Z : Nat → List Tw} (h : Fl w0 w B K lg lc R n Y m G Z) {k i : Nat} (hk : k < K) (hi : i < n k) :
    ∃ g cap, R k = .slice (some ⟨g, 0, none⟩) (n k) cap ∧ (∀ j, j < 5 → w.cell? ⟨g, i * 5 + j, none⟩ = (twv ((Y k).getD i (tw 0 0 0 0)))[j]? ∧ w.frozen? ⟨g, i * 5 + j, none⟩ = false) ∧ B ≤ g ∧ g < w.heap.size := by
  have ho := h.two.own1 k hk
  rw [h.len k hk] at ho
  obtain ⟨g, cap, hv, hb, hg⟩ := World.ownsRow.form ho (by omega)
  refine ⟨g, cap, hv, fun j hj => ?_, hb, hg⟩
  rw [hv] at ho
  refine ⟨?_, ho.frozenAt _⟩
  have hlk := h.len k hk
  rw [ho.cellAt (i * 5 + j) (by omega), fl_get twc_len (Y k) i j (by omega) hj]
  simp [twc, List.getD_eq_getElem?_getD, show i < (Y k).length by omega]
theorem set5 (Y : List Tw) (i : Nat) (x : Tw) (hi : i < Y.length) : (((((Y.flatMap twc).set (i * 5) (.int .i64 x.rule)).set (i * 5 + 1) (.int .i64 x.lev)).set (i * 5 + 2) (.int .i64 x.fr)).set (i * 5 + 3) (.int .i64 x.to)).set (i * 5 + 4) (.int .i64 x.kids) = (Y.set i x).flatMap twc := by
  induction Y generalizing i with
  | nil => simp at hi
  | cons y Y ih =>
    cases i with
    | zero => simp [twc, twv]
    | succ i =>
      have := ih i (by simpa using hi)
      simp only [List.set_cons_succ, List.flatMap_cons]
      rw [← this]
      have e : ∀ (l : List Value) (q : Nat) (u : Value), (twc y ++ l).set (q + 5) u = twc y ++ l.set q u := fun l q u => by
        rw [List.set_append_right _ _ (by rw [twc_len]; omega), twc_len, Nat.add_sub_cancel]
      have e0 : (i + 1) * 5 = i * 5 + 5 := by omega
      rw [e0, show i * 5 + 5 + 1 = (i * 5 + 1) + 5 by omega, show i * 5 + 5 + 2 = (i * 5 + 2) + 5 by omega, show i * 5 + 5 + 3 = (i * 5 + 3) + 5 by omega, show i * 5 + 5 + 4 = (i * 5 + 4) + 5 by omega, e, e, e, e, e]
theorem Fl.put {w0 w : World} {B K lg lc : Nat} {R G : Nat → Value} {n : Nat → Nat} {Y Z : Nat → List Tw} (h : Fl w0 w B K lg lc R n Y 0 G Z) {k i : Nat} (hk : k < K) (hi : i < n k) {g cap : Nat} (hR : R k = .slice (some ⟨g, 0, none⟩) (n k) cap) (x : Tw) :
    Fl w0 (((((w.setCell ⟨g, i * 5, none⟩ (.int .i64 x.rule)).setCell ⟨g, i * 5 + 1, none⟩ (.int .i64 x.lev)).setCell ⟨g, i * 5 + 2, none⟩ (.int .i64 x.fr)).setCell ⟨g, i * 5 + 3, none⟩ (.int .i64 x.to)).setCell ⟨g, i * 5 + 4, none⟩ (.int .i64 x.kids)) B K lg lc R n (upd Y k ((Y k).set i x)) 0 G Z := by
  have ho := h.two.own1 k hk
  have hlk := h.len k hk
  have hgr : Fr (fun b => b = g) w (((((w.setCell ⟨g, i * 5, none⟩ (.int .i64 x.rule)).setCell ⟨g, i * 5 + 1, none⟩ (.int .i64 x.lev)).setCell ⟨g, i * 5 + 2, none⟩ (.int .i64 x.fr)).setCell ⟨g, i * 5 + 3, none⟩ (.int .i64 x.to)).setCell ⟨g, i * 5 + 4, none⟩ (.int .i64 x.kids)) :=
    ((((Fr.setCell w ⟨g, i * 5, none⟩ _).trans (Fr.setCell _ ⟨g, i * 5 + 1, none⟩ _) (fun _ _ h => h)).trans (Fr.setCell _ ⟨g, i * 5 + 2, none⟩ _) (fun _ _ h => h)).trans (Fr.setCell _ ⟨g, i * 5 + 3, none⟩ _) (fun _ _ h => h)).trans (Fr.setCell _ ⟨g, i * 5 + 4, none⟩ _) (fun _ _ h => h)
  have hst := ho
  rw [hR, hlk] at hst
  have h5 := (((((hst.stored (i * 5) (.int .i64 x.rule)).1.stored (i * 5 + 1) (.int .i64 x.lev)).1.stored (i * 5 + 2) (.int .i64 x.fr)).1.stored (i * 5 + 3) (.int .i64 x.to)).1.stored (i * 5 + 4) (.int .i64 x.kids)).1
  rw [set5 (Y k) i x (by omega), ← hR, ← hlk] at h5
  refine ⟨h.two.put hk (by rw [hR]; rfl) hgr h5, owns_fr h.ls hgr ?_, fun j hj => ?_, h.fr.trans hgr (fun q _ hq => ⟨k, hk, by rw [hR, hq]; rfl⟩), fun i g hi => absurd hi (by omega)⟩
  · rintro b hb rfl
    have := owns_type ho h.ls (by rw [hR]; rfl) hb
    cases this
  · by_cases e : j = k
    · subst e; rw [upd_same, List.length_set]; exact h.len _ hj
    · rw [upd_other _ _ e]; exact h.len j hj
end Go.Proofs.Ytmpccinbeepbgaa
