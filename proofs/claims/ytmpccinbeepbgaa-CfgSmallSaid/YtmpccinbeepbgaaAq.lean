/- The lists, and the lists that have grown out of them. -/
import Derived.Test.YtmpccinbeepbgaaAn
namespace Go.Proofs.Ytmpccinbeepbgaa
open Go.RowKit

section
variable {w0 w w' : World} {B K lg lc gg m : Nat} {R G : Nat → Value} {n : Nat → Nat} {Y Z : Nat → List Tw} {L : List Value}

theorem Two.congr (h : Two twc B 57 5 w K R Y 0 R Z) {Y' : Nat → List Tw} (hy : ∀ k, k < K → Y k = Y' k) (G : Nat → Value) (Z' : Nat → List Tw) : Two twc B 57 5 w K R Y' 0 G Z' :=
  Two.start (fun i hi => by rw [← hy i hi]; exact h.own1 i hi) (fun i j g hi hj h1 h2 => h.ap i j g hi hj (.inl h1) (.inl h2)) G Z'
theorem Fl.congr (h : Fl w0 w B K lg lc R n Y 0 R Z) {Y' : Nat → List Tw} (hy : ∀ k, k < K → Y k = Y' k) (G : Nat → Value) (Z' : Nat → List Tw) : Fl w0 w B K lg lc R n Y' 0 G Z' :=
  ⟨h.two.congr hy G Z', h.ls, fun k hk => by rw [← hy k hk]; exact h.len k hk, h.fr, fun i g hi => absurd hi (by omega)⟩

/-- The row of the lists that have grown, beside the lists. -/
structure Fg (w0 w : World) (B K lg lc gg : Nat) (R : Nat → Value) (n : Nat → Nat) (Y : Nat → List Tw) (m : Nat) (G : Nat → Value) (Z : Nat → List Tw) (q : Nat) (L : List Value) : Prop where
  fl : Fl w0 w B K lg lc R n Y m G Z
  gs : w.ownsRow B 36 1 (.slice (some ⟨gg, 0, none⟩) K K) K L
  tab : ∀ i, i < q → L[i]? = some (G i)
  ne : gg ≠ lg
  mle : m ≤ K
  gn : w0.heap.size ≤ gg
variable {q : Nat}
theorem Fg.size (h : Fg w0 w B K lg lc gg R n Y m G Z q L) : B ≤ w.heap.size := h.fl.size
theorem Fg.below (h : Fg w0 w B K lg lc gg R n Y m G Z q L) (hb : Below w.heap.size w w') : Fg w0 w' B K lg lc gg R n Y m G Z q L :=
  ⟨h.fl.below h.mle h.size hb, owns_fr h.gs (Fr.of_below (F := fun _ => False) hb) (fun _ _ h => h), h.tab, h.ne, h.mle, h.gn⟩
theorem Fg.next (h : Fg w0 w B K lg lc gg R n Y m G Z m L) (hm : m < K) : Fg w0 w B K lg lc gg R n Y (m + 1) (upd G m (R m)) (upd Z m (Y m)) m L :=
  ⟨⟨h.fl.two.next hm, h.fl.ls, h.fl.len, h.fl.fr, fun i g hi hg hlt => by
      by_cases e : i = m
      · subst e; rw [upd_same] at hg; exact hg
      · rw [upd_other _ _ e] at hg; exact h.fl.gb i g (by omega) hg hlt⟩, h.gs, fun i hi => by rw [upd_other _ _ (by omega)]; exact h.tab i hi, h.ne, hm, h.gn⟩
theorem Fg.app (h : Fg w0 w B K lg lc gg R n Y (m + 1) G Z m L) {ys : List Tw} {v' : Value} (hA : AppTo w B 57 5 (G m) (Z m).length ((Z m).flatMap twc) ys.length (ys.flatMap twc) v' w') :
    Fg w0 w' B K lg lc gg R n Y (m + 1) (upd G m v') (upd Z m (Z m ++ ys)) m L := by
  have hm : m < K := h.mle
  have hB := h.size
  have h2 := h.fl.two.app (by decide) twc_len hm hB hA
  have ho := h.fl.two.own2 m (by omega)
  have keep : ∀ {b : Nat} {c : Nat} {xs : List Value}, w.ownsRow B 36 1 (.slice (some ⟨b, 0, none⟩) K c) K xs → w'.ownsRow B 36 1 (.slice (some ⟨b, 0, none⟩) K c) K xs := by
    intro b c xs hb
    rcases hA with ⟨g, cap, e1, e2, hf, _, _⟩ | hw
    · refine owns_fr hb hf ?_
      rintro b' hb' rfl
      have := owns_type ho hb (by rw [e1]; rfl) hb'
      cases this
    · exact owns_fr hb (Fr.of_below (F := fun _ => False) hw.2) (fun _ _ h => h)
  have hfr : Fr (fun b => ∃ i, i < K ∧ (R i).ownBlock = some b) w0 w' := by
    rcases hA with ⟨g, cap, e1, e2, hf, _, _⟩ | hw
    · exact h.fl.fr.trans hf (fun q hq hqg => ⟨m, hm, by rw [hqg] at hq ⊢; exact h.fl.gb m g (by omega) (by rw [e1]; rfl) hq⟩)
    · exact h.fl.fr.trans (Fr.of_below (F := fun _ => False) hw.2) (fun _ _ h => h.elim)
  have hgb : ∀ i g, i < m + 1 → (upd G m v' i).ownBlock = some g → g < w0.heap.size → (R i).ownBlock = some g := by
    intro i g hi hg hlt
    by_cases e : i = m
    · subst e
      rw [upd_same] at hg
      rcases hA with ⟨g', cap, e1, e2, hf, _, _⟩ | hw
      · rw [e2] at hg; exact h.fl.gb i g (by omega) (by rw [e1]; exact hg) hlt
      · have := (hw.1.lt g hg).1; have := h.fl.fr.size; omega
    · rw [upd_other _ _ e] at hg; exact h.fl.gb i g hi hg hlt
  exact ⟨⟨h2, keep h.fl.ls, h.fl.len, hfr, hgb⟩, keep h.gs, fun i hi => by rw [upd_other _ _ (by omega)]; exact h.tab i hi, h.ne, h.mle, h.gn⟩
theorem Fg.set (h : Fg w0 w B K lg lc gg R n Y (m + 1) G Z m L) : Fg w0 (w.setCell ⟨gg, m, none⟩ (G m)) B K lg lc gg R n Y (m + 1) G Z (m + 1) (L.set m (G m)) := by
  have hm : m < K := h.mle
  have hst := h.gs.stored m (G m)
  have hf := Fr.setCell w ⟨gg, m, none⟩ (G m)
  have hL : L.length = K := by have := h.gs.1; omega
  refine ⟨⟨h.fl.two.far h.gs rfl (by decide) h.mle hf, owns_fr h.fl.ls hf ?_, h.fl.len, h.fl.fr.trans hf (fun q hq hqg => by have h3 : q = gg := hqg; have := h.gn; omega), h.fl.gb⟩, hst.1, fun i hi => ?_, h.ne, h.mle, h.gn⟩
  · rintro b hb hb'
    have h1 : lg = b := by simpa [Value.ownBlock] using hb
    have h2 : b = gg := hb'
    exact h.ne (by omega)
  · rw [List.getElem?_set]
    by_cases e : m = i
    · subst e; rw [if_pos rfl, if_pos (by omega)]
    · rw [if_neg e]; exact h.tab i (by omega)
/-- The k-th list that has grown, where it stands. -/
theorem Fg.grow (h : Fg w0 w B K lg lc gg R n Y m G Z m L) {k : Nat} (hk : k < m) :
    ∃ ao cap, G k = .slice ao (Z k).length cap ∧ w.cell? ⟨gg, k, none⟩ = some (.slice ao (Z k).length cap) ∧ (Z k).length ≤ cap ∧ cap ≤ 9223372036854775807 := by
  obtain ⟨ao, cap, hv, hs⟩ := Sv.of_owns (h.fl.two.own2 k hk)
  have hb := hs.bound
  have hm := h.mle
  refine ⟨ao, cap, hv, ?_, hb⟩
  rw [h.gs.cellAt k (by omega), h.tab k hk, hv]
theorem Fg.val (h : Fg w0 w B K lg lc gg R n Y m G Z q L) {k : Nat} (hk : k < m) : ∃ ao cap, G k = .slice ao (Z k).length cap ∧ (Z k).length ≤ cap ∧ cap ≤ 9223372036854775807 := by
  obtain ⟨ao, cap, hv, hs⟩ := Sv.of_owns (h.fl.two.own2 k hk)
  exact ⟨ao, cap, hv, hs.bound⟩
theorem Fg.growElem (h : Fg w0 w B K lg lc gg R n Y m G Z m L) {k i : Nat} (hk : k < m) (hi : i < (Z k).length) {x : Tw} (hx : (Z k)[i]? = some x) :
    ∃ g cap, G k = .slice (some ⟨g, 0, none⟩) (Z k).length cap ∧ (∀ j, j < 5 → w.cell? ⟨g, i * 5 + j, none⟩ = (twv x)[j]?) ∧ g < w.heap.size := by
  have ho := h.fl.two.own2 k hk
  obtain ⟨g, cap, hv, hb, hg⟩ := World.ownsRow.form ho (by omega)
  refine ⟨g, cap, hv, fun j hj => ?_, hg⟩
  rw [hv] at ho
  rw [ho.cellAt (i * 5 + j) (by omega), fl_get twc_len (Z k) i j hi hj]
  have := (List.getElem?_eq_some_iff.1 hx).2
  rw [this]
  simp [twc]
theorem Fl.elemX {k i : Nat} (h : Fl w0 w B K lg lc R n Y m G Z) (hk : k < K) (hi : i < n k) {x : Tw} (hx : (Y k)[i]? = some x) :
    ∃ g cap, R k = .slice (some ⟨g, 0, none⟩) (n k) cap ∧ (∀ j, j < 5 → w.cell? ⟨g, i * 5 + j, none⟩ = (twv x)[j]?) ∧ g < w.heap.size := by
  have ho := h.two.own1 k hk
  rw [h.len k hk] at ho
  obtain ⟨g, cap, hv, hb, hg⟩ := World.ownsRow.form ho (by omega)
  refine ⟨g, cap, hv, fun j hj => ?_, hg⟩
  rw [hv] at ho
  have hlk := h.len k hk
  rw [ho.cellAt (i * 5 + j) (by omega), fl_get twc_len (Y k) i j (by omega) hj]
  have := (List.getElem?_eq_some_iff.1 hx).2
  rw [this]
  simp [twc]
theorem Fg.none (h : Fg w0 w B K lg lc gg R n Y m G Z q L) : Fg w0 w B K lg lc gg R n Y 0 G Z 0 L :=
  ⟨⟨h.fl.two.none, h.fl.ls, h.fl.len, h.fl.fr, fun i g hi => absurd hi (by omega)⟩, h.gs, fun i hi => absurd hi (by omega), h.ne, Nat.zero_le _, h.gn⟩
end
theorem mrow_snoc (μ : Int → Int → Int) (k n i : Nat) : mrow μ k (n + i) ++ [mkT μ k ((n : Int) + i)] = mrow μ k (n + (i + 1)) := by
  unfold mrow
  rw [show n + (i + 1) = (n + i) + 1 by omega, List.range_succ, List.map_append]
  simp
end Go.Proofs.Ytmpccinbeepbgaa
