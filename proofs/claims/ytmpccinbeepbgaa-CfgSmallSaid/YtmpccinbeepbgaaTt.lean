/- Rows that lie apart, and what was appended to them. -/
import Derived.Test.YtmpccinbeepbgaaAf
import Derived.Deep.Onto
namespace Go.Proofs.Ytmpccinbeepbgaa
open Go.RowKit

theorem owns_type {w : World} {B B' : Nat} {e e' : TypeId} {s s' n n' : Nat} {v v' : Value} {xs xs' : List Value} {g : Nat} (h : w.ownsRow B e s v n xs) (h' : w.ownsRow B' e' s' v' n' xs') (hv : v.ownBlock = some g) (hv' : v'.ownBlock = some g) : e = e' := by
  rcases h.2 with ⟨rfl, _⟩ | ⟨g1, c1, cur1, rfl, _, h1, _⟩
  · cases hv
  rcases h'.2 with ⟨rfl, _⟩ | ⟨g2, c2, cur2, rfl, _, h2, _⟩
  · cases hv'
  simp only [Value.ownBlock, Option.some.injEq] at hv hv'
  subst hv hv'
  rw [h1] at h2
  cases h2
  rfl

/-- The front of an owned row, whose cells have been written anew, is owned as it was. -/
theorem owns_front {w w' : World} {B e s : Nat} {v v' : Value} {n n' : Nat} {xs xs' : List Value} {g : Nat} (hs : 0 < s) (h : w.ownsRow B e s v n xs) (h1 : w.ownsRow B e s v' n' xs') (hv : v.ownBlock = some g) (hv' : v'.ownBlock = some g)
    {m : Nat} {v2 : Value} {ys : List Value} {cap : Nat} (e1 : v' = .slice (some ⟨g, 0, none⟩) n' cap) (e2 : v2 = .slice (some ⟨g, 0, none⟩) m cap) (h2 : w'.ownsRow B e s v2 m ys) (hnm : n ≤ m) (hx : ys.take (n * s) = xs) : w'.ownsRow B e s v n xs := by
  subst e1 e2
  refine ⟨h.1, ?_⟩
  rcases h.2 with ⟨rfl, _⟩ | ⟨g1, c1, cur1, rfl, hb1, k1, a1, a2, a3, a4⟩
  · cases hv
  simp only [Value.ownBlock, Option.some.injEq] at hv
  subst hv
  rcases h1.2 with ⟨h0, _⟩ | ⟨g2, c2, cur2, h0, _, k2, _, _, b3, _⟩
  · cases h0
  cases h0
  rcases h2.2 with ⟨h0, _⟩ | ⟨g3, c3, cur3, h0, _, k3, d1, d2, d3, d4⟩
  · cases h0
  cases h0
  rw [k1] at k2
  cases k2
  obtain rfl : c1 = cap := by
    have : c1 * s = cap * s := a3.symm.trans b3
    exact Nat.eq_of_mul_eq_mul_right hs this
  refine .inr ⟨g1, c1, cur3, rfl, hb1, k3, a1, a2, d3, ?_⟩
  rw [← hx, ← d4, List.take_take, Nat.min_eq_left (Nat.mul_le_mul_right _ hnm)]

section
variable {α : Type} (f : α → List Value) (B e s : Nat)

/-- Rows of the call's own, K of them, and m others, the i-th of these over the i-th or anew; what belongs to one lies apart from what belongs to another. -/
structure Two (w : World) (K : Nat) (R : Nat → Value) (Y : Nat → List α) (m : Nat) (G : Nat → Value) (Z : Nat → List α) : Prop where
  own1 : ∀ i, i < K → w.ownsRow B e s (R i) (Y i).length ((Y i).flatMap f)
  own2 : ∀ i, i < m → w.ownsRow B e s (G i) (Z i).length ((Z i).flatMap f)
  front : ∀ i, i < m → ∃ r, Z i = Y i ++ r
  ap : ∀ i j g, i < K → j < K → ((R i).ownBlock = some g ∨ (i < m ∧ (G i).ownBlock = some g)) → ((R j).ownBlock = some g ∨ (j < m ∧ (G j).ownBlock = some g)) → i = j

variable {f B e s} {w w' : World} {K m : Nat} {R G : Nat → Value} {Y Z : Nat → List α}

theorem Two.fr (h : Two f B e s w K R Y m G Z) (hm : m ≤ K) {F : Nat → Prop} (hf : Fr F w w') (hF : ∀ i g, i < K → ((R i).ownBlock = some g ∨ (i < m ∧ (G i).ownBlock = some g)) → ¬ F g) : Two f B e s w' K R Y m G Z :=
  ⟨fun i hi => owns_fr (h.own1 i hi) hf (fun g hg => hF i g hi (.inl hg)), fun i hi => owns_fr (h.own2 i hi) hf (fun g hg => hF i g (by omega) (.inr ⟨hi, hg⟩)), h.front, h.ap⟩
theorem Two.below (h : Two f B e s w K R Y m G Z) (hm : m ≤ K) (hb : Below w.heap.size w w') : Two f B e s w' K R Y m G Z :=
  h.fr hm (Fr.of_below (F := fun _ => False) hb) (fun _ _ _ _ h => h)
/-- A write to a block of another type touches none of them. -/
theorem Two.far (h : Two f B e s w K R Y m G Z) {B' e' s' n' : Nat} {v' : Value} {xs' : List Value} {g : Nat} (ho : w.ownsRow B' e' s' v' n' xs') (hv : v'.ownBlock = some g) (he : e' ≠ e) (hm : m ≤ K) (hf : Fr (fun k => k = g) w w') : Two f B e s w' K R Y m G Z := by
  refine h.fr hm hf ?_
  rintro i g' hi hb rfl
  rcases hb with hb | ⟨hi', hb⟩
  · exact he (owns_type ho (h.own1 i hi) hv hb)
  · exact he (owns_type ho (h.own2 i hi') hv hb)
theorem Two.none (h : Two f B e s w K R Y m G Z) : Two f B e s w K R Y 0 G Z :=
  ⟨h.own1, fun i hi => absurd hi (by omega), fun i hi => absurd hi (by omega), fun i j g hi hj h1 h2 => h.ap i j g hi hj (h1.elim .inl (fun h => absurd h.1 (by omega))) (h2.elim .inl (fun h => absurd h.1 (by omega)))⟩
theorem Two.start (h1 : ∀ i, i < K → w.ownsRow B e s (R i) (Y i).length ((Y i).flatMap f)) (h2 : ∀ i j g, i < K → j < K → (R i).ownBlock = some g → (R j).ownBlock = some g → i = j) (G : Nat → Value) (Z : Nat → List α) : Two f B e s w K R Y 0 G Z :=
  ⟨h1, fun i hi => absurd hi (by omega), fun i hi => absurd hi (by omega), fun i j g hi hj h3 h4 => h2 i j g hi hj (h3.elim id (fun h => absurd h.1 (by omega))) (h4.elim id (fun h => absurd h.1 (by omega)))⟩

def upd {β : Type} (F : Nat → β) (k : Nat) (x : β) : Nat → β := fun i => if i = k then x else F i
theorem upd_same {β : Type} (F : Nat → β) (k : Nat) (x : β) : upd F k x k = x := if_pos rfl
theorem upd_other {β : Type} (F : Nat → β) {k i : Nat} (x : β) (h : i ≠ k) : upd F k x i = F i := if_neg h
theorem upd_upd {β : Type} (F : Nat → β) (k : Nat) (x y : β) : upd (upd F k x) k y = upd F k y := by
  funext i; unfold upd; split <;> rfl

/-- The next of the others is the row itself. -/
theorem Two.next (h : Two f B e s w K R Y m G Z) (hm : m < K) : Two f B e s w K R Y (m + 1) (upd G m (R m)) (upd Z m (Y m)) := by
  refine ⟨h.own1, fun i hi => ?_, fun i hi => ?_, fun i j g hi hj h1 h2 => h.ap i j g hi hj ?_ ?_⟩
  · by_cases e : i = m
    · subst e; rw [upd_same, upd_same]; exact h.own1 i hm
    · rw [upd_other _ _ e, upd_other _ _ e]; exact h.own2 i (by omega)
  · by_cases e : i = m
    · subst e; rw [upd_same]; exact ⟨[], by simp⟩
    · rw [upd_other _ _ e]; exact h.front i (by omega)
  · rcases h1 with h1 | ⟨h1, h3⟩
    · exact .inl h1
    · by_cases e : i = m
      · subst e; rw [upd_same] at h3; exact .inl h3
      · rw [upd_other _ _ e] at h3; exact .inr ⟨by omega, h3⟩
  · rcases h2 with h2 | ⟨h2, h3⟩
    · exact .inl h2
    · by_cases e : j = m
      · subst e; rw [upd_same] at h3; exact .inl h3
      · rw [upd_other _ _ e] at h3; exact .inr ⟨by omega, h3⟩

/-- Something is appended to the last of the others. -/
theorem Two.app (hs : 0 < s) (hfl : ∀ x, (f x).length = s) (h : Two f B e s w K R Y (m + 1) G Z) (hm : m < K) (hB : B ≤ w.heap.size) {ys : List α} {v' : Value} (hA : AppTo w B e s (G m) (Z m).length ((Z m).flatMap f) ys.length (ys.flatMap f) v' w') :
    Two f B e s w' K R Y (m + 1) (upd G m v') (upd Z m (Z m ++ ys)) := by
  have hlen : ∀ l : List α, (l.flatMap f).length = l.length * s := fun l => by
    induction l with
    | nil => simp
    | cons x l ih => simp only [List.flatMap_cons, List.length_append, ih, hfl, List.length_cons, Nat.succ_mul]; omega
  rcases hA with ⟨g, cap, e1, e2, hf, ho, ho'⟩ | ho
  · have hbm : (G m).ownBlock = some g := by rw [e1]; rfl
    have hne : ∀ i g', i < K → i ≠ m → ((R i).ownBlock = some g' ∨ (i < m + 1 ∧ (G i).ownBlock = some g')) → ¬ g' = g := by
      rintro i g' hi hne hb rfl
      exact hne (h.ap i m g' hi hm hb (.inr ⟨by omega, hbm⟩))
    refine ⟨fun i hi => ?_, fun i hi => ?_, fun i hi => ?_, fun i j g' hi hj h1 h2 => h.ap i j g' hi hj ?_ ?_⟩
    · by_cases e' : i = m
      · subst e'
        by_cases hb : (R i).ownBlock = some g
        · obtain ⟨r, hr⟩ := h.front i (by omega)
          refine owns_front (v' := G i) hs (h.own1 i hi) (h.own2 i (by omega)) hb hbm e1 e2 ho (by rw [hr]; simp; omega) ?_
          rw [hr, List.flatMap_append, List.append_assoc, ← hlen (Y i), List.take_left]
        · refine owns_fr (h.own1 i hi) hf ?_
          rintro g' hg' rfl
          exact hb hg'
      · exact owns_fr (h.own1 i hi) hf (fun g' hg' => hne i g' hi e' (.inl hg'))
    · by_cases e' : i = m
      · subst e'
        rw [upd_same, upd_same, List.length_append, List.flatMap_append]
        exact ho
      · rw [upd_other _ _ e', upd_other _ _ e']
        exact owns_fr (h.own2 i hi) hf (fun g' hg' => hne i g' (by omega) e' (.inr ⟨hi, hg'⟩))
    · by_cases e' : i = m
      · subst e'; rw [upd_same]; obtain ⟨r, hr⟩ := h.front i hi; exact ⟨r ++ ys, by rw [hr, List.append_assoc]⟩
      · rw [upd_other _ _ e']; exact h.front i hi
    · rcases h1 with h1 | ⟨h1, h3⟩
      · exact .inl h1
      · by_cases e' : i = m
        · subst e'; rw [upd_same, e2] at h3; exact .inr ⟨h1, by rw [hbm]; exact h3⟩
        · rw [upd_other _ _ e'] at h3; exact .inr ⟨h1, h3⟩
    · rcases h2 with h2 | ⟨h2, h3⟩
      · exact .inl h2
      · by_cases e' : j = m
        · subst e'; rw [upd_same, e2] at h3; exact .inr ⟨h2, by rw [hbm]; exact h3⟩
        · rw [upd_other _ _ e'] at h3; exact .inr ⟨h2, h3⟩
  · have hT := h.below (by omega) ho.2
    have hold : ∀ i g', i < K → ((R i).ownBlock = some g' ∨ (i < m + 1 ∧ (G i).ownBlock = some g')) → g' < w.heap.size := by
      rintro i g' hi (hb | ⟨hi', hb⟩)
      · exact ((h.own1 i hi).lt g' hb).2
      · exact ((h.own2 i hi').lt g' hb).2
    have hnew : ∀ g', v'.ownBlock = some g' → w.heap.size ≤ g' := fun g' hg' => (ho.1.lt g' hg').1
    have key : ∀ i g', i < K → ((R i).ownBlock = some g' ∨ (i < m + 1 ∧ (upd G m v' i).ownBlock = some g')) → ((R i).ownBlock = some g' ∨ (i < m + 1 ∧ (G i).ownBlock = some g')) ∨ (i = m ∧ v'.ownBlock = some g') := by
      rintro i g' hi (hb | ⟨hi', hb⟩)
      · exact .inl (.inl hb)
      · by_cases e' : i = m
        · subst e'; rw [upd_same] at hb; exact .inr ⟨rfl, hb⟩
        · rw [upd_other _ _ e'] at hb; exact .inl (.inr ⟨hi', hb⟩)
    refine ⟨hT.own1, fun i hi => ?_, fun i hi => ?_, fun i j g' hi hj h1 h2 => ?_⟩
    · by_cases e' : i = m
      · subst e'
        rw [upd_same, upd_same, List.length_append, List.flatMap_append]
        exact ho.1.mono hB
      · rw [upd_other _ _ e', upd_other _ _ e']; exact hT.own2 i hi
    · by_cases e' : i = m
      · subst e'; rw [upd_same]; obtain ⟨r, hr⟩ := h.front i hi; exact ⟨r ++ ys, by rw [hr, List.append_assoc]⟩
      · rw [upd_other _ _ e']; exact h.front i hi
    · rcases key i g' hi h1 with k1 | ⟨k1, k1'⟩ <;> rcases key j g' hj h2 with k2 | ⟨k2, k2'⟩
      · exact h.ap i j g' hi hj k1 k2
      · have := hold i g' hi k1; have := hnew g' k2'; omega
      · have := hold j g' hj k2; have := hnew g' k1'; omega
      · omega

/-- One element of a row is written. -/
theorem Two.put (h : Two f B e s w K R Y 0 G Z) {k : Nat} (hk : k < K) {g : Nat} (hg : (R k).ownBlock = some g) {x : α} {i : Nat} (hf : Fr (fun b => b = g) w w') (ho : w'.ownsRow B e s (R k) (Y k).length (((Y k).set i x).flatMap f)) :
    Two f B e s w' K R (upd Y k ((Y k).set i x)) 0 G Z := by
  refine Two.start (fun j hj => ?_) (fun i j g hi hj h1 h2 => h.ap i j g hi hj (.inl h1) (.inl h2)) G Z
  by_cases e' : j = k
  · subst e'; rw [upd_same, List.length_set]; exact ho
  · rw [upd_other _ _ e']
    refine owns_fr (h.own1 j hj) hf ?_
    rintro g' hg' rfl
    exact e' (h.ap j k g' hj hk (.inl hg') (.inl hg))
end
end Go.Proofs.Ytmpccinbeepbgaa
