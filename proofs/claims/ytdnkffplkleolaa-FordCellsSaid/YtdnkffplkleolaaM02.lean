/- Walks and plain laws: Tt Pa Pb Gd Pc Pd. -/
import Derived.Test.YtdnkffplkleolaaM01
import Derived.Deep.Onto
import Derived.Test.YtdnkffplkleolaaProg
namespace Go.Proofs.Ytdnkffplkleolaa
open Go.RowKit

theorem owns_type {w : World} {B B' : Nat} {e e' : TypeId} {s s' n n' : Nat} {v v' : Value} {xs xs' : List Value} {g : Nat} (h : w.ownsRow B e s v n xs) (h' : w.ownsRow B' e' s' v' n' xs') (hv : v.ownBlock = some g) (hv' : v'.ownBlock = some g) : e = e' := by
 rcases h.2 with ⟨rfl, _⟩ | ⟨g1, c1, cur1, rfl, _, h1, _⟩
 ·cases hv
 rcases h'.2 with ⟨rfl, _⟩ | ⟨g2, c2, cur2, rfl, _, h2, _⟩
 ·cases hv'
 simp only [Value.ownBlock, Option.some.injEq] at hv hv'
 subst hv hv'
 rw [h1] at h2
 cases h2
 rfl

/-- The front of an owned row, whose cells have been written anew, is owned as it was. -/
theorem owns_front {w w' : World} {B e s : Nat} {v v' : Value} {n n' : Nat} {xs xs' : List Value} {g : Nat} (hs : 0 < s) (h : w.ownsRow B e s v n xs) (h1 : w.ownsRow B e s v' n' xs') (hv : v.ownBlock = some g) (hv' : v'.ownBlock = some g)
  {m : Nat} {v2 : Value} {ys : List Value} {cap : Nat} (e1 : v' = .slice (some ⟨g, 0, none⟩) n' cap) (e2 : v2 = .slice (some ⟨g, 0, none⟩) m cap) (h2 : w'.ownsRow B e s v2 m ys) (hnm : n ≤ m) (hx : ys.take (n * s) = xs) : w'.ownsRow B e s v n xs := by
 subst e1 e2
 refine ⟨h.1, ?_⟩
 rcases h.2 with ⟨rfl, _⟩ | ⟨g1, c1, cur1, rfl, hb1, k1, a1, a2, a3, a4⟩
 ·cases hv
 simp only [Value.ownBlock, Option.some.injEq] at hv
 subst hv
 rcases h1.2 with ⟨h0, _⟩ | ⟨g2, c2, cur2, h0, _, k2, _, _, b3, _⟩
 ·cases h0
 cases h0
 rcases h2.2 with ⟨h0, _⟩ | ⟨g3, c3, cur3, h0, _, k3, d1, d2, d3, d4⟩
 ·cases h0
 cases h0
 rw [k1] at k2
 cases k2
 obtain rfl : c1 = cap := by
  have : c1 * s = cap * s := a3.symm.trans b3
  exact Nat.eq_of_mul_eq_mul_right hs this
 refine .inr ⟨g1, c1, cur3, rfl, hb1, k3, a1, a2, d3, ?_⟩
 rw [← hx, ← d4, List.take_take, Nat.min_eq_left (Nat.mul_le_mul_right _ hnm)]

section
variable {α : Type} (f : α → List Value) (B e s : Nat)

/-- Rows of the call's own, K of them, and m others, the i-th of these over the i-th or anew; what belongs to one lies apart from what belongs to another. -/
structure Two (w : World) (K : Nat) (R : Nat → Value) (Y : Nat → List α) (m : Nat) (G : Nat → Value) (Z : Nat → List α) : Prop where
 own1 : ∀ i, i < K → w.ownsRow B e s (R i) (Y i).length ((Y i).flatMap f)
 own2 : ∀ i, i < m → w.ownsRow B e s (G i) (Z i).length ((Z i).flatMap f)
 front : ∀ i, i < m → ∃ r, Z i = Y i ++ r
 ap : ∀ i j g, i < K → j < K → ((R i).ownBlock = some g ∨ (i < m ∧ (G i).ownBlock = some g)) → ((R j).ownBlock = some g ∨ (j < m ∧ (G j).ownBlock = some g)) → i = j

variable {f B e s} {w w' : World} {K m : Nat} {R G : Nat → Value} {Y Z : Nat → List α}

theorem Two.fr (h : Two f B e s w K R Y m G Z) (hm : m ≤ K) {F : Nat → Prop} (hf : Fr F w w') (hF : ∀ i g, i < K → ((R i).ownBlock = some g ∨ (i < m ∧ (G i).ownBlock = some g)) → ¬ F g) : Two f B e s w' K R Y m G Z :=
 ⟨fun i hi => owns_fr (h.own1 i hi) hf (fun g hg => hF i g hi (.inl hg)), fun i hi => owns_fr (h.own2 i hi) hf (fun g hg => hF i g (by omega) (.inr ⟨hi, hg⟩)), h.front, h.ap⟩
theorem Two.below (h : Two f B e s w K R Y m G Z) (hm : m ≤ K) (hb : Below w.heap.size w w') : Two f B e s w' K R Y m G Z :=
 h.fr hm (Fr.of_below (F := fun _ => False) hb) (fun _ _ _ _ h => h)
/-- A write to a block of another type touches none of them. -/
theorem Two.far (h : Two f B e s w K R Y m G Z) {B' e' s' n' : Nat} {v' : Value} {xs' : List Value} {g : Nat} (ho : w.ownsRow B' e' s' v' n' xs') (hv : v'.ownBlock = some g) (he : e' ≠ e) (hm : m ≤ K) (hf : Fr (fun k => k = g) w w') : Two f B e s w' K R Y m G Z := by
 refine h.fr hm hf ?_
 rintro i g' hi hb rfl
 rcases hb with hb | ⟨hi', hb⟩
 ·exact he (owns_type ho (h.own1 i hi) hv hb)
 ·exact he (owns_type ho (h.own2 i hi') hv hb)
theorem Two.none (h : Two f B e s w K R Y m G Z) : Two f B e s w K R Y 0 G Z :=
 ⟨h.own1, fun i hi => absurd hi (by omega), fun i hi => absurd hi (by omega), fun i j g hi hj h1 h2 => h.ap i j g hi hj (h1.elim .inl (fun h => absurd h.1 (by omega))) (h2.elim .inl (fun h => absurd h.1 (by omega)))⟩
theorem Two.start (h1 : ∀ i, i < K → w.ownsRow B e s (R i) (Y i).length ((Y i).flatMap f)) (h2 : ∀ i j g, i < K → j < K → (R i).ownBlock = some g → (R j).ownBlock = some g → i = j) (G : Nat → Value) (Z : Nat → List α) : Two f B e s w K R Y 0 G Z :=
 ⟨h1, fun i hi => absurd hi (by omega), fun i hi => absurd hi (by omega), fun i j g hi hj h3 h4 => h2 i j g hi hj (h3.elim id (fun h => absurd h.1 (by omega))) (h4.elim id (fun h => absurd h.1 (by omega)))⟩

def upd {β : Type} (F : Nat → β) (k : Nat) (x : β) : Nat → β := fun i => if i = k then x else F i
theorem upd_same {β : Type} (F : Nat → β) (k : Nat) (x : β) : upd F k x k = x := if_pos rfl
theorem upd_other {β : Type} (F : Nat → β) {k i : Nat} (x : β) (h : i ≠ k) : upd F k x i = F i := if_neg h
theorem upd_upd {β : Type} (F : Nat → β) (k : Nat) (x y : β) : upd (upd F k x) k y = upd F k y := by
 funext i; unfold upd; split <;> rfl

/-- The next of the others is the row itself. -/
theorem Two.next (h : Two f B e s w K R Y m G Z) (hm : m < K) : Two f B e s w K R Y (m + 1) (upd G m (R m)) (upd Z m (Y m)) := by
 refine ⟨h.own1, fun i hi => ?_, fun i hi => ?_, fun i j g hi hj h1 h2 => h.ap i j g hi hj ?_ ?_⟩
 ·by_cases e : i = m
  ·subst e; rw [upd_same, upd_same]; exact h.own1 i hm
  ·rw [upd_other _ _ e, upd_other _ _ e]; exact h.own2 i (by omega)
 ·by_cases e : i = m
  ·subst e; rw [upd_same]; exact ⟨[], by simp⟩
  ·rw [upd_other _ _ e]; exact h.front i (by omega)
 ·rcases h1 with h1 | ⟨h1, h3⟩
  ·exact .inl h1
  ·by_cases e : i = m
   ·subst e; rw [upd_same] at h3; exact .inl h3
   ·rw [upd_other _ _ e] at h3; exact .inr ⟨by omega, h3⟩
 ·rcases h2 with h2 | ⟨h2, h3⟩
  ·exact .inl h2
  ·by_cases e : j = m
   ·subst e; rw [upd_same] at h3; exact .inl h3
   ·rw [upd_other _ _ e] at h3; exact .inr ⟨by omega, h3⟩

/-- Something is appended to the last of the others. -/
theorem Two.app (hs : 0 < s) (hfl : ∀ x, (f x).length = s) (h : Two f B e s w K R Y (m + 1) G Z) (hm : m < K) (hB : B ≤ w.heap.size) {ys : List α} {v' : Value} (hA : AppTo w B e s (G m) (Z m).length ((Z m).flatMap f) ys.length (ys.flatMap f) v' w') :
  Two f B e s w' K R Y (m + 1) (upd G m v') (upd Z m (Z m ++ ys)) := by
 have hlen : ∀ l : List α, (l.flatMap f).length = l.length * s := fun l => by
  induction l with
  | nil => simp
  | cons x l ih => simp only [List.flatMap_cons, List.length_append, ih, hfl, List.length_cons, Nat.succ_mul]; omega
 rcases hA with ⟨g, cap, e1, e2, hf, ho, ho'⟩ | ho
 ·have hbm : (G m).ownBlock = some g := by rw [e1]; rfl
  have hne : ∀ i g', i < K → i ≠ m → ((R i).ownBlock = some g' ∨ (i < m + 1 ∧ (G i).ownBlock = some g')) → ¬ g' = g := by
   rintro i g' hi hne hb rfl
   exact hne (h.ap i m g' hi hm hb (.inr ⟨by omega, hbm⟩))
  refine ⟨fun i hi => ?_, fun i hi => ?_, fun i hi => ?_, fun i j g' hi hj h1 h2 => h.ap i j g' hi hj ?_ ?_⟩
  ·by_cases e' : i = m
   ·subst e'
    by_cases hb : (R i).ownBlock = some g
    ·obtain ⟨r, hr⟩ := h.front i (by omega)
     refine owns_front (v' := G i) hs (h.own1 i hi) (h.own2 i (by omega)) hb hbm e1 e2 ho (by rw [hr]; simp; omega) ?_
     rw [hr, List.flatMap_append, List.append_assoc, ← hlen (Y i), List.take_left]
    ·refine owns_fr (h.own1 i hi) hf ?_
     rintro g' hg' rfl
     exact hb hg'
   ·exact owns_fr (h.own1 i hi) hf (fun g' hg' => hne i g' hi e' (.inl hg'))
  ·by_cases e' : i = m
   ·subst e'
    rw [upd_same, upd_same, List.length_append, List.flatMap_append]
    exact ho
   ·rw [upd_other _ _ e', upd_other _ _ e']
    exact owns_fr (h.own2 i hi) hf (fun g' hg' => hne i g' (by omega) e' (.inr ⟨hi, hg'⟩))
  ·by_cases e' : i = m
   ·subst e'; rw [upd_same]; obtain ⟨r, hr⟩ := h.front i hi; exact ⟨r ++ ys, by rw [hr, List.append_assoc]⟩
   ·rw [upd_other _ _ e']; exact h.front i hi
  ·rcases h1 with h1 | ⟨h1, h3⟩
   ·exact .inl h1
   ·by_cases e' : i = m
    ·subst e'; rw [upd_same, e2] at h3; exact .inr ⟨h1, by rw [hbm]; exact h3⟩
    ·rw [upd_other _ _ e'] at h3; exact .inr ⟨h1, h3⟩
  ·rcases h2 with h2 | ⟨h2, h3⟩
   ·exact .inl h2
   ·by_cases e' : j = m
    ·subst e'; rw [upd_same, e2] at h3; exact .inr ⟨h2, by rw [hbm]; exact h3⟩
    ·rw [upd_other _ _ e'] at h3; exact .inr ⟨h2, h3⟩
 ·have hT := h.below (by omega) ho.2
  have hold : ∀ i g', i < K → ((R i).ownBlock = some g' ∨ (i < m + 1 ∧ (G i).ownBlock = some g')) → g' < w.heap.size := by
   rintro i g' hi (hb | ⟨hi', hb⟩)
   ·exact ((h.own1 i hi).lt g' hb).2
   ·exact ((h.own2 i hi').lt g' hb).2
  have hnew : ∀ g', v'.ownBlock = some g' → w.heap.size ≤ g' := fun g' hg' => (ho.1.lt g' hg').1
  have key : ∀ i g', i < K → ((R i).ownBlock = some g' ∨ (i < m + 1 ∧ (upd G m v' i).ownBlock = some g')) → ((R i).ownBlock = some g' ∨ (i < m + 1 ∧ (G i).ownBlock = some g')) ∨ (i = m ∧ v'.ownBlock = some g') := by
   rintro i g' hi (hb | ⟨hi', hb⟩)
   ·exact .inl (.inl hb)
   ·by_cases e' : i = m
    ·subst e'; rw [upd_same] at hb; exact .inr ⟨rfl, hb⟩
    ·rw [upd_other _ _ e'] at hb; exact .inl (.inr ⟨hi', hb⟩)
  refine ⟨hT.own1, fun i hi => ?_, fun i hi => ?_, fun i j g' hi hj h1 h2 => ?_⟩
  ·by_cases e' : i = m
   ·subst e'
    rw [upd_same, upd_same, List.length_append, List.flatMap_append]
    exact ho.1.mono hB
   ·rw [upd_other _ _ e', upd_other _ _ e']; exact hT.own2 i hi
  ·by_cases e' : i = m
   ·subst e'; rw [upd_same]; obtain ⟨r, hr⟩ := h.front i hi; exact ⟨r ++ ys, by rw [hr, List.append_assoc]⟩
   ·rw [upd_other _ _ e']; exact h.front i hi
  ·rcases key i g' hi h1 with k1 | ⟨k1, k1'⟩ <;> rcases key j g' hj h2 with k2 | ⟨k2, k2'⟩
   ·exact h.ap i j g' hi hj k1 k2
   ·have := hold i g' hi k1; have := hnew g' k2'; omega
   ·have := hold j g' hj k2; have := hnew g' k1'; omega
   ·omega

/-- One element of a row is written. -/
theorem Two.put (h : Two f B e s w K R Y 0 G Z) {k : Nat} (hk : k < K) {g : Nat} (hg : (R k).ownBlock = some g) {x : α} {i : Nat} (hf : Fr (fun b => b = g) w w') (ho : w'.ownsRow B e s (R k) (Y k).length (((Y k).set i x).flatMap f)) :
  Two f B e s w' K R (upd Y k ((Y k).set i x)) 0 G Z := by
 refine Two.start (fun j hj => ?_) (fun i j g hi hj h1 h2 => h.ap i j g hi hj (.inl h1) (.inl h2)) G Z
 by_cases e' : j = k
 ·subst e'; rw [upd_same, List.length_set]; exact ho
 ·rw [upd_other _ _ e']
  refine owns_fr (h.own1 j hj) hf ?_
  rintro g' hg' rfl
  exact e' (h.ap j k g' hj hk (.inl hg') (.inl hg))
end
end Go.Proofs.Ytdnkffplkleolaa
namespace Go.Proofs.Ytdnkffplkleolaa

/-- A node, a rule, as plain data. -/
structure Nd where
 kind : Int
 c0 : Int
 c1 : Int
 c2 : Int
 c3 : Int
 text : ByteArray
 rule : Int
 lev : Int
 kids : List Int
structure Ru where
 name : ByteArray
 body : Int
structure Gr where
 rules : List Ru
 nodes : List Nd

def kidsF (f : Nat → Option (Nat × Nat)) : List Int → Nat → Nat → Option (Nat × Nat)
 | [], m, h => some (m, h)
 | k :: ks, m, h => if k = (m : Int) then (match f m with | some (to, hh) => kidsF f ks to (max h (1 + hh)) | none => none) else none
/-- The node behind the last one of a node, and its height; none: its nodes do not stand in preorder, or it is higher. -/
def aft (N : List Nd) : Nat → Nat → Option (Nat × Nat)
 | 0, _ => none
 | f + 1, n => match N[n]? with | some x => kidsF (aft N f) x.kids (n + 1) 1 | none => none

section
variable {N : List Nd}
theorem kidsF_mono {f g : Nat → Option (Nat × Nat)} : ∀ (ks : List Int) (m h : Nat) {to hh : Nat}, kidsF f ks m h = some (to, hh) → (∀ a b c, f a = some (b, c) → c < hh → g a = some (b, c)) → kidsF g ks m h = some (to, hh) ∧ h ≤ hh
 | [], m, h, to, hh, e, _ => by
  simp only [kidsF, Option.some.injEq, Prod.mk.injEq] at e ⊢
  exact ⟨e, by omega⟩
 | k :: ks, m, h, to, hh, e, hg => by
  simp only [kidsF] at e ⊢
  by_cases hk : k = (m : Int)
  ·rw [if_pos hk] at e
   rw [if_pos hk]
   cases hf : f m with
   | none => rw [hf] at e; cases e
   | some p =>
    obtain ⟨t1, h1⟩ := p
    rw [hf] at e
    simp only at e
    obtain ⟨r1, r2⟩ := kidsF_mono ks t1 (max h (1 + h1)) e hg
    rw [hg m t1 h1 hf (by omega)]
    exact ⟨r1, by omega⟩
  ·rw [if_neg hk] at e; cases e
theorem aft_mono : ∀ {f n to h : Nat}, aft N f n = some (to, h) → 1 ≤ h ∧ h ≤ f ∧ ∀ g, h ≤ g → aft N g n = some (to, h)
 | 0, _, _, _, e => by cases e
 | f + 1, n, to, h, e => by
  simp only [aft] at e
  cases hx : N[n]? with
  | none => rw [hx] at e; cases e
  | some x =>
   rw [hx] at e
   simp only at e
   have ih : ∀ a b c, aft N f a = some (b, c) → 1 ≤ c ∧ c ≤ f ∧ ∀ g, c ≤ g → aft N g a = some (b, c) := fun a b c h => aft_mono h
   have hb : ∀ (ks : List Int) (m h0 : Nat) {to h : Nat}, kidsF (aft N f) ks m h0 = some (to, h) → h0 ≤ f + 1 → h ≤ f + 1 := by
    intro ks
    induction ks with
    | nil => intro m h0 to h e he; simp only [kidsF, Option.some.injEq, Prod.mk.injEq] at e; omega
    | cons k ks ihk =>
     intro m h0 to h e he
     simp only [kidsF] at e
     by_cases hk : k = (m : Int)
     ·rw [if_pos hk] at e
      cases hf : aft N f m with
      | none => rw [hf] at e; cases e
      | some p =>
       obtain ⟨t1, h1⟩ := p
       rw [hf] at e
       simp only at e
       have := (ih m t1 h1 hf).2.1
       exact ihk t1 _ e (by omega)
     ·rw [if_neg hk] at e; cases e
   have h1 := kidsF_mono x.kids (n + 1) 1 e (g := aft N f) (fun a b c h _ => h)
   refine ⟨h1.2, hb _ _ _ e (by omega), fun g hg => ?_⟩
   obtain ⟨g, rfl⟩ : ∃ g', g = g' + 1 := ⟨g - 1, by omega⟩
   simp only [aft, hx]
   exact (kidsF_mono x.kids (n + 1) 1 e (fun a b c h hc => (ih a b c h).2.2 g (by omega))).1
theorem aft_lt {f n to h : Nat} (e : aft N f n = some (to, h)) : n < N.length := by
 cases f with
 | zero => cases e
 | succ f =>
  simp only [aft] at e
  cases hx : N[n]? with
  | none => rw [hx] at e; cases e
  | some x => exact (List.getElem?_eq_some_iff.1 hx).1

/-- The range of a node: it begins behind it and ends within the nodes; each node in it has a range that lies in it. -/
theorem kidsF_range {f : Nat} (ih : ∀ {n to h : Nat}, aft N f n = some (to, h) → n < to ∧ to ≤ N.length ∧ ∀ j, n ≤ j → j < to → ∃ to' h', aft N f j = some (to', h') ∧ to' ≤ to) :
  ∀ (ks : List Int) (m h : Nat) {to hh : Nat}, m ≤ N.length → kidsF (aft N f) ks m h = some (to, hh) → m ≤ to ∧ to ≤ N.length ∧ ∀ j, m ≤ j → j < to → ∃ to' h', aft N f j = some (to', h') ∧ to' ≤ to
 | [], m, h, to, hh, hm, e => by
  simp only [kidsF, Option.some.injEq, Prod.mk.injEq] at e
  exact ⟨by omega, by omega, fun j h1 h2 => by omega⟩
 | k :: ks, m, h, to, hh, hm, e => by
  simp only [kidsF] at e
  by_cases hk : k = (m : Int)
  ·rw [if_pos hk] at e
   cases hf : aft N f m with
   | none => rw [hf] at e; cases e
   | some p =>
    obtain ⟨t1, h1⟩ := p
    rw [hf] at e
    simp only at e
    obtain ⟨q1, q2, q3⟩ := ih hf
    obtain ⟨r1, r2, r3⟩ := kidsF_range ih ks t1 _ q2 e
    refine ⟨by omega, r2, fun j h1 h2 => ?_⟩
    by_cases hj : j < t1
    ·obtain ⟨to', h', e', l'⟩ := q3 j h1 hj
     exact ⟨to', h', e', by omega⟩
    ·exact r3 j (by omega) h2
  ·rw [if_neg hk] at e; cases e
theorem aft_range : ∀ {f n to h : Nat}, aft N f n = some (to, h) → n < to ∧ to ≤ N.length ∧ ∀ j, n ≤ j → j < to → ∃ to' h', aft N f j = some (to', h') ∧ to' ≤ to
 | 0, _, _, _, e => by cases e
 | f + 1, n, to, h, e => by
  have hn := aft_lt e
  have e0 := e
  simp only [aft] at e
  cases hx : N[n]? with
  | none => rw [hx] at e; cases e
  | some x =>
   rw [hx] at e
   simp only at e
   obtain ⟨r1, r2, r3⟩ := kidsF_range (fun h => aft_range h) x.kids (n + 1) 1 (by omega) e
   refine ⟨by omega, r2, fun j h1 h2 => ?_⟩
   by_cases hj : j = n
   ·subst hj; exact ⟨to, h, e0, Nat.le_refl _⟩
   ·obtain ⟨to', h', e', l'⟩ := r3 j (by omega) h2
    have := aft_mono e'
    exact ⟨to', h', this.2.2 (f + 1) (by omega), l'⟩
end

/-- What is known of the nodes from one on: of each its size and its height. -/
def kidsT (n : Nat) (T : List (Nat × Nat)) (len : Nat) : List Int → Nat → Nat → Option (Nat × Nat)
 | [], m, h => some (m, h)
 | k :: ks, m, h => if k ≠ (m : Int) ∨ (len : Int) ≤ k then none else kidsT n T len ks (m + (T.getD (m - n) (0, 0)).1) (max h (T.getD (m - n) (0, 0)).2)
/-- Of the last d nodes. -/
def tabs (N : List Nd) : Nat → Option (List (Nat × Nat))
 | 0 => some []
 | d + 1 => match tabs N d with
  | none => none
  | some T => match N[N.length - (d + 1)]? with
   | none => none
   | some x => match kidsT (N.length - d) T N.length x.kids (N.length - d) 0 with
    | none => none
    | some (next, high) => some ((next - (N.length - (d + 1)), high + 1) :: T)

section
variable {N : List Nd}
/-- The table agrees with the ranges. -/
def TabOk (N : List Nd) (n : Nat) (T : List (Nat × Nat)) : Prop := T.length = N.length - n ∧ ∀ j, n ≤ j → j < N.length → aft N (N.length + 1) j = some (j + (T.getD (j - n) (0, 0)).1, (T.getD (j - n) (0, 0)).2)

theorem kidsT_kidsF {n : Nat} {T : List (Nat × Nat)} (hT : TabOk N n T) : ∀ (ks : List Int) (m h : Nat), n ≤ m → m ≤ N.length →
  (match kidsT n T N.length ks m h with | some (to, hh) => some (to, hh + 1) | none => none) = kidsF (aft N (N.length + 1)) ks m (h + 1)
 | [], m, h, _, _ => by simp [kidsT, kidsF]
 | k :: ks, m, h, hn, hm => by
  simp only [kidsT, kidsF]
  by_cases hk : k = (m : Int)
  ·subst hk
   rw [if_pos rfl]
   by_cases hl : m < N.length
   ·have ha := hT.2 m hn hl
    have hr := aft_range ha
    rw [if_neg (by omega), ha]
    have ih := kidsT_kidsF hT ks (m + (T.getD (m - n) (0, 0)).1) (max h (T.getD (m - n) (0, 0)).2) (by omega) hr.2.1
    rw [ih]
    congr 1
    omega
   ·rw [if_pos (by omega)]
    have : aft N (N.length + 1) m = none := by
     cases e : aft N (N.length + 1) m with
     | none => rfl
     | some p => exact absurd (aft_lt e) hl
    rw [this]
  ·rw [if_pos (.inl hk), if_neg hk]

theorem aft_len {f n to h : Nat} (e : aft N f n = some (to, h)) : h ≤ N.length - n := by
 induction f generalizing n to h with
 | zero => cases e
 | succ f ih =>
  have hn := aft_lt e
  simp only [aft] at e
  cases hx : N[n]? with
  | none => rw [hx] at e; cases e
  | some x =>
   rw [hx] at e
   simp only at e
   have hk : ∀ (ks : List Int) (m h0 : Nat) {to h : Nat}, n + 1 ≤ m → h0 ≤ N.length - n → kidsF (aft N f) ks m h0 = some (to, h) → h ≤ N.length - n := by
    intro ks
    induction ks with
    | nil => intro m h0 to h _ h1 e; simp only [kidsF, Option.some.injEq, Prod.mk.injEq] at e; omega
    | cons k ks ihk =>
     intro m h0 to h hm h1 e
     simp only [kidsF] at e
     by_cases hk : k = (m : Int)
     ·rw [if_pos hk] at e
      cases hf : aft N f m with
      | none => rw [hf] at e; cases e
      | some p =>
       obtain ⟨t1, h2⟩ := p
       rw [hf] at e
       simp only at e
       have h3 := ih hf
       have h4 := aft_range hf
       have h5 := aft_lt hf
       exact ihk t1 _ (by omega) (by omega) e
     ·rw [if_neg hk] at e; cases e
   exact hk _ _ _ (Nat.le_refl _) (by omega) e

/-- The table stands just if each node has a range. -/
theorem tabs_ok : ∀ d, d ≤ N.length → (∀ T, tabs N d = some T → TabOk N (N.length - d) T) ∧ (tabs N d = none → ∃ j, N.length - d ≤ j ∧ j < N.length ∧ aft N (N.length + 1) j = none)
 | 0, _ => ⟨fun T h => by simp only [tabs, Option.some.injEq] at h; subst h; exact ⟨by simp, fun j h1 h2 => by omega⟩, fun h => by cases h⟩
 | d + 1, hd => by
  obtain ⟨i1, i2⟩ := tabs_ok d (by omega)
  simp only [tabs]
  cases hT : tabs N d with
  | none =>
   obtain ⟨j, h1, h2, h3⟩ := i2 hT
   exact ⟨fun T h => (nomatch h), fun _ => ⟨j, by omega, h2, h3⟩⟩
  | some T =>
   have hok := i1 T hT
   have hlt : N.length - (d + 1) < N.length := by omega
   have hx : N[N.length - (d + 1)]? = some N[N.length - (d + 1)] := List.getElem?_eq_getElem hlt
   simp only [hx]
   have hkk := kidsT_kidsF hok N[N.length - (d + 1)].kids (N.length - d) 0 (Nat.le_refl _) (by omega)
   have haf : aft N (N.length + 2) (N.length - (d + 1)) = kidsF (aft N (N.length + 1)) N[N.length - (d + 1)].kids (N.length - d) 1 := by
    simp only [aft, hx]
    congr 1
    omega
   cases hk : kidsT (N.length - d) T N.length N[N.length - (d + 1)].kids (N.length - d) 0 with
   | none =>
    rw [hk] at hkk
    refine ⟨fun T h => (nomatch h), fun _ => ⟨N.length - (d + 1), by omega, hlt, ?_⟩⟩
    cases e : aft N (N.length + 1) (N.length - (d + 1)) with
    | none => rfl
    | some p =>
     have := (aft_mono e).2.2 (N.length + 2) (by have := (aft_mono e).2.1; omega)
     rw [haf, ← hkk] at this
     cases this
   | some p =>
    obtain ⟨next, high⟩ := p
    rw [hk] at hkk
    simp only at hkk
    rw [← haf] at hkk
    have hm := aft_mono hkk.symm
    have hle := aft_len hkk.symm
    have hra := aft_range hkk.symm
    have he := hm.2.2 (N.length + 1) (by omega)
    refine ⟨fun T' h => ?_, fun h => (nomatch h)⟩
    simp only [Option.some.injEq] at h
    subst h
    refine ⟨by simp only [List.length_cons, hok.1]; omega, fun j h1 h2 => ?_⟩
    by_cases hj : j = N.length - (d + 1)
    ·subst hj
     rw [Nat.sub_self, List.getD_cons_zero, he]
     simp only [Option.some.injEq, Prod.mk.injEq, and_true]
     omega
    ·rw [hok.2 j (by omega) h2]
     obtain ⟨q, hq⟩ : ∃ q, j - (N.length - (d + 1)) = q + 1 := ⟨j - (N.length - d), by omega⟩
     rw [hq, List.getD_cons_succ, show q = j - (N.length - d) by omega]
end
end Go.Proofs.Ytdnkffplkleolaa
namespace Go.Proofs.Ytdnkffplkleolaa

/-- A byte is a letter; a digit. -/
def letB (c : Nat) : Bool := (97 ≤ c && c ≤ 122) || (65 ≤ c && c ≤ 90) || c == 95
def digB (c : Nat) : Bool := 48 ≤ c && c ≤ 57
def nameB (s : ByteArray) : Bool :=
 decide (1 ≤ s.size) && decide (s.size ≤ 32) && (List.range s.size).all fun i => letB (s.get! i).toNat || (decide (1 ≤ i) && digB (s.get! i).toNat)
/-- The place of the rule of a name. -/
def ruleIx : List Ru → ByteArray → Int
 | [], _ => -1
 | r :: rs, s => if r.name = s then 0 else (if ruleIx rs s < 0 then -1 else ruleIx rs s + 1)

def clsB (x : Nd) : Bool := x.c0 == 0 && x.c1 == 0 && x.c2 == 0 && x.c3 == 0
def txtB (x : Nd) : Bool := x.text.size == 0
def calB (x : Nd) : Bool := x.rule == 0 && x.lev == 0
/-- Has a node what its kind wants? -/
def nodeB (rules : Nat) (x : Nd) : Bool :=
 if x.kind = 1 ∨ x.kind = 2 then clsB x && txtB x && calB x && x.kids.length == 0
 else if x.kind = 3 then !clsB x && txtB x && calB x && x.kids.length == 0
 else if x.kind = 4 then clsB x && !txtB x && decide (x.text.size ≤ 64) && calB x && x.kids.length == 0
 else if x.kind = 5 then clsB x && txtB x && decide (0 ≤ x.rule) && decide (x.rule < rules) && decide (0 ≤ x.lev) && decide (x.lev ≤ 99) && x.kids.length == 0
 else if x.kind = 6 ∨ x.kind = 7 then clsB x && txtB x && calB x && decide (2 ≤ x.kids.length) && decide (x.kids.length ≤ 64)
 else if 8 ≤ x.kind ∧ x.kind ≤ 12 then clsB x && txtB x && calB x && x.kids.length == 1
 else false

/-- The reference's loop over the rules from number k on. -/
def rulR (G : Gr) : List Ru → Nat → Nat → Option Nat
 | [], _, next => some next
 | r :: rs, k, next => if nameB r.name = true ∧ ruleIx G.rules r.name = k ∧ r.body = next then (match aft G.nodes 16 next with | some (to, _) => rulR G rs (k + 1) to | none => none) else none
/-- The program's, with its table. -/
def rulP (G : Gr) (T : List (Nat × Nat)) : List Ru → Nat → Nat → Option Nat
 | [], _, next => some next
 | r :: rs, k, next => if nameB r.name = true ∧ ruleIx G.rules r.name = k ∧ r.body = next ∧ next < G.nodes.length ∧ (T.getD next (0, 0)).2 ≤ 16 then rulP G T rs (k + 1) (next + (T.getD next (0, 0)).1) else none
def sizB (G : Gr) : Bool := decide (1 ≤ G.rules.length) && decide (G.rules.length ≤ 32) && decide (G.nodes.length ≤ 2048)
def rightR (G : Gr) : Bool := sizB G && G.nodes.all (nodeB G.rules.length) && rulR G G.rules 0 0 == some G.nodes.length
def rightP (G : Gr) : Bool := sizB G && G.nodes.all (nodeB G.rules.length) && (match tabs G.nodes G.nodes.length with | some T => rulP G T G.rules 0 0 == some G.nodes.length | none => false)

section
variable {G : Gr}
theorem aft16 {T : List (Nat × Nat)} (hT : TabOk G.nodes 0 T) {n : Nat} (hn : n < G.nodes.length) :
  aft G.nodes 16 n = if (T.getD n (0, 0)).2 ≤ 16 then some (n + (T.getD n (0, 0)).1, (T.getD n (0, 0)).2) else none := by
 have h := hT.2 n (Nat.zero_le _) hn
 rw [Nat.sub_zero] at h
 have hm := aft_mono h
 by_cases hc : (T.getD n (0, 0)).2 ≤ 16
 ·rw [if_pos hc]
  exact hm.2.2 16 hc
 ·rw [if_neg hc]
  cases e : aft G.nodes 16 n with
  | none => rfl
  | some p =>
   obtain ⟨to, hh⟩ := p
   have h1 := aft_mono e
   have h2 := h1.2.2 (max 16 (G.nodes.length + 1)) (by omega)
   have h3 := hm.2.2 (max 16 (G.nodes.length + 1)) (by omega)
   rw [h2] at h3
   simp only [Option.some.injEq, Prod.mk.injEq] at h3
   omega
theorem rulP_rulR {T : List (Nat × Nat)} (hT : TabOk G.nodes 0 T) : ∀ (rs : List Ru) (k next : Nat), rulP G T rs k next = rulR G rs k next
 | [], _, _ => rfl
 | r :: rs, k, next => by
  simp only [rulP, rulR]
  by_cases h1 : nameB r.name = true ∧ ruleIx G.rules r.name = k ∧ r.body = next
  ·rw [if_pos h1]
   by_cases hn : next < G.nodes.length
   ·rw [aft16 hT hn]
    by_cases hc : (T.getD next (0, 0)).2 ≤ 16
    ·rw [if_pos ⟨h1.1, h1.2.1, h1.2.2, hn, hc⟩, if_pos hc]
     exact rulP_rulR hT rs _ _
    ·rw [if_neg (fun h => hc h.2.2.2.2), if_neg hc]
   ·rw [if_neg (fun h => hn h.2.2.2.1)]
    cases e : aft G.nodes 16 next with
    | none => rfl
    | some p => exact absurd (aft_lt e) hn
  ·rw [if_neg h1, if_neg (fun h => h1 ⟨h.1, h.2.1, h.2.2.1⟩)]
/-- What the rules' bodies reach has a range. -/
theorem rulR_all : ∀ (rs : List Ru) (k next : Nat) {fin : Nat}, rulR G rs k next = some fin → next ≤ fin ∧ ∀ j, next ≤ j → j < fin → ∃ p, aft G.nodes 16 j = some p
 | [], _, next, fin, h => by simp only [rulR, Option.some.injEq] at h; exact ⟨by omega, fun j h1 h2 => by omega⟩
 | r :: rs, k, next, fin, h => by
  simp only [rulR] at h
  by_cases h1 : nameB r.name = true ∧ ruleIx G.rules r.name = k ∧ r.body = next
  ·rw [if_pos h1] at h
   cases e : aft G.nodes 16 next with
   | none => rw [e] at h; cases h
   | some p =>
    obtain ⟨to, hh⟩ := p
    rw [e] at h
    simp only at h
    obtain ⟨q1, q2, q3⟩ := aft_range e
    obtain ⟨r1, r2⟩ := rulR_all rs _ _ h
    refine ⟨by omega, fun j h1 h2 => ?_⟩
    by_cases hj : j < to
    ·obtain ⟨a, b, c, _⟩ := q3 j h1 hj
     exact ⟨_, c⟩
    ·exact r2 j (by omega) h2
  ·rw [if_neg h1] at h; cases h
theorem rightP_rightR : rightP G = rightR G := by
 unfold rightP rightR
 congr 1
 have h := tabs_ok (N := G.nodes) G.nodes.length (Nat.le_refl _)
 rw [Nat.sub_self] at h
 cases hT : tabs G.nodes G.nodes.length with
 | some T => simp only [rulP_rulR (h.1 T hT)]
 | none =>
  obtain ⟨j, h1, h2, h3⟩ := h.2 hT
  simp only
  symm
  rw [beq_eq_false_iff_ne]
  intro e
  obtain ⟨_, r2⟩ := rulR_all _ _ _ e
  obtain ⟨⟨to, hh⟩, hp⟩ := r2 j h1 h2
  have h4 := (aft_mono hp).2.2 (G.nodes.length + 1) (by have := aft_len hp; omega)
  rw [h3] at h4
  cases h4
end
end Go.Proofs.Ytdnkffplkleolaa
namespace Go.Proofs.Ytdnkffplkleolaa
open Go.RowKit

theorem fl_len {α : Type} {f : α → List Value} {s : Nat} (hf : ∀ x, (f x).length = s) : ∀ l : List α, (l.flatMap f).length = l.length * s
 | [] => by simp
 | x :: r => by rw [List.flatMap_cons, List.length_append, hf, fl_len hf r, List.length_cons, Nat.succ_mul, Nat.add_comm]
theorem fl_get {α : Type} {f : α → List Value} {s : Nat} (hf : ∀ x, (f x).length = s) : ∀ (l : List α) (i j : Nat) (hi : i < l.length), j < s → (l.flatMap f)[i * s + j]? = (f l[i])[j]?
 | [], i, j, hi, _ => by simp at hi
 | x :: r, 0, j, hi, hj => by
  rw [List.flatMap_cons, List.getElem?_append_left (by rw [hf]; omega)]
  simp
 | x :: r, i + 1, j, hi, hj => by
  rw [List.flatMap_cons, List.getElem?_append_right (by rw [hf, Nat.succ_mul]; omega), hf, show (i + 1) * s + j - s = i * s + j by rw [Nat.succ_mul]; omega]
  rw [fl_get hf r i j (by simpa using hi) hj]
  simp
/-- Cell j of element i, where the elements have s cells each. -/
theorem Sv.at {α : Type} {f : α → List Value} {s : Nat} (hf : ∀ x, (f x).length = s) {w : World} {ao : Option Addr} {n cap : Nat} {l : List α} (h : Sv w ao n cap s (l.flatMap f)) (hs : 0 < s) (i : Nat) (hi : i < l.length) :
  ∃ a, ao = some a ∧ ∀ j v, (f l[i])[j]? = some v → w.cell? ((a.add (i * s)).add j) = some v := by
 have hl := fl_len hf l
 have hb : i * s + s ≤ l.length * s := by rw [← Nat.succ_mul]; exact Nat.mul_le_mul_right s (by omega)
 obtain ⟨a, ha, _⟩ := h.cell (i * s) (by omega)
 refine ⟨a, ha, fun j v hj => ?_⟩
 have hjs : j < s := by have := (List.getElem?_eq_some_iff.1 hj).1; rw [hf] at this; exact this
 obtain ⟨a', ha', hc⟩ := h.cell (i * s + j) (by omega)
 rw [ha] at ha'; cases ha'
 rw [add_add, hc, fl_get hf l i j hi hjs]
 exact hj
theorem Sv.n_eq {α : Type} {f : α → List Value} {s : Nat} (hf : ∀ x, (f x).length = s) (hs : 0 < s) {w : World} {ao : Option Addr} {n cap : Nat} {l : List α} (h : Sv w ao n cap s (l.flatMap f)) : l.length = n := by
 have h1 := h.len
 rw [fl_len hf] at h1
 exact Nat.eq_of_mul_eq_mul_right hs h1
theorem add_off (a : Addr) (i j : Nat) (hj : 0 < j) : (a.add i).add j = ⟨(a.add i).block, (a.add i).off + j, none⟩ := by
 unfold Addr.add
 by_cases h : i = 0 <;> simp [h, show j ≠ 0 by omega]

def inc (l : List Int) : List Value := l.map fun c => .int .i64 c
def ruc (r : Ru) : List Value := [.string r.name, .int .i64 r.body]
def ndc (p : Nd × (Option Addr × Nat)) : List Value := [.int .i64 p.1.kind, .int .u64 p.1.c0, .int .u64 p.1.c1, .int .u64 p.1.c2, .int .u64 p.1.c3, .string p.1.text, .int .i64 p.1.rule, .int .i64 p.1.lev, .slice p.2.1 p.1.kids.length p.2.2]
theorem ruc_len (r : Ru) : (ruc r).length = 2 := rfl
theorem ndc_len (p : Nd × (Option Addr × Nat)) : (ndc p).length = 9 := rfl

/-- The nodes, each with the place of its kids. -/
structure NdW (w : World) (no : Option Addr) (nn nc : Nat) (NK : List (Nd × (Option Addr × Nat))) : Prop where
 sv : Sv w no nn nc 9 (NK.flatMap ndc)
 kids : ∀ p ∈ NK, Sv w p.2.1 p.1.kids.length p.2.2 1 (inc p.1.kids)
 txt : ∀ p ∈ NK, p.1.text.size ≤ 9223372036854775807
structure GrW (w : World) (ro : Option Addr) (rn rc : Nat) (no : Option Addr) (nn nc : Nat) (NK : List (Nd × (Option Addr × Nat))) (G : Gr) : Prop where
 rul : Sv w ro rn rc 2 (G.rules.flatMap ruc)
 nam : ∀ r ∈ G.rules, r.name.size ≤ 9223372036854775807
 nod : NdW w no nn nc NK
 eq : NK.map (·.1) = G.nodes
def grv (ro : Option Addr) (rn rc : Nat) (no : Option Addr) (nn nc : Nat) : Value := .agg #[.slice ro rn rc, .slice no nn nc]
theorem NdW.below {w w' : World} {no : Option Addr} {nn nc : Nat} {NK : List (Nd × (Option Addr × Nat))} (h : NdW w no nn nc NK) (hb : Below w.heap.size w w') : NdW w' no nn nc NK :=
 ⟨h.sv.below hb, fun p hp => (h.kids p hp).below hb, h.txt⟩
theorem GrW.below {w w' : World} {ro : Option Addr} {rn rc : Nat} {no : Option Addr} {nn nc : Nat} {NK : List (Nd × (Option Addr × Nat))} {G : Gr} (h : GrW w ro rn rc no nn nc NK G) (hb : Below w.heap.size w w') : GrW w' ro rn rc no nn nc NK G :=
 ⟨h.rul.below hb, h.nam, h.nod.below hb, h.eq⟩
end Go.Proofs.Ytdnkffplkleolaa
namespace Go.Proofs.Ytdnkffplkleolaa

structure Tw where
 (rule lev fr to kids : Int)
deriving DecidableEq

def spanR (f t : Int) : Bool := decide (0 ≤ f) && decide (f ≤ t)
def spanI (f t f' t' : Int) : Bool := (spanR f t && spanR f' t') && decide (f' ≤ f) && decide (t ≤ t')
/-- What an open twig takes as its next kid. -/
def takesB (sf st u : Int) (x : Tw) : Bool :=
 decide (0 ≤ x.rule) && decide (0 ≤ x.lev) && decide (x.lev ≤ 99) && decide (0 ≤ x.kids) && spanR x.fr x.to && spanI x.fr x.to sf st && decide (u ≤ x.fr)

/-- A twig whose kids are awaited. -/
structure On where
 (left sf st nx : Int)

def On.done (o : On) : Bool := o.left == 0
/-- A stack, its top first, takes a twig. -/
def stp (R : List On) (x : Tw) : Option (List On) :=
 match R.dropWhile On.done with
 | [] => none
 | o :: r => if takesB o.sf o.st o.nx x = true then some (⟨x.kids, x.fr, x.to, x.fr⟩ :: ⟨o.left - 1, o.sf, o.st, x.to⟩ :: r) else none
def runT : List Tw → List On → Option (List On)
 | [], R => some R
 | x :: t, R => (stp R x).bind (runT t)
def base (n : Nat) : On := ⟨n, 0, 9223372036854775807, 0⟩
def forestB (t : List Tw) : Bool := match runT t [base t.length] with | some R => R.dropLast.all On.done | none => false

theorem runT_append : ∀ (t u : List Tw) (R : List On), runT (t ++ u) R = (runT t R).bind (runT u)
 | [], u, R => rfl
 | x :: t, u, R => by
  simp only [List.cons_append, runT]
  cases stp R x with
  | none => rfl
  | some S => exact runT_append t u S

theorem drop_done : ∀ (D : List On) (o : On) (r : List On), (∀ x ∈ D, x.done = true) → o.done = false → (D ++ o :: r).dropWhile On.done = o :: r
 | [], o, r, _, h => by simp [h]
 | d :: D, o, r, hD, h => by
  simp only [List.cons_append, List.dropWhile, hD d (by simp)]
  exact drop_done D o r (fun x hx => hD x (by simp [hx])) h

theorem take_ok (D : List On) (o : On) (r : List On) (hD : ∀ x ∈ D, x.done = true) (ru a b m : Nat) (hl : 1 ≤ o.left) (h0 : 0 ≤ o.sf) (h1 : o.sf ≤ a) (h2 : (b : Int) ≤ o.st) (h3 : o.nx ≤ a) (hab : a ≤ b) :
  stp (D ++ o :: r) ⟨ru, 0, a, b, m⟩ = some (⟨m, a, b, a⟩ :: ⟨o.left - 1, o.sf, o.st, b⟩ :: r) := by
 have hn : o.done = false := by unfold On.done; simp; omega
 unfold stp
 rw [drop_done D o r hD hn]
 have : takesB o.sf o.st o.nx ⟨ru, 0, a, b, m⟩ = true := by
  have e1 : (0 : Int) ≤ ru := by omega
  have e3 : (0 : Int) ≤ m := by omega
  have e4 : (0 : Int) ≤ a := by omega
  have e5 : (a : Int) ≤ b := by omega
  have e6 : o.sf ≤ o.st := by omega
  simp [takesB, spanI, spanR, e1, e3, e4, e5, e6, h0, h1, h2, h3]
 simp only [this, if_true]

/-- A forest of so many trees between two places. -/
inductive Fst : Nat → Nat → List Tw → Nat → Prop
 | nil {a b : Nat} : a ≤ b → Fst a b [] 0
 | cons {a b p q ru m k : Nat} {t u : List Tw} : a ≤ p → Fst p q t m → Fst q b u k → Fst a b (⟨ru, 0, p, q, m⟩ :: (t ++ u)) (k + 1)

theorem Fst.le {a b : Nat} {t : List Tw} {m : Nat} (h : Fst a b t m) : a ≤ b := by
 induction h with
 | nil h => exact h
 | cons h _ _ i1 i2 => omega
theorem Fst.weak {a b : Nat} {t : List Tw} {m : Nat} (h : Fst a b t m) : ∀ {a' b' : Nat}, a' ≤ a → b ≤ b' → Fst a' b' t m := by
 induction h with
 | nil h => intro a' b' h1 h2; exact .nil (by omega)
 | cons h h1 h2 i1 i2 => intro a' b' g1 g2; exact .cons (by omega) h1 (i2 (Nat.le_refl _) g2)
theorem Fst.app {a b : Nat} {t : List Tw} {m : Nat} (h : Fst a b t m) : ∀ {c : Nat} {u : List Tw} {k : Nat}, Fst b c u k → Fst a c (t ++ u) (m + k) := by
 induction h with
 | nil h => intro c u k hu; rw [Nat.zero_add]; exact hu.weak h (Nat.le_refl _)
 | @cons a b p q ru m k t u h h1 h2 i1 i2 =>
  intro c v j hv
  have := Fst.cons (ru := ru) h h1 (i2 hv)
  rw [← List.append_assoc] at this
  rw [show k + 1 + j = k + j + 1 by omega]
  exact this
theorem Fst.twig {a b m : Nat} {t : List Tw} (ru : Nat) (h : Fst a b t m) : Fst a b (⟨ru, 0, a, b, m⟩ :: t) 1 := by
 have := Fst.cons (ru := ru) (Nat.le_refl a) h (.nil (Nat.le_refl b))
 rw [List.append_nil] at this
 exact this

theorem Fst.run {a b : Nat} {t : List Tw} {m : Nat} (h : Fst a b t m) : ∀ (D : List On) (o : On) (r : List On), (∀ x ∈ D, x.done = true) → (m : Int) ≤ o.left → 0 ≤ o.sf → o.sf ≤ a → (b : Int) ≤ o.st → o.nx ≤ a →
  ∃ D' u, runT t (D ++ o :: r) = some (D' ++ ⟨o.left - m, o.sf, o.st, u⟩ :: r) ∧ (∀ x ∈ D', x.done = true) ∧ u ≤ b := by
 induction h with
 | nil h => intro D o r hD hm h0 h1 h2 h3; exact ⟨D, o.nx, by simp [runT], hD, by omega⟩
 | @cons a b p q ru m k t u hap ht hu i1 i2 =>
  intro D o r hD hm h0 h1 h2 h3
  have hpq := ht.le
  have hqb := hu.le
  obtain ⟨D1, u1, e1, e2, e3⟩ := i1 [] ⟨m, p, q, p⟩ (⟨o.left - 1, o.sf, o.st, q⟩ :: r) (by simp) (by simp) (by simp) (by simp) (by simp) (by simp)
  have hd1 : ∀ x ∈ D1 ++ [(⟨(m : Int) - m, p, q, u1⟩ : On)], x.done = true := by
   intro x hx
   rcases List.mem_append.1 hx with hx | hx
   ·exact e2 x hx
   ·simp at hx; subst hx; simp [On.done]
  obtain ⟨D2, u2, g1, g2, g3⟩ := i2 (D1 ++ [⟨(m : Int) - m, p, q, u1⟩]) ⟨o.left - 1, o.sf, o.st, q⟩ r hd1 (by simp only []; omega) h0 (by simp only []; omega) h2 (by simp)
  refine ⟨D2, u2, ?_, g2, g3⟩
  rw [runT, take_ok D o r hD ru p q m (by omega) h0 (by omega) (by omega) (by omega) hpq]
  simp only [List.nil_append] at e1
  simp only [Option.bind_some]
  rw [runT_append, e1]
  simp only [Option.bind_some]
  rw [List.append_assoc] at g1
  simp only [List.cons_append, List.nil_append] at g1
  rw [g1, show o.left - ((k + 1 : Nat) : Int) = o.left - 1 - k by omega]
theorem Fst.len {a b : Nat} {t : List Tw} {m : Nat} (h : Fst a b t m) : m ≤ t.length := by
 induction h with
 | nil h => simp
 | cons h _ _ i1 i2 => simp; omega
theorem Fst.forest {a b : Nat} {t : List Tw} {m : Nat} (h : Fst a b t m) (hb : b ≤ 1000000) : forestB t = true := by
 have hm := h.len
 obtain ⟨D, u, e1, e2, e3⟩ := h.run [] (base t.length) [] (by simp) (by simp [base]; omega) (by simp [base]) (by simp [base]) (by simp [base]; omega) (by simp [base])
 simp only [List.nil_append] at e1
 unfold forestB
 rw [e1]
 simp only [List.dropLast_concat, List.all_eq_true]
 exact e2

/-- How many twigs so many trees take. -/
def afT : Nat → List Tw → Option Nat
 | 0, _ => some 0
 | _ + 1, [] => none
 | k + 1, x :: t => (afT (k + x.kids.toNat) t).map (· + 1)
theorem afT_zero : ∀ t : List Tw, afT 0 t = some 0
 | [] => rfl
 | _ :: _ => rfl
theorem Fst.after {a b : Nat} {t : List Tw} {m : Nat} (h : Fst a b t m) : ∀ (L : Nat) (B : List Tw), afT (m + L) (t ++ B) = (afT L B).map (· + t.length) := by
 induction h with
 | nil h => intro L B; simp
 | @cons a b p q ru m k t u hap ht hu i1 i2 =>
  intro L B
  have h1 := i1 (k + L) (u ++ B)
  have h2 := i2 L B
  rw [show k + 1 + L = (k + L) + 1 by omega, List.cons_append, List.append_assoc]
  simp only [afT, Int.toNat_natCast]
  rw [Nat.add_comm (k + L) m, h1, h2]
  cases afT L B with
  | none => rfl
  | some q => simp only [Option.map_some, List.length_append, List.length_cons]; congr 1; omega

/-- A row of twigs that is a tree. -/
def IsTree (u : List Tw) : Prop := ∀ B, afT 1 (u ++ B) = some u.length
theorem Fst.tree {a b ru p q : Nat} {t : List Tw} {m : Nat} (h : Fst a b t m) : IsTree (⟨ru, 0, p, q, m⟩ :: t) := by
 intro B
 have := h.after 0 B
 simp only [List.cons_append, afT, Int.toNat_natCast, Nat.zero_add]
 rw [Nat.add_zero] at this
 rw [this, afT_zero]
 simp
theorem Fst.trees {a b : Nat} {t : List Tw} {m : Nat} (h : Fst a b t m) : ∃ ts : List (List Tw), t = ts.flatten ∧ ts.length = m ∧ ∀ u ∈ ts, IsTree u := by
 induction h with
 | nil h => exact ⟨[], rfl, rfl, by simp⟩
 | @cons a b p q ru m k t u hap ht hu i1 i2 =>
  obtain ⟨ts, e1, e2, e3⟩ := i2
  refine ⟨(⟨ru, 0, p, q, m⟩ :: t) :: ts, by simp [e1], by simp [e2], ?_⟩
  intro v hv
  rcases List.mem_cons.1 hv with rfl | hv
  ·exact ht.tree
  ·exact e3 v hv
theorem Fst.kids {a b : Nat} {t : List Tw} {m : Nat} (h : Fst a b t m) : ∀ x ∈ t, 0 ≤ x.kids ∧ x.kids ≤ t.length := by
 induction h with
 | nil h => intro x hx; cases hx
 | @cons a b p q ru m k t u hap ht hu i1 i2 =>
  intro x hx
  have := ht.len
  simp only [List.length_cons, List.length_append]
  rcases List.mem_cons.1 hx with rfl | hx
  ·simp only []; omega
  ·rcases List.mem_append.1 hx with hx | hx
   ·have := i1 x hx; omega
   ·have := i2 x hx; omega

/-- A right forest of m trees. -/
structure Fo (t : List Tw) (m : Nat) : Prop where
 forest : forestB t = true
 len : t.length ≤ 1000000
 kids : ∀ x ∈ t, 0 ≤ x.kids ∧ x.kids ≤ 1000000
 trees : ∃ ts : List (List Tw), t = ts.flatten ∧ ts.length = m ∧ ∀ u ∈ ts, IsTree u
theorem Fst.fo {a b : Nat} {t : List Tw} {m : Nat} (h : Fst a b t m) (hb : b ≤ 1000000) (hl : t.length ≤ 1000000) : Fo t m :=
 ⟨h.forest hb, hl, fun x hx => by have := h.kids x hx; omega, h.trees⟩
end Go.Proofs.Ytdnkffplkleolaa
namespace Go.Proofs.Ytdnkffplkleolaa

/-- What comes of a node. -/
structure Rs where
 is : Bool
 en : Nat
 far : Int
 tree : List Tw
 roots : Nat
/-- A rule at a place. -/
structure Ce where
 rule : Nat
 place : Nat
 done : Bool
 res : Rs
structure St where
 cells : List Ce
 round : Bool
 left : Nat
 over : Bool

def failR (far : Int) : Rs := ⟨false, 0, far, [], 0⟩
def toR (en : Nat) : Rs := ⟨true, en, -1, [], 0⟩
def beR (a b : Rs) : Rs := ⟨true, b.en, max a.far b.far, a.tree ++ b.tree, a.roots + b.roots⟩
def triR (a : Rs) (far : Int) : Rs := ⟨a.is, a.en, max a.far far, a.tree, a.roots⟩

def clsAt (x : Nd) (i : Nat) : Int := if i = 0 then x.c0 else if i = 1 then x.c1 else if i = 2 then x.c2 else x.c3
def hasB (x : Nd) (b : Nat) : Bool := (clsAt x (b / 64)) / 2 ^ (b % 64) % 2 == 1
def setR (W : List Nat) (x : Nd) (p : Nat) : Rs := match W[p]? with | some b => if hasB x b then toR (p + 1) else failR p | none => failR p
def anyR (W : List Nat) (p : Nat) : Rs := if p < W.length then toR (p + 1) else failR p
def txtAt (W : List Nat) (s : ByteArray) (p i : Nat) : Bool := W[p + i]? == some (s.get! i).toNat
def txtR (W : List Nat) (s : ByteArray) (p : Nat) : Rs := match (List.range s.size).find? (fun i => !txtAt W s p i) with | some i => failR ((p + i : Nat) : Int) | none => toR (p + s.size)

section
variable (E : St → Nat → Nat → Rs × St)
def seqR : List Int → Rs → St → Rs × St
 | [], r, s => (r, s)
 | k :: ks, r, s => if (E s k.toNat r.en).1.is then seqR ks (beR r (E s k.toNat r.en).1) (E s k.toNat r.en).2 else (failR (max r.far (E s k.toNat r.en).1.far), (E s k.toNat r.en).2)
def altR (p : Nat) : List Int → Int → St → Rs × St
 | [], far, s => (failR far, s)
 | k :: ks, far, s => if (E s k.toNat p).1.is then ({ (E s k.toNat p).1 with far := max far (E s k.toNat p).1.far }, (E s k.toNat p).2) else altR p ks (max far (E s k.toNat p).1.far) (E s k.toNat p).2
def starR (k : Nat) : Nat → Rs → St → Rs × St
 | 0, r, s => (r, s)
 | f + 1, r, s => if (E s k r.en).1.is = true ∧ (E s k r.en).1.en ≠ r.en then starR k f (beR r (E s k r.en).1) (E s k r.en).2 else (triR r (E s k r.en).1.far, (E s k r.en).2)
def keyB (rule p : Nat) (c : Ce) : Bool := c.rule == rule && c.place == p
/-- A rule's own result: with the rule's twig. -/
def ownR (rule p : Nat) (x : Rs) : Rs := if x.is then ⟨true, x.en, x.far, ⟨rule, 0, p, x.en, x.roots⟩ :: x.tree, 1⟩ else x
def open0 (rule p : Nat) (s : St) : St := { s with cells := s.cells ++ [⟨rule, p, false, failR 0⟩] }
def shut (rule p k : Nat) (x : Rs) (s : St) : St := ⟨s.cells.set k ⟨rule, p, true, ownR rule p x⟩, s.round, s.left, s.over || decide (2000 < (ownR rule p x).tree.length)⟩
def callR (G : Gr) (rule p : Nat) (s : St) : Rs × St :=
 match s.cells.find? (keyB rule p) with
 | some c => (c.res, { s with round := s.round || !c.done })
 | none => (ownR rule p (E (open0 rule p s) (match G.rules[rule]? with | some r => r.body.toNat | none => 0) p).1, shut rule p s.cells.length (E (open0 rule p s) (match G.rules[rule]? with | some r => r.body.toNat | none => 0) p).1 (E (open0 rule p s) (match G.rules[rule]? with | some r => r.body.toNat | none => 0) p).2)
/-- A node of a kind, its kids by E. -/
def kindR (G : Gr) (W : List Nat) (x : Nd) (p : Nat) (s : St) : Rs × St :=
 if x.kind = 1 then (toR p, s)
 else if x.kind = 2 then (anyR W p, s)
 else if x.kind = 3 then (setR W x p, s)
 else if x.kind = 4 then (txtR W x.text p, s)
 else if x.kind = 5 then callR E G x.rule.toNat p s
 else if x.kind = 6 then seqR E x.kids (toR p) s
 else if x.kind = 7 then altR E p x.kids (-1) s
 else if x.kind = 8 then starR E (x.kids.headD 0).toNat (s.left + 1) (toR p) s
 else if x.kind = 9 then (if (E s (x.kids.headD 0).toNat p).1.is then starR E (x.kids.headD 0).toNat ((E s (x.kids.headD 0).toNat p).2.left + 1) (E s (x.kids.headD 0).toNat p).1 (E s (x.kids.headD 0).toNat p).2 else E s (x.kids.headD 0).toNat p)
 else if x.kind = 10 then (if (E s (x.kids.headD 0).toNat p).1.is then E s (x.kids.headD 0).toNat p else (⟨true, p, (E s (x.kids.headD 0).toNat p).1.far, [], 0⟩, (E s (x.kids.headD 0).toNat p).2))
 else if (E s (x.kids.headD 0).toNat p).1.is = decide (x.kind = 12) then (⟨true, p, (E s (x.kids.headD 0).toNat p).1.far, [], 0⟩, (E s (x.kids.headD 0).toNat p).2)
 else (failR (E s (x.kids.headD 0).toNat p).1.far, (E s (x.kids.headD 0).toNat p).2)
end

def over1 (s : St) : St := { s with over := s.over || s.left == 0 }
def less1 (s : St) : St := { s with left := s.left - 1 }
/-- A node at a place. -/
def ev (G : Gr) (W : List Nat) : Nat → St → Nat → Nat → Rs × St
 | 0, s, _, _ => (failR (-1), { s with over := true })
 | f + 1, s, n, p => if s.round = true ∨ (over1 s).over = true then (failR (-1), over1 s) else match G.nodes[n]? with | none => (failR (-1), over1 s) | some x => kindR (ev G W f) G W x p (less1 (over1 s))

/-- What a right grammar's nodes are. -/
structure GOk (G : Gr) : Prop where
 nod : ∀ (n : Nat) (x : Nd), G.nodes[n]? = some x → nodeB G.rules.length x = true
 kid : ∀ (n : Nat) (x : Nd), G.nodes[n]? = some x → ∀ k ∈ x.kids, 0 ≤ k ∧ k < G.nodes.length
 bod : ∀ r ∈ G.rules, 0 ≤ r.body ∧ r.body < G.nodes.length
 cls : ∀ x ∈ G.nodes, ∀ i, 0 ≤ clsAt x i ∧ clsAt x i < 2 ^ 64
 nl : G.nodes.length ≤ 2048
 rl : G.rules.length ≤ 32

def key (c : Ce) : Nat × Nat := (c.rule, c.place)
/-- A result at a place of an input of so many bytes. -/
structure RsOk (L p : Nat) (r : Rs) : Prop where
 lo : -1 ≤ r.far
 hi : r.far ≤ L
 yes : r.is = true → r.en ≤ L ∧ Fst p r.en r.tree r.roots
 no : r.is = false → r.en = 0 ∧ r.tree = [] ∧ r.roots = 0
structure CeOk (R L : Nat) (o : Bool) (c : Ce) : Prop where
 rule : c.rule < R
 place : c.place ≤ L
 res : RsOk L c.place c.res
 undone : c.done = false → c.res = failR 0
 len : o = true ∨ c.res.tree.length ≤ 2000
structure StOk (R L : Nat) (s : St) : Prop where
 ce : ∀ c ∈ s.cells, CeOk R L s.over c
 nd : (s.cells.map key).Nodup
/-- From one state to another one. -/
structure Step (s s' : St) : Prop where
 left : s'.left ≤ s.left
 over : s.over = true → s'.over = true
 round : s.round = true → s'.round = true
 keys : ∃ m, s'.cells.map key = s.cells.map key ++ m
 cnt : s'.cells.length + s'.left ≤ s.cells.length + s.left
structure Post (R L p : Nat) (s : St) (o : Rs × St) : Prop where
 st : StOk R L o.2
 step : Step s o.2
 rs : RsOk L p o.1
 len : o.1.tree.length + 2001 * o.2.left ≤ 2001 * s.left
 dec : o.1.is = true → o.2.left < s.left

theorem Step.refl (s : St) : Step s s := ⟨Nat.le_refl _, id, id, ⟨[], by simp⟩, Nat.le_refl _⟩
theorem Step.trans {a b c : St} (h : Step a b) (k : Step b c) : Step a c := by
 obtain ⟨m, hm⟩ := h.keys
 obtain ⟨m', hm'⟩ := k.keys
 exact ⟨by have := h.left; have := k.left; omega, fun x => k.over (h.over x), fun x => k.round (h.round x), ⟨m ++ m', by rw [hm', hm, List.append_assoc]⟩, by have := h.cnt; have := k.cnt; omega⟩
theorem Step.no {a b : St} (h : Step a b) (ho : b.over = false) : a.over = false := by
 cases e : a.over
 ·rfl
 ·rw [h.over e] at ho; cases ho
end Go.Proofs.Ytdnkffplkleolaa
