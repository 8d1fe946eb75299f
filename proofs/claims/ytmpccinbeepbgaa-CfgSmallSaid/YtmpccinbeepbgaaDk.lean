/- The chart while it is filled. -/
import Derived.Test.YtmpccinbeepbgaaDa
import Derived.Test.YtmpccinbeepbgaaTt
import Derived.OwnWalk
import Derived.BigRegion
import Derived.IntWalk
namespace Go.Proofs.Ytmpccinbeepbgaa
open Go.RowKit

def updV (V : Nat → Nat → Nat → Nat) (i a b v : Nat) : Nat → Nat → Nat → Nat := fun i' a' b' => if i' = i ∧ a' = a ∧ b' = b then v else V i' a' b'
/-- The chart, its rows the call's own since w0. -/
structure ChW (w0 w : World) (cb : Nat) (lo : Option Addr) (ln lc : Nat) (wo : Option Addr) (wn wc : Nat) (l : Tab) (W : List Int) (t0 tc : Nat) (r1 c1 : Nat → Nat) (r2 : Nat → Nat → Nat) (V : Nat → Nat → Nat → Nat) : Prop where
  row : hrow w cb #[.slice lo ln lc, .slice wo wn wc, .slice (some ⟨t0, 0, none⟩) (ln + 1) tc] 68
  ops : Sv w0 lo ln lc 2 (opc l)
  byt : Sv w0 wo wn wc 1 (byc W)
  bel : Below w0.heap.size w0 w
  tow : w.ownsRow w0.heap.size 65 1 (.slice (some ⟨t0, 0, none⟩) (ln + 1) tc) (ln + 1) ((List.range (ln + 1)).map fun i => .slice (some ⟨r1 i, 0, none⟩) (wn + 1) (c1 i))
  low : ∀ i, i ≤ ln → w.ownsRow w0.heap.size 47 1 (.slice (some ⟨r1 i, 0, none⟩) (wn + 1) (c1 i)) (wn + 1) ((List.range (wn + 1)).map fun a => .slice (some ⟨r2 i a, 0, none⟩) (wn + 1) (wn + 1))
  iow : ∀ i a, i ≤ ln → a ≤ wn → w.ownsRow w0.heap.size 3 1 (.slice (some ⟨r2 i a, 0, none⟩) (wn + 1) (wn + 1)) (wn + 1) ((List.range (wn + 1)).map fun b => .int .i64 (V i a b))
  inj : ∀ i a i' a', i ≤ ln → a ≤ wn → i' ≤ ln → a' ≤ wn → r2 i a = r2 i' a' → i = i' ∧ a = a'
section
variable {w0 w w' : World} {cb : Nat} {lo : Option Addr} {ln lc : Nat} {wo : Option Addr} {wn wc : Nat} {l : Tab} {W : List Int} {t0 tc : Nat} {r1 c1 : Nat → Nat} {r2 : Nat → Nat → Nat} {V : Nat → Nat → Nat → Nat}
theorem owns_bd {B e s n g c : Nat} {xs : List Value} (h : w.ownsRow B e s (.slice (some ⟨g, 0, none⟩) n c) n xs) : n ≤ c ∧ c ≤ 9223372036854775807 := by
  obtain ⟨ao, cap, hv, hs⟩ := Sv.of_owns h
  cases hv
  exact hs.bound
theorem ChW.ch (h : ChW w0 w cb lo ln lc wo wn wc l W t0 tc r1 c1 r2 V) : Ch w cb lo ln lc wo wn wc l W t0 tc r1 c1 r2 V := by
  refine ⟨h.row.cell 0, h.row.cell 1, h.row.cell 2, owns_bd h.tow, h.ops.below h.bel, h.byt.below h.bel, fun i hi => ⟨?_, owns_bd (h.low i hi)⟩, fun i a hi ha => ?_, fun i a b hi ha hb => ?_⟩
  · rw [h.tow.cellAt i (by omega), List.getElem?_map, List.getElem?_range (by omega)]; rfl
  · rw [(h.low i hi).cellAt a (by omega), List.getElem?_map, List.getElem?_range (by omega)]; rfl
  · rw [(h.iow i a hi ha).cellAt b (by omega), List.getElem?_map, List.getElem?_range (by omega)]; rfl
theorem ChW.below (h : ChW w0 w cb lo ln lc wo wn wc l W t0 tc r1 c1 r2 V) (hb : Below w.heap.size w w') : ChW w0 w' cb lo ln lc wo wn wc l W t0 tc r1 c1 r2 V := by
  have hf : Fr (fun _ => False) w w' := Fr.of_below hb
  exact ⟨h.row.below hb, h.ops, h.byt, h.bel.trans (hb.mono h.bel.size), owns_fr h.tow hf (fun _ _ h => h), fun i hi => owns_fr (h.low i hi) hf (fun _ _ h => h), fun i a hi ha => owns_fr (h.iow i a hi ha) hf (fun _ _ h => h), h.inj⟩
/-- One number is written. -/
theorem ChW.put (h : ChW w0 w cb lo ln lc wo wn wc l W t0 tc r1 c1 r2 V) {i a b : Nat} (hi : i ≤ ln) (ha : a ≤ wn) (hb : b ≤ wn) (v : Nat) :
    ChW w0 (w.setCell ⟨r2 i a, b, none⟩ (.int .i64 v)) cb lo ln lc wo wn wc l W t0 tc r1 c1 r2 (updV V i a b v) := by
  have ho := h.iow i a hi ha
  have hf := Fr.setCell w ⟨r2 i a, b, none⟩ (.int .i64 v)
  have hlt := ho.lt (r2 i a) rfl
  have hst := (ho.stored b (.int .i64 v)).1
  refine ⟨h.row.fr hf (fun e => ?_), h.ops, h.byt, h.bel.setCell hlt.1 _, owns_fr h.tow hf ?_, fun j hj => owns_fr (h.low j hj) hf ?_, fun j c hj hc => ?_, h.inj⟩
  · have e' : cb = r2 i a := e
    rcases ho.2 with ⟨h0, _⟩ | ⟨g, c, cur, h0, _, h1, _⟩
    · cases h0
    · cases h0
      have := h.row.h
      rw [e', h1] at this
      cases this
  · rintro q hq hq'
    have e1 : q = r2 i a := hq'
    subst e1
    have := owns_type ho h.tow rfl hq
    cases this
  · rintro q hq hq'
    have e1 : q = r2 i a := hq'
    subst e1
    have := owns_type ho (h.low j hj) rfl hq
    cases this
  · by_cases e : j = i ∧ c = a
    · obtain ⟨rfl, rfl⟩ := e
      have hx : ((List.range (wn + 1)).map fun b => Value.int .i64 (V j c b)).set b (.int .i64 v) = (List.range (wn + 1)).map fun b' => Value.int .i64 (updV V j c b v j c b') := by
        apply List.ext_getElem?
        intro q
        rw [List.getElem?_set]
        by_cases hq : q < wn + 1
        · by_cases e : b = q
          · subst e
            rw [if_pos rfl, if_pos (by simp; omega), List.getElem?_map, List.getElem?_range hq]
            simp [updV]
          · rw [if_neg e, List.getElem?_map, List.getElem?_map, List.getElem?_range hq]
            simp [updV, show ¬ q = b from fun h => e h.symm]
        · rw [List.getElem?_eq_none (l := List.map _ _) (by simp; omega)]
          by_cases e : b = q
          · omega
          · rw [if_neg e, List.getElem?_eq_none (by simp; omega)]
      rw [hx] at hst
      exact hst
    · have hne : ∀ b', updV V i a b v j c b' = V j c b' := fun b' => by
        unfold updV
        rw [if_neg (fun h => e ⟨h.1, h.2.1⟩)]
      have := h.iow j c hj hc
      simp only [hne]
      refine owns_fr this hf ?_
      rintro q hq hq'
      have e1 : q = r2 i a := hq'
      have e2 : r2 j c = q := by simpa [Value.ownBlock] using hq
      exact e (h.inj j c i a hj hc hi ha (e2.trans e1))
end
end Go.Proofs.Ytmpccinbeepbgaa
namespace Go.Proofs.Ytmpccinbeepbgaa
open Go.RowKit

theorem wpList_appx {P : Program} (w0 wr : World) {ops : Array Oper} {rest : List Oper} {o : Oper} {a : Act} {Q : Exit → Act → World → Prop} (hgd : o.guard = none) (s x : Operand) (t e : TypeId) {size bytes : Nat} {z : Value}
    (ho : o.op = .call { callee := .builtin .append, args := #[s, x], argTypes := #[t, t] }) (he : Elem P t e size bytes z)
    (v : Value) (n : Nat) (xs : List Value) (hs : a.eval s = v) (hO : Own w0 wr e size v n xs) (ao : Option Addr) (m cap : Nat) (ys : List Value) (hx : a.eval x = .slice ao m cap) (hsl : Sv wr ao m cap size ys) (h1 : ∀ u ∈ ys, u.oneCell' = true)
    (hlen : (n + m) * bytes ≤ 140737488355328 ∧ n + m ≤ maxLen)
    (h : ∀ v' w', Own w0 w' e size v' (n + m) (xs ++ ys) → Fr (fun k => v.ownBlock = some k) wr w' → wpList P ops Q rest (a.put o.dst v') w') : wpList P ops Q (o :: rest) a wr :=
  wpList_plain hgd fun _ hK => wp_apps w0 wr s x t e ho he v n xs hs hO ao m cap ys hx hsl h1 hlen fun v' w' h1 h2 => hK _ _ (h v' w' h1 h2)

theorem range_snoc {β : Type} (f : Nat → β) (k : Nat) : (List.range (k + 1)).map f = (List.range k).map f ++ [f k] := by rw [List.range_succ, List.map_append]; rfl
theorem range_upd {β γ : Type} (G : β → γ) (F : Nat → β) (k : Nat) (x : β) : (List.range k).map (fun i => G (upd F k x i)) = (List.range k).map fun i => G (F i) := by
  apply List.map_congr_left
  intro i hi
  rw [upd_other F x (by have := List.mem_range.1 hi; omega)]

/-- The rows of numbers of one level, as far as they are made. -/
structure RowsW (w1 w : World) (v : Value) (wn k : Nat) (r2 : Nat → Nat) : Prop where
  own : Own w1 w 47 1 v k ((List.range k).map fun a => .slice (some ⟨r2 a, 0, none⟩) (wn + 1) (wn + 1))
  int : ∀ a, a < k → w.ownsRow w1.heap.size 3 1 (.slice (some ⟨r2 a, 0, none⟩) (wn + 1) (wn + 1)) (wn + 1) ((List.range (wn + 1)).map fun _ => .int .i64 (0 : Nat))
  inj : ∀ a a', a < k → a' < k → r2 a = r2 a' → a = a'

theorem RowsW.nil (w : World) (wn : Nat) (r2 : Nat → Nat) : RowsW w w (.slice none 0 0) wn 0 r2 := ⟨Own.nil _ _ _, fun _ h => absurd h (by omega), fun _ _ h => absurd h (by omega)⟩
theorem zeros_rng (n : Nat) : (madeCells #[.int .i64 0] n).toList = (List.range n).map fun _ => Value.int .i64 (0 : Nat) := by
  apply List.ext_getElem?
  intro i
  by_cases hi : i < n
  · rw [List.getElem?_map, List.getElem?_range hi]
    simp [madeCells, hi, Nat.mod_one]
  · rw [List.getElem?_eq_none (by simp [madeCells]; omega), List.getElem?_eq_none (by simp; omega)]

theorem RowsW.next {w1 w w2 w4 : World} {v v' : Value} {wn k : Nat} {r2 : Nat → Nat} (h : RowsW w1 w v wn k r2)
    (hm : w2.ownsRow w1.heap.size 3 1 (.slice (some ⟨w.heap.size, 0, none⟩) (wn + 1) (wn + 1)) (wn + 1) ((List.range (wn + 1)).map fun _ => .int .i64 (0 : Nat))) (hg : w.grownBy w2 none)
    {cs : Array Value} {t : TypeId} (hO : Own w1 w4 47 1 v' (k + 1) (((List.range k).map fun a => .slice (some ⟨r2 a, 0, none⟩) (wn + 1) (wn + 1)) ++ [.slice (some ⟨w.heap.size, 0, none⟩) (wn + 1) (wn + 1)]))
    (hf : Fr (fun q => v.ownBlock = some q) (w2.alloc (.cells cs t)) w4) : RowsW w1 w4 v' wn (k + 1) (upd r2 k w.heap.size) := by
  have hb : Below w.heap.size w (w2.alloc (.cells cs t)) := ((Below.refl _ _).grown hg (Nat.le_refl _) (by simp)).alloc (((Below.refl w.heap.size w).grown hg (Nat.le_refl _) (by simp)).size) _
  have hv := (h.own.below hb).1
  refine ⟨?_, fun a ha => ?_, fun a a' ha ha' e => ?_⟩
  · rw [range_snoc, range_upd (fun x => Value.slice (some ⟨x, 0, none⟩) (wn + 1) (wn + 1)), upd_same]
    exact hO
  · by_cases e : a = k
    · subst e
      rw [upd_same]
      have h2 : (w2.alloc (.cells cs t)).ownsRow w1.heap.size 3 1 (.slice (some ⟨w.heap.size, 0, none⟩) (wn + 1) (wn + 1)) (wn + 1) ((List.range (wn + 1)).map fun _ => .int .i64 (0 : Nat)) := owns_fr hm (Fr.of_below (F := fun _ => False) ((Below.refl _ _).alloc (Nat.le_refl _) _)) (fun _ _ h => h)
      refine owns_fr h2 hf fun q hq hq' => ?_
      have := owns_type h2 hv hq hq'
      cases this
    · rw [upd_other _ _ e]
      have h2 := owns_fr (h.int a (by omega)) (Fr.of_below (F := fun _ => False) hb) (fun _ _ h => h)
      refine owns_fr h2 hf fun q hq hq' => ?_
      have := owns_type h2 hv hq hq'
      cases this
  · by_cases e1 : a = k <;> by_cases e2 : a' = k
    · omega
    · rw [e1, upd_same, upd_other _ _ e2] at e
      have := (h.int a' (by omega)).lt (r2 a') rfl
      omega
    · rw [e2, upd_same, upd_other _ _ e1] at e
      have := (h.int a (by omega)).lt (r2 a) rfl
      omega
    · rw [upd_other _ _ e1, upd_other _ _ e2] at e
      exact h.inj a a' (by omega) (by omega) e

/-- The chart, its levels as far as they are made. -/
structure ChT (w0 w : World) (cb : Nat) (lo : Option Addr) (ln lc : Nat) (wo : Option Addr) (wn wc : Nat) (tv : Value) (i : Nat) (r1 c1 : Nat → Nat) (r2 : Nat → Nat → Nat) : Prop where
  row : hrow w cb #[.slice lo ln lc, .slice wo wn wc, tv] 68
  bel : Below w0.heap.size w0 w
  cbn : w0.heap.size ≤ cb
  tow : w.ownsRow w0.heap.size 65 1 tv i ((List.range i).map fun i => .slice (some ⟨r1 i, 0, none⟩) (wn + 1) (c1 i))
  low : ∀ j, j < i → w.ownsRow w0.heap.size 47 1 (.slice (some ⟨r1 j, 0, none⟩) (wn + 1) (c1 j)) (wn + 1) ((List.range (wn + 1)).map fun a => .slice (some ⟨r2 j a, 0, none⟩) (wn + 1) (wn + 1))
  iow : ∀ j a, j < i → a ≤ wn → w.ownsRow w0.heap.size 3 1 (.slice (some ⟨r2 j a, 0, none⟩) (wn + 1) (wn + 1)) (wn + 1) ((List.range (wn + 1)).map fun _ => .int .i64 (0 : Nat))
  inj : ∀ j a j' a', j < i → a ≤ wn → j' < i → a' ≤ wn → r2 j a = r2 j' a' → j = j' ∧ a = a'

section
variable {w0 w : World} {cb : Nat} {lo : Option Addr} {ln lc : Nat} {wo : Option Addr} {wn wc : Nat} {tv : Value} {i : Nat} {r1 c1 : Nat → Nat} {r2 : Nat → Nat → Nat}

theorem ChT.start (w0 : World) (lo : Option Addr) (ln lc : Nat) (wo : Option Addr) (wn wc : Nat) (r1 c1 : Nat → Nat) (r2 : Nat → Nat → Nat) :
    ChT w0 (w0.alloc (.cells #[.slice lo ln lc, .slice wo wn wc, .slice none 0 0] 68)) w0.heap.size lo ln lc wo wn wc (.slice none 0 0) 0 r1 c1 r2 :=
  ⟨hrow.new _ _ _, (Below.refl _ _).alloc (Nat.le_refl _) _, Nat.le_refl _, World.ownsRow_nil _ _ _ _, fun _ h => absurd h (by omega), fun _ _ h => absurd h (by omega), fun _ _ _ _ h => absurd h (by omega)⟩

theorem row_ne {w : World} {cb B e s n : Nat} {cs : Array Value} {t : TypeId} {v : Value} {xs : List Value} (hr : hrow w cb cs t) (ho : w.ownsRow B e s v n xs) (ht : t ≠ e) : v.ownBlock ≠ some cb := by
  intro hq
  rcases ho.2 with ⟨h0, _⟩ | ⟨g, c, cur, h0, _, h1, _⟩
  · rw [h0] at hq; cases hq
  · rw [h0] at hq
    simp only [Value.ownBlock, Option.some.injEq] at hq
    subst hq
    have := hr.h
    rw [h1] at this
    simp only [Option.some.injEq, Obj.cells.injEq] at this
    exact ht this.2.1.symm

theorem ChT.below {w' : World} (h : ChT w0 w cb lo ln lc wo wn wc tv i r1 c1 r2) (hb : Below w.heap.size w w') : ChT w0 w' cb lo ln lc wo wn wc tv i r1 c1 r2 := by
  have hf : Fr (fun _ => False) w w' := Fr.of_below hb
  exact ⟨h.row.below hb, h.bel.trans (hb.mono h.bel.size), h.cbn, owns_fr h.tow hf (fun _ _ h => h), fun j hj => owns_fr (h.low j hj) hf (fun _ _ h => h), fun j a hj ha => owns_fr (h.iow j a hj ha) hf (fun _ _ h => h), h.inj⟩

theorem ChT.next {w2 w4 : World} {g c : Nat} {tv' : Value} {q2 : Nat → Nat} (h : ChT w0 w cb lo ln lc wo wn wc tv i r1 c1 r2) (hR : RowsW w w2 (.slice (some ⟨g, 0, none⟩) (wn + 1) c) wn (wn + 1) q2)
    {cs : Array Value} {t : TypeId} (hO : Own w0 w4 65 1 tv' (i + 1) (((List.range i).map fun i => .slice (some ⟨r1 i, 0, none⟩) (wn + 1) (c1 i)) ++ [.slice (some ⟨g, 0, none⟩) (wn + 1) c]))
    (hf : Fr (fun q => tv.ownBlock = some q) (w2.alloc (.cells cs t)) w4) :
    ChT w0 (w4.setCell ⟨cb, 2, none⟩ tv') cb lo ln lc wo wn wc tv' (i + 1) (upd r1 i g) (upd c1 i c) (upd r2 i q2) := by
  have hb2 : Below w2.heap.size w2 (w2.alloc (.cells cs t)) := (Below.refl _ _).alloc (Nat.le_refl _) _
  have hb : Below w.heap.size w (w2.alloc (.cells cs t)) := hR.own.2.trans (hb2.mono hR.own.2.size)
  have hw := h.below hb
  have hfS := Fr.setCell w4 ⟨cb, 2, none⟩ tv'
  have hne := row_ne hw.row hw.tow (by decide)
  have hrow4 := hw.row.fr hf hne
  have hF2 : Fr (fun _ => False) w2 (w2.alloc (.cells cs t)) := Fr.of_below hb2
  have go : ∀ {e s n : Nat} {v : Value} {xs : List Value}, 65 ≠ e → 68 ≠ e → (w2.alloc (.cells cs t)).ownsRow w0.heap.size e s v n xs → (w4.setCell ⟨cb, 2, none⟩ tv').ownsRow w0.heap.size e s v n xs := fun {e s n v xs} he he' h1 => by
    have h2 := owns_fr h1 hf fun q hq hq' => he (owns_type hw.tow h1 hq' hq)
    refine owns_fr h2 hfS fun q hq hq' => ?_
    have e1 : q = cb := hq'
    subst e1
    exact row_ne hrow4 h2 he' hq
  have hbase : ∀ {e s n : Nat} {v : Value} {xs : List Value}, w2.ownsRow w.heap.size e s v n xs → (w2.alloc (.cells cs t)).ownsRow w0.heap.size e s v n xs := fun {e s n v xs} h1 => by
    have h2 := owns_fr h1 hF2 (fun _ _ h => h)
    refine ⟨h2.1, ?_⟩
    rcases h2.2 with h3 | ⟨g, cap, cur, hv, hg, r⟩
    · exact .inl h3
    · exact .inr ⟨g, cap, cur, hv, by have := h.bel.size; omega, r⟩
  refine ⟨?_, ?_, h.cbn, ?_, fun j hj => ?_, fun j a hj ha => ?_, ?_⟩
  · have := hrow4.setCell 2 tv'
    exact this
  · exact hO.2.setCell h.cbn _
  · rw [range_snoc]
    have e1 : (List.range i).map (fun j => Value.slice (some ⟨upd r1 i g j, 0, none⟩) (wn + 1) (upd c1 i c j)) = (List.range i).map fun j => Value.slice (some ⟨r1 j, 0, none⟩) (wn + 1) (c1 j) := by
      apply List.map_congr_left
      intro j hj
      have := List.mem_range.1 hj
      rw [upd_other _ _ (by omega), upd_other _ _ (by omega)]
    rw [e1, upd_same, upd_same]
    refine owns_fr hO.1 hfS fun q hq hq' => ?_
    have e1 : q = cb := hq'
    subst e1
    exact row_ne hrow4 hO.1 (by decide) hq
  · by_cases e : j = i
    · subst e
      simp only [upd_same]
      exact go (by decide) (by decide) (hbase hR.own.1)
    · simp only [upd_other _ _ e]
      exact go (by decide) (by decide) (hw.low j (by omega))
  · by_cases e : j = i
    · subst e
      simp only [upd_same]
      exact go (by decide) (by decide) (hbase (hR.int a (by omega)))
    · simp only [upd_other _ _ e]
      exact go (by decide) (by decide) (hw.iow j a (by omega) ha)
  · intro j a j' a' hj ha hj' ha' e
    by_cases e1 : j = i <;> by_cases e2 : j' = i
    · rw [e1, e2, upd_same] at e
      exact ⟨by omega, hR.inj a a' (by omega) (by omega) e⟩
    · rw [e1, upd_same, upd_other _ _ e2] at e
      have h1 := (hR.int a (by omega)).lt (q2 a) rfl
      have h2 := (h.iow j' a' (by omega) ha').lt (r2 j' a') rfl
      omega
    · rw [e2, upd_same, upd_other _ _ e1] at e
      have h1 := (hR.int a' (by omega)).lt (q2 a') rfl
      have h2 := (h.iow j a (by omega) ha).lt (r2 j a) rfl
      omega
    · rw [upd_other _ _ e1, upd_other _ _ e2] at e
      exact h.inj j a j' a' (by omega) ha (by omega) ha' e

theorem ChT.mid {w2 w4 : World} {v : Value} {q2 : Nat → Nat} {k : Nat} (h : ChT w0 w cb lo ln lc wo wn wc tv i r1 c1 r2) (hR : RowsW w w2 v wn k q2)
    {cs : Array Value} {t : TypeId} (hf : Fr (fun q => tv.ownBlock = some q) (w2.alloc (.cells cs t)) w4) : hrow w4 cb #[.slice lo ln lc, .slice wo wn wc, tv] 68 := by
  have hb2 : Below w2.heap.size w2 (w2.alloc (.cells cs t)) := (Below.refl _ _).alloc (Nat.le_refl _) _
  have hw := h.below (hR.own.2.trans (hb2.mono hR.own.2.size))
  exact hw.row.fr hf (row_ne hw.row hw.tow (by decide))

theorem ChT.done {l : Tab} {W : List Int} (h : ChT w0 w cb lo ln lc wo wn wc tv (ln + 1) r1 c1 r2) (ho : Sv w0 lo ln lc 2 (opc l)) (hW : Sv w0 wo wn wc 1 (byc W)) :
    ∃ t0 tc, tv = .slice (some ⟨t0, 0, none⟩) (ln + 1) tc ∧ ChW w0 w cb lo ln lc wo wn wc l W t0 tc r1 c1 r2 (fun _ _ _ => 0) := by
  obtain ⟨t0, tc, rfl, _, _⟩ := World.ownsRow.form h.tow (by simp)
  exact ⟨t0, tc, rfl, h.row, ho, hW, h.bel, h.tow, fun j hj => h.low j (by omega), fun j a hj ha => h.iow j a (by omega) ha, fun j a j' a' hj ha hj' ha' e => h.inj j a j' a' (by omega) ha (by omega) ha' e⟩
end

/-- The numbers that stand, while the sizes, places and levels are gone through. -/
noncomputable def Vp (l : Tab) (W : List Int) (s f m : Nat) (j a b : Nat) : Nat := if a < b ∧ (b - a < s ∨ b - a = s ∧ (a < f ∨ a = f ∧ m ≤ j)) then Vc l W j a b else 0
theorem Vp_le {l : Tab} {W : List Int} {s f m j a b : Nat} : Vp l W s f m j a b ≤ 1 := by unfold Vp; split; exact Vc_le; omega
theorem Vp_put (l : Tab) (W : List Int) (s f i : Nat) (hs : 0 < s) : updV (Vp l W s f (i + 1)) i f (f + s) (Vc l W i f (f + s)) = Vp l W s f i := by
  funext j a b
  unfold updV Vp
  by_cases e : j = i ∧ a = f ∧ b = f + s
  · obtain ⟨rfl, rfl, rfl⟩ := e
    rw [if_pos ⟨rfl, rfl, rfl⟩, if_pos (by omega)]
  · rw [if_neg e]
    have : (a < b ∧ (b - a < s ∨ b - a = s ∧ (a < f ∨ a = f ∧ i + 1 ≤ j))) ↔ (a < b ∧ (b - a < s ∨ b - a = s ∧ (a < f ∨ a = f ∧ i ≤ j))) := by omega
    simp only [this]
theorem Vp_zero (l : Tab) (W : List Int) (m : Nat) : Vp l W 1 0 m = fun j a b => if a < b ∧ b - a = 1 ∧ a = 0 ∧ m ≤ j then Vc l W j a b else 0 := by
  funext j a b
  unfold Vp
  have : (a < b ∧ (b - a < 1 ∨ b - a = 1 ∧ (a < 0 ∨ a = 0 ∧ m ≤ j))) ↔ (a < b ∧ b - a = 1 ∧ a = 0 ∧ m ≤ j) := by omega
  simp only [this]
theorem Vc_ge (l : Tab) (W : List Int) (i a b : Nat) (h : b ≤ a) : Vc l W i a b = 0 := Vc_no fun h => by have := h.bd; omega
theorem Vp_small (l : Tab) (W : List Int) (s f m j a b : Nat) (h : b - a < s) : Vp l W s f m j a b = Vc l W j a b := by
  unfold Vp
  by_cases e : a < b
  · rw [if_pos ⟨e, .inl h⟩]
  · rw [if_neg (fun h => e h.1), Vc_ge _ _ _ _ _ (by omega)]
theorem Vp_here (l : Tab) (W : List Int) (s f m j : Nat) (hs : 0 < s) (hj : m ≤ j) : Vp l W s f m j f (f + s) = Vc l W j f (f + s) := by
  unfold Vp
  rw [if_pos (by omega)]
theorem Vp_turn {l : Tab} {W : List Int} {s f n j a b : Nat} (hj : j ≤ n) : Vp l W s f 0 j a b = Vp l W s (f + 1) (n + 1) j a b := by
  unfold Vp
  have : (a < b ∧ (b - a < s ∨ b - a = s ∧ (a < f ∨ a = f ∧ 0 ≤ j))) ↔ (a < b ∧ (b - a < s ∨ b - a = s ∧ (a < f + 1 ∨ a = f + 1 ∧ n + 1 ≤ j))) := by omega
  simp only [this]
theorem Vp_size {l : Tab} {W : List Int} {s f n k j a b : Nat} (hj : j ≤ n) (hb : b ≤ k) (hf : k < f + s) : Vp l W s f (n + 1) j a b = Vp l W (s + 1) 0 (n + 1) j a b := by
  unfold Vp
  have : (a < b ∧ (b - a < s ∨ b - a = s ∧ (a < f ∨ a = f ∧ n + 1 ≤ j))) ↔ (a < b ∧ (b - a < s + 1 ∨ b - a = s + 1 ∧ (a < 0 ∨ a = 0 ∧ n + 1 ≤ j))) := by omega
  simp only [this]
theorem ChW.congr {w0 w : World} {cb : Nat} {lo : Option Addr} {ln lc : Nat} {wo : Option Addr} {wn wc : Nat} {l : Tab} {W : List Int} {t0 tc : Nat} {r1 c1 : Nat → Nat} {r2 : Nat → Nat → Nat} {V V' : Nat → Nat → Nat → Nat}
    (h : ChW w0 w cb lo ln lc wo wn wc l W t0 tc r1 c1 r2 V) (he : ∀ i a b, i ≤ ln → a ≤ wn → b ≤ wn → V i a b = V' i a b) : ChW w0 w cb lo ln lc wo wn wc l W t0 tc r1 c1 r2 V' := by
  refine ⟨h.row, h.ops, h.byt, h.bel, h.tow, h.low, fun i a hi ha => ?_, h.inj⟩
  have e : (List.range (wn + 1)).map (fun b => Value.int .i64 (V' i a b)) = (List.range (wn + 1)).map fun b => Value.int .i64 (V i a b) := by
    apply List.map_congr_left
    intro b hb
    rw [he i a b hi ha (by have := List.mem_range.1 hb; omega)]
  rw [e]
  exact h.iow i a hi ha
end Go.Proofs.Ytmpccinbeepbgaa
namespace Go.Proofs.Ytmpccinbeepbgaa
open Go.RowKit

theorem elem47 : Elem Try.prog 65 47 1 24 (.slice none 0 0) := ⟨by kernel_rfl, by kernel_rfl, rfl, by decide⟩
theorem elem65 : Elem Try.prog 66 65 1 24 (.slice none 0 0) := ⟨by kernel_rfl, by kernel_rfl, rfl, by decide⟩
theorem infoIn : (Try.prog.info? 3).map (fun i => (i.zero, i.size, i.bytes)) = some (some (.int .i64 0), 1, 8) := by kernel_rfl

theorem zeros1 (n : Nat) : (madeCells (Value.int .i64 0).cells (n * 1)).toList = (List.range n).map fun _ => Value.int .i64 (0 : Nat) := by rw [Nat.mul_one]; exact zeros_rng n
/-- What New leaves. -/
def Chart (w0 : World) (lo : Option Addr) (ln lc : Nat) (wo : Option Addr) (wn wc : Nat) (l : Tab) (W : List Int) (r : Ending) (w : World) : Prop :=
  ∃ cb t0 tc r1 c1 r2, r = .returned (.pointer (some ⟨cb, 0, none⟩)) ∧ Ch w cb lo ln lc wo wn wc l W t0 tc r1 c1 r2 (fun i a b => Vc l W i a b) ∧ Below w0.heap.size w0 w

set_option maxRecDepth 100000 in
set_option maxHeartbeats 4000000 in
theorem new_any (w : World) (lo : Option Addr) (ln lc : Nat) (wo : Option Addr) (wn wc : Nat) (l : Tab) (W : List Int) (hl : RightT l) (ho : Sv w lo ln lc 2 (opc l)) (hW : Sv w wo wn wc 1 (byc W)) (hwn : wn ≤ 1000) :
    Calls Try.prog 28 #[.slice lo ln lc, .slice wo wn wc] w (Chart w lo ln lc wo wn wc l W) := by
  obtain ⟨b1, b2⟩ := ho.bound
  obtain ⟨b3, b4⟩ := hW.bound
  have hll := ho.ops_len
  have hl32 := hl.le
  have hln : ln ≤ 32 := by omega
  obtain ⟨i0, hi, hz0, hz1, hz2⟩ := info_parts infoIn
  have Hi := Lib.hid hi; have Hz0 := Lib.hid hz0; have Hz1 := Lib.hid hz1; have Hz2 := Lib.hid hz2
  clear hi hz0 hz1 hz2
  have e12 : ((wn : Int) + 1) = ((wn + 1 : Nat) : Int) := by omega
  have HE := Lib.hid e12; clear e12
  have HBy := Lib.hid (show i0.bytes * (wn + 1) ≤ 281474976710656 by rw [Hz2.out]; omega)
  have HKm := Lib.hid (show wn + 1 ≤ maxLen by unfold maxLen; omega)
  have HDone := Lib.hid (fun w' cb tv r1 c1 r2 (h : ChT w w' cb lo ln lc wo wn wc tv (ln + 1) r1 c1 r2) => h.done ho hW)
  have HL := Lib.hid hl
  have HT0 := Lib.hid (ChT.start w lo ln lc wo wn wc (fun _ => 0) (fun _ => 0) (fun _ _ => 0))
  have HLl := Lib.hid hll
  clear ho hW hl hll hl32
  go_enter Try.func28, Try.ntmps28
  go_wp2_with fail
  generalize w.alloc (.cells #[.slice lo ln lc, .slice wo wn wc, .slice none 0 0] 68) = w1 at *
  generalize hcb : w.heap.size = cb at *
  have HCb := Lib.hid hcb; clear hcb
  go_loopw [6] (fun i wr => ∃ (k : Nat) (tv : Value) (r1 c1 : Nat → Nat) (r2 : Nat → Nat → Nat), k ≤ ln + 1 ∧ i = .int .i64 k ∧ Hid (ChT w wr cb lo ln lc wo wn wc tv k r1 c1 r2)) (fun i _ => ln + 1 - (intOf i).toNat)
  case atStart => exact ⟨0, _, _, _, _, by omega, rfl, HT0.out⟩
  case round =>
    obtain ⟨k, tv, r1, c1, r2, hk, rfl, HT⟩ := hrel
    obtain ⟨wt, rfl⟩ : ∃ wt : World, wt = wr := ⟨_, rfl⟩
    by_cases hlt : k ≤ ln
    · have hlt' : (k : Int) ≤ ln := by omega
      go_wp2_with fail
      go_loopw [7, 8] (fun v j wr => ∃ (m : Nat) (q2 : Nat → Nat), m ≤ wn + 1 ∧ j = .int .i64 m ∧ Hid (RowsW wt wr v wn m q2)) (fun _ j _ => wn + 1 - (intOf j).toNat)
      case atStart => exact ⟨0, fun _ => 0, by omega, rfl, RowsW.nil wt wn _⟩
      case round =>
        obtain ⟨m, q2, hm, rfl, HR⟩ := hrel
        by_cases hmt : m ≤ wn
        · have hmt' : (m : Int) ≤ wn := by omega
          have HS := Lib.hid HR.out.own.2.size
          have HLn : Hid ((m + 1) * 24 ≤ 140737488355328 ∧ m + 1 ≤ maxLen) := by unfold Hid maxLen; omega
          go_wp2_with (first
            | (at_make; refine wpList_make_full _ rfl _ _ 47 rfl wt.heap.size 3 i0 _ 1 Try.underlying47 Hi.out Hz0.out Hz1.out _ _ _ _ (wn + 1) rfl rfl HE.out HE.out HBy.out HKm.out HS.out ?_; intro w6 hown6 hg6; have HO6 := Lib.hid (zeros1 (wn + 1) ▸ hown6); have HG6 := Lib.hid hg6; have HOw := Lib.hid (HR.out.own.below (((Below.refl wr.heap.size wr).grown hg6 (Nat.le_refl _) (by simp)).alloc (((Below.refl wr.heap.size wr).grown hg6 (Nat.le_refl _) (by simp)).size) (.cells #[.slice (some ⟨wr.heap.size, 0, none⟩) (wn + 1) (wn + 1)] 47))); clear hown6 hg6)
            | (at_builtin; refine wpList_appx wt _ rfl (.tmp 28) (.tmp 33) 65 47 rfl elem47 _ m _ rfl HOw.out _ 1 1 _ rfl (Sv.lit w6 47 #[.slice (some ⟨wr.heap.size, 0, none⟩) (wn + 1) (wn + 1)] 1 1 (by decide) rfl) (by simp [Value.oneCell']) HLn.out ?_; intro v7 w7 ho7 hf7; have HR7 := Lib.hid (HR.out.next HO6.out HG6.out ho7 hf7); clear ho7 hf7))
          go_roundw
          case rel => exact ⟨m + 1, _, by omega, by go_num, HR7.out⟩
          case measure => simp [intOf]; omega
        · have hmt' : (wn : Int) < m := by omega
          obtain rfl : m = wn + 1 := by omega
          obtain ⟨g, c, rfl, hgc, hgm⟩ := World.ownsRow.form HR.out.own.1 (by simp)
          have HB := Lib.hid HR.out.own.2
          have HTx := Lib.hid (HT.out.below HB.out)
          have hc2 : wr.cell? ⟨cb, 2, none⟩ = some tv := HTx.out.row.cell 2
          have HLn : Hid ((k + 1) * 24 ≤ 140737488355328 ∧ k + 1 ≤ maxLen) := by unfold Hid maxLen; omega
          have HOw : Hid (Own w (wr.alloc (.cells #[.slice (some ⟨g, 0, none⟩) (wn + 1) c] 65)) 65 1 tv k ((List.range k).map fun i => .slice (some ⟨r1 i, 0, none⟩) (wn + 1) (c1 i))) := Own.below ⟨HTx.out.tow, HTx.out.bel⟩ ((Below.refl _ _).alloc (Nat.le_refl _) _)
          go_wp2_with (first
            | (at_builtin; refine wpList_appx w _ rfl (.tmp 39) (.tmp 41) 66 65 rfl elem65 tv k _ rfl HOw.out _ 1 1 _ rfl (Sv.lit wr 65 #[.slice (some ⟨g, 0, none⟩) (wn + 1) c] 1 1 (by decide) rfl) (by simp [Value.oneCell']) HLn.out ?_; intro v7 w7 ho7 hf7; obtain ⟨g7, c7, rfl, hgc7, hgm7⟩ := World.ownsRow.form ho7.1 (by simp); have HT7 := Lib.hid (HT.out.next HR.out ho7 hf7); have HRw := Lib.hid (HT.out.mid HR.out hf7); clear ho7 hf7; have hfz := HRw.out.frozen 2; have hc7 : w7.cell? ⟨cb, 2, none⟩ = some tv := HRw.out.cell 2))
          go_roundw
          case rel => exact ⟨k + 1, _, _, _, _, by omega, by go_num, HT7.out⟩
          case measure => simp [intOf]; omega
    · have hge : (ln : Int) < k := by omega
      obtain rfl : k = ln + 1 := by omega
      obtain ⟨t0, tc, rfl, hW⟩ := HDone.out _ _ _ _ _ _ HT.out
      have HW0 : Hid (ChW w wt cb lo ln lc wo wn wc l W t0 tc r1 c1 r2 (Vp l W 1 0 (ln + 1))) := hW.congr fun i a b hi _ _ => by
        rw [Vp_zero]; exact (if_neg (by omega)).symm
      clear hW HDone HT HT0 HE HBy HKm Hi Hz0 Hz1 Hz2 hlt hk hge
      go_wp2_with fail
      go_loopw [9] (fun s wr => ∃ k : Nat, 1 ≤ k ∧ k ≤ wn + 1 ∧ s = .int .i64 k ∧ Hid (ChW w wr cb lo ln lc wo wn wc l W t0 tc r1 c1 r2 (Vp l W k 0 (ln + 1)))) (fun s _ => wn + 1 - (intOf s).toNat)
      case atStart => exact ⟨1, by omega, by omega, rfl, HW0.out⟩
      case round =>
        obtain ⟨k, hk1, hk, rfl, HS⟩ := hrel
        obtain ⟨wt, rfl⟩ : ∃ wt : World, wt = wr := ⟨_, rfl⟩
        have hk1' : (1 : Int) ≤ k := by omega
        by_cases hlt : k ≤ wn
        · have hlt' : (k : Int) ≤ wn := by omega
          go_wp2_with fail
          go_loopw [10] (fun s wr => ∃ f : Nat, f + k ≤ wn + 1 ∧ s = .int .i64 f ∧ Hid (ChW w wr cb lo ln lc wo wn wc l W t0 tc r1 c1 r2 (Vp l W k f (ln + 1)))) (fun s _ => wn + 1 - (intOf s).toNat)
          case atStart => exact ⟨0, by omega, rfl, HS.out⟩
          case round =>
            obtain ⟨f, hf, rfl, HF⟩ := hrel
            obtain ⟨wt, rfl⟩ : ∃ wt : World, wt = wr := ⟨_, rfl⟩
            by_cases hft : f + k ≤ wn
            · have hft' : (f : Int) + k ≤ wn := by omega
              go_wp2_with fail
              go_loopw [11] (fun s wr => ∃ z : Int, -1 ≤ z ∧ z ≤ ln ∧ s = .int .i64 z ∧ Hid (ChW w wr cb lo ln lc wo wn wc l W t0 tc r1 c1 r2 (Vp l W k f (z + 1).toNat))) (fun s _ => (intOf s + 1).toNat)
              case atStart => exact ⟨ln, by omega, by omega, rfl, HF.out⟩
              case round =>
                obtain ⟨z, hz, hzl, rfl, HZ⟩ := hrel
                by_cases hzt : 0 ≤ z
                · obtain ⟨i, rfl⟩ : ∃ i : Nat, z = i := ⟨z.toNat, by omega⟩
                  have HI : Hid (ChW w wr cb lo ln lc wo wn wc l W t0 tc r1 c1 r2 (Vp l W k f (i + 1))) := by
                    have h := HZ.out
                    rw [show ((i : Int) + 1).toNat = i + 1 by omega] at h
                    exact h
                  clear HZ HW0 HS
                  have hin : i ≤ ln := by omega
                  have HC : Hid (∀ y : Later wr, Calls Try.prog 46 #[.pointer (some ⟨cb, 0, none⟩), .int .i64 i, .int .i64 f, .int .i64 ((f : Int) + k)] y.val fun e w' => e = .returned (.int .i64 (Vc l W i f (f + k))) ∧ Below y.val.heap.size y.val w') := fun y => by
                    have h := (HI.out.below y.ok).ch
                    rw [show ((f : Int) + k) = ((f + k : Nat) : Int) by omega]
                    by_cases e : i = ln
                    · rw [e]
                      exact count_last h f (f + k) (by omega) hft hwn fun j a' b' hj _ _ => Vp_small _ _ _ _ _ _ _ _ (by omega)
                    · exact count_mid HL.out h (fun _ _ _ => Vp_le) i f (f + k) (by omega) (by omega) hft hwn (fun j a' b' hj _ _ => Vp_small _ _ _ _ _ _ _ _ (by omega)) (Vp_here _ _ _ _ _ _ (by omega) (Nat.le_refl _))
                  have hcT : ∀ y : Later wr, y.val.cell? ⟨cb, 2, none⟩ = some (.slice (some ⟨t0, 0, none⟩) (ln + 1) tc) := fun y => (HI.out.below y.ok).ch.ct
                  have hcI : ∀ y : Later wr, y.val.cell? ⟨t0, i, none⟩ = some (.slice (some ⟨r1 i, 0, none⟩) (wn + 1) (c1 i)) := fun y => ((HI.out.below y.ok).ch.lev i hin).1
                  have hcR : ∀ y : Later wr, y.val.cell? ⟨r1 i, f, none⟩ = some (.slice (some ⟨r2 i f, 0, none⟩) (wn + 1) (wn + 1)) := fun y => (HI.out.below y.ok).ch.row i f hin (by omega)
                  have hi1 : (i : Int) < ln + 1 := by omega
                  have hf1 : (f : Int) < wn + 1 := by omega
                  have hfk1 : (f : Int) + k < wn + 1 := by omega
                  have hw1 : IntKind.i64.wrap ((f : Int) + k) = (f : Int) + k := IntWalk.i64_in _ (by omega)
                  have hw2 : (0 : Int) ≤ (f : Int) + k := by omega
                  have hw3 : ((f : Int) + k).toNat = f + k := by omega
                  go_upto_region 20 with (fail)
                  refine wp_region_later_tail 20 (by kernel_rfl) (by kernel_rfl) ?_
                  simp only [List.take_succ_cons, List.take_zero, List.drop_succ_cons, List.drop_zero]
                  repeat (go_big_quiet_step ((go_at_call 46; exact Calls.later (HC.out _))))
                  refine wpQuiet_nil ?_
                  intro w5 hw5
                  obtain ⟨y, rfl⟩ := hw5
                  have HY := Lib.hid (HI.out.below y.ok)
                  have HP := Lib.hid (HY.out.put (i := i) (a := f) (b := f + k) hin (by omega) hft (Vc l W i f (f + k)))
                  have hc5 : y.val.cell? ⟨r2 i f, f + k, none⟩ = some (.int .i64 (Vp l W k f (i + 1) i f (f + k))) := HY.out.ch.int i f (f + k) hin (by omega) hft
                  have hf5 : y.val.frozen? ⟨r2 i f, f + k, none⟩ = false := (HY.out.iow i f hin (by omega)).frozenAt _
                  clear hcT hcI hcR HC
                  go_wp2_with fail
                  go_roundw
                  case rel => exact ⟨(i : Int) - 1, by omega, by omega, rfl, by have h := HP.out; rw [Vp_put _ _ _ _ _ (by omega)] at h; rw [show ((i : Int) - 1 + 1).toNat = i by omega]; exact h⟩
                  case measure => simp [intOf]
                · have hzt' : z < 0 := by omega
                  obtain rfl : z = -1 := by omega
                  go_wp2_with fail
                  go_roundw
                  case rel => exact ⟨f + 1, by omega, by go_num, HZ.out.congr fun i a b hi ha hb => Vp_turn hi⟩
                  case measure => simp [intOf]; omega
            · have hft' : (wn : Int) < f + k := by omega
              go_wp2_with fail
              go_roundw
              case rel => exact ⟨k + 1, by omega, by omega, by go_num, HF.out.congr fun i a b hi ha hb => Vp_size hi hb (by omega)⟩
              case measure => simp [intOf]; omega
        · have hlt' : (wn : Int) < k := by omega
          go_wp2_with fail
          go_ret
          exact ⟨cb, t0, tc, r1, c1, r2, rfl, (HS.out.congr fun i a b hi ha hb => Vp_small l W k 0 (ln + 1) i a b (by omega)).ch, HCb.out ▸ HS.out.bel⟩
end Go.Proofs.Ytmpccinbeepbgaa
