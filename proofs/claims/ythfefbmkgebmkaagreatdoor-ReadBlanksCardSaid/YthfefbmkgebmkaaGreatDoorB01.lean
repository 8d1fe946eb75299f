/- Walks and plain laws: Lj Ii Lk. -/
import Derived.Test.YthfefbmkgebmkaaGreatDoorM17
import Derived.Test.YthfefbmkgebmkaaGreatDoorM12
import Derived.Test.YthfefbmkgebmkaaGreatDoorM06
import Derived.BigQuiet
import Derived.Test.YthfefbmkgebmkaaGreatDoorM13
import Derived.Test.YthfefbmkgebmkaaGreatDoorM08
namespace Go.Proofs.YthfefbmkgebmkaaGreatDoor
open Go.RowKit
set_option maxRecDepth 100000
set_option maxHeartbeats 8000000

theorem rulsP_nb {L : List Wd} (hW : WsOk L) (f : Nat) : ∀ (g : Nat) (acc : List (Wd × Pt)) (i : Nat) (x : List (Wd × Pt)) (j : Nat), i < L.length → (treeF 0 acc).2.length ≤ 2 * i → (treeF 0 acc).1.length ≤ i → rulsP L f g acc i = some (.ok x j) → (treeF 0 x).2.length ≤ 2 * L.length ∧ (treeF 0 x).1.length ≤ L.length
  | 0, acc, i, x, j, hi, h1, h2, e => by cases e
  | g + 1, acc, i, x, j, hi, h1, h2, e => by
    rw [rulsP_cont] at e
    cases hq : rulP L f i with
    | none => rw [hq] at e; cases e
    | some r =>
      rw [hq] at e
      cases r with
      | err a b => cases e
      | ok y k =>
        obtain ⟨s1, s2, s3⟩ := rulP_sz hW hi hq
        obtain ⟨wd, p⟩ := y
        have hsn := treeF_snoc 0 acc wd p
        simp only [Nat.zero_add] at hsn
        simp only [] at e s1
        have g1 : (treeF 0 (acc ++ [(wd, p)])).2.length ≤ 2 * k := by rw [hsn]; simp only [List.length_append, flat_len]; omega
        have g2 : (treeF 0 (acc ++ [(wd, p)])).1.length ≤ k := by rw [hsn]; simp only [List.length_append, List.length_cons, List.length_nil]; omega
        unfold contP at e
        split at e
        · simp only [Option.some.injEq, Rs.ok.injEq] at e
          obtain ⟨rfl, rfl⟩ := e
          exact ⟨by omega, by omega⟩
        · exact rulsP_nb hW f g _ k x j s3 g1 g2 e
theorem readT_nb {l : List UInt8} : (readT l).1.2.length ≤ 2 * (l.length + 1) ∧ (readT l).1.1.length ≤ l.length + 1 := by
  unfold readT
  cases hw : (wordsOf l).2 with
  | some p => exact ⟨Nat.zero_le _, Nat.zero_le _⟩
  | none =>
    have hA := (words_at hw).ok
    have hl := words_len l
    simp only []
    cases hr : readW (wordsOf l).1 with
    | err a b => exact ⟨Nat.zero_le _, Nat.zero_le _⟩
    | ok x j =>
      unfold readW at hr
      cases hq : rulsP (wordsOf l).1 (6 * (wordsOf l).1.length + 4) ((wordsOf l).1.length + 1) [] 0 with
      | none => rw [hq] at hr; cases hr
      | some r =>
        rw [hq] at hr
        simp only [] at hr
        subst hr
        have := rulsP_nb hA _ _ _ _ _ _ hA.pos (Nat.zero_le _) (Nat.zero_le _) hq
        simp only []
        omega
theorem three_blocks (y : World) (g : Nat) (hg : y.heap.size = g) (a b c : Array Value) (ta tb tc : TypeId) : ∃ z, ((y.alloc (.cells a ta)).alloc (.cells b tb)).alloc (.cells c tc) = z ∧ hrow z g a ta ∧ hrow z (g + 1) b tb ∧ hrow z (g + 1 + 1) c tc ∧ Below y.heap.size y z := by
  subst hg
  have h2 := hrow.new (y.alloc (.cells a ta)) b tb
  have h3 := hrow.new ((y.alloc (.cells a ta)).alloc (.cells b tb)) c tc
  rw [World.size_alloc] at h2
  rw [World.size_alloc, World.size_alloc] at h3
  exact ⟨_, rfl, ((hrow.new y a ta).below ((Below.refl _ _).alloc (Nat.le_refl _) _)).below ((Below.refl _ _).alloc (Nat.le_refl _) _), h2.below ((Below.refl _ _).alloc (Nat.le_refl _) _), h3, al1 (al2 (Below.refl _ _) _ _) _⟩
/-- A tree that was read, as the law walks through it: two objects, five slices. -/
structure PrW (g : Nat) (ro no ao bo co : Option Addr) (rc nc ac bc cc : Nat) (NK : List Nk) (R : List Rr) (N : List Rn) (w : World) : Prop where
  tr : hrow w g #[.slice ro R.length rc, .slice no N.length nc, .slice ao R.length ac, .slice bo N.length bc, .slice co N.length cc] 30
  gm : hrow w (g + 1 + 1) #[.slice ro R.length rc, .slice no N.length nc] 26
  gr : GrW w ro R.length rc no N.length nc NK ⟨R.map Rr.ru, N.map Rn.nd⟩
  ra : Sv w ao R.length ac 1 (inc (R.map fun r => (r.at_ : Int)))
  na : Sv w bo N.length bc 1 (inc (N.map fun x => (x.at_ : Int)))
  nm : Sv w co N.length cc 1 ((N.map fun x => tx x.nm).map Value.string)
section
variable {g : Nat} {ro no ao bo co : Option Addr} {rc nc ac bc cc : Nat} {NK : List Nk} {R : List Rr} {N : List Rn} {w w' : World}
theorem PrW.below (h : PrW g ro no ao bo co rc nc ac bc cc NK R N w) (hb : Below w.heap.size w w') : PrW g ro no ao bo co rc nc ac bc cc NK R N w' :=
  ⟨h.tr.below hb, h.gm.below hb, h.gr.below hb, h.ra.below hb, h.na.below hb, h.nm.below hb⟩
theorem PrW.node (h : PrW g ro no ao bo co rc nc ac bc cc NK R N w) {k : Nat} (hk : k < N.length) :
    ∃ a ko kc, no = some a ∧ w.cell? (a.add (k * 9)) = some (.int .i64 N[k].kind) ∧ w.cell? ⟨(a.add (k * 9)).block, (a.add (k * 9)).off + 5, none⟩ = some (.string (tx N[k].tx)) ∧ w.cell? ⟨(a.add (k * 9)).block, (a.add (k * 9)).off + 6, none⟩ = some (.int .i64 0) ∧
      w.cell? ⟨(a.add (k * 9)).block, (a.add (k * 9)).off + 8, none⟩ = some (.slice ko N[k].kids.length kc) ∧ Sv w ko N[k].kids.length kc 1 (inc (N[k].kids.map fun (j : Nat) => (j : Int))) := by
  have hl : NK.length = N.length := by have := congrArg List.length h.gr.eq; simpa using this
  have hk' : k < NK.length := by omega
  have e : (NK[k]'hk').1 = Rn.nd N[k] := by
    have := congrArg (fun l => l[k]?) h.gr.eq
    simpa [hk, hk'] using this
  obtain ⟨a, ha, c0, -, -, -, -, c5, c6, -, c8⟩ := h.gr.nod.sv.nd9 hk'
  have hs := h.gr.nod.kids (NK[k]'hk') (List.getElem_mem _)
  rw [e] at c0 c5 c6 c8 hs
  have hkl : (Rn.nd N[k]).kids.length = N[k].kids.length := by show (N[k].kids.map fun (j : Nat) => (j : Int)).length = _; rw [List.length_map]
  rw [hkl] at c8 hs
  exact ⟨a, _, _, ha, c0, c5, c6, c8, hs⟩
theorem PrW.nat (h : PrW g ro no ao bo co rc nc ac bc cc NK R N w) {k : Nat} (hk : k < N.length) : ∃ a, bo = some a ∧ w.cell? (a.add k) = some (.int .i64 N[k].at_) := by
  obtain ⟨a, ha, hc⟩ := h.na.intc k (by simpa using hk)
  exact ⟨a, ha, by rw [hc, ← bt_get (by simpa using hk)]; simp⟩
theorem PrW.nnm (h : PrW g ro no ao bo co rc nc ac bc cc NK R N w) {k : Nat} (hk : k < N.length) : ∃ a, co = some a ∧ w.cell? (a.add k) = some (.string (tx N[k].nm)) := by
  obtain ⟨a, ha, hc⟩ := h.nm.str k (by simpa using hk)
  exact ⟨a, ha, by rw [hc]; simp⟩
theorem PrW.rat (h : PrW g ro no ao bo co rc nc ac bc cc NK R N w) {k : Nat} (hk : k < R.length) : ∃ a, ao = some a ∧ w.cell? (a.add k) = some (.int .i64 R[k].at_) := by
  obtain ⟨a, ha, hc⟩ := h.ra.intc k (by simpa using hk)
  exact ⟨a, ha, by rw [hc, ← bt_get (by simpa using hk)]; simp⟩
theorem PrW.rul (h : PrW g ro no ao bo co rc nc ac bc cc NK R N w) {k : Nat} (hk : k < R.length) : ∃ a, ro = some a ∧ w.cell? (a.add (k * 2)) = some (.string (tx R[k].nm)) ∧ w.cell? ⟨(a.add (k * 2)).block, (a.add (k * 2)).off + 1, none⟩ = some (.int .i64 R[k].body) := by
  obtain ⟨a, ha, h1, h2⟩ := h.gr.rul.ru2 (k := k) (by simpa using hk)
  simp only [List.getElem_map] at h1 h2
  exact ⟨a, ha, h1, h2⟩
theorem PrW.nat1 {b : Addr} (h : PrW g ro no ao (some b) co rc nc ac bc cc NK R N w) {k : Nat} (hk : k < N.length) : w.cell? (b.add k) = some (.int .i64 N[k].at_) := by
  obtain ⟨a, ha, hc⟩ := h.nat hk; cases ha; exact hc
theorem PrW.nnm1 {b : Addr} (h : PrW g ro no ao bo (some b) rc nc ac bc cc NK R N w) {k : Nat} (hk : k < N.length) : w.cell? (b.add k) = some (.string (tx N[k].nm)) := by
  obtain ⟨a, ha, hc⟩ := h.nnm hk; cases ha; exact hc
theorem PrW.ntx1 {b : Addr} (h : PrW g ro (some b) ao bo co rc nc ac bc cc NK R N w) {k : Nat} (hk : k < N.length) : w.cell? ⟨(b.add (k * 9)).block, (b.add (k * 9)).off + 5, none⟩ = some (.string (tx N[k].tx)) := by
  obtain ⟨a, ko, kc, ha, -, h5, -⟩ := h.node hk; cases ha; exact h5
theorem PrW.rat1 {b : Addr} (h : PrW g ro no (some b) bo co rc nc ac bc cc NK R N w) {k : Nat} (hk : k < R.length) : w.cell? (b.add k) = some (.int .i64 R[k].at_) := by
  obtain ⟨a, ha, hc⟩ := h.rat hk; cases ha; exact hc
theorem PrW.rul1 {b : Addr} (h : PrW g (some b) no ao bo co rc nc ac bc cc NK R N w) {k : Nat} (hk : k < R.length) : w.cell? ⟨(b.add (k * 2)).block, (b.add (k * 2)).off + 1, none⟩ = some (.int .i64 R[k].body) ∧ w.cell? (b.add (k * 2)) = some (.string (tx R[k].nm)) := by
  obtain ⟨a, ha, h1, h2⟩ := h.rul hk; cases ha; exact ⟨h2, h1⟩
end
/-- The row of ends while it is filled from behind. -/
structure EnV (n : Nat) (E : Nat → Nat) (m : Nat) (z : World) (cs : Array Value) (wr : World) : Prop where
  le : m ≤ n
  row : hrow wr z.heap.size cs 3
  size : cs.size = n
  val : ∀ k, m ≤ k → k < n → cs[k]? = some (.int .i64 (E k))
  bl : Below z.heap.size z wr
section
variable {n : Nat} {E : Nat → Nat} {m : Nat} {z wr w' : World} {cs : Array Value}
theorem EnV.start {z6 : World} (h : z6.ownsRow z.heap.size 3 1 (.slice (some ⟨z.heap.size, 0, none⟩) n n) n (madeCells (Value.int .i64 0).cells (n * 1)).toList) (hb : Below z.heap.size z z6) : ∃ cs, EnV n E n z cs z6 := by
  obtain ⟨-, h2⟩ := h
  rcases h2 with ⟨h2, -⟩ | ⟨g, cap, cur, hv, -, hh, -, -, hs, -⟩
  · cases h2
  · simp only [Value.slice.injEq, Option.some.injEq, Addr.mk.injEq, and_true, true_and] at hv
    obtain ⟨rfl, rfl⟩ := hv
    exact ⟨cur, Nat.le_refl _, hh, by omega, fun k h1 h2 => by omega, hb⟩
theorem EnV.below (h : EnV n E m z cs wr) (hb : Below wr.heap.size wr w') : EnV n E m z cs w' := ⟨h.le, h.row.below hb, h.size, h.val, h.bl.trans (hb.mono h.bl.size)⟩
theorem EnV.cell (h : EnV n E m z cs wr) {k : Nat} (h1 : m ≤ k) (h2 : k < n) : wr.cell? ⟨z.heap.size, k, none⟩ = some (.int .i64 (E k)) := by rw [h.row.cell, h.val k h1 h2]
theorem EnV.at0 (h : EnV n E m z cs wr) {k : Nat} (h2 : k < n) : (∃ v, wr.cell? ⟨z.heap.size, k, none⟩ = some v) ∧ wr.frozen? ⟨z.heap.size, k, none⟩ = false :=
  ⟨⟨cs[k]'(by have := h.size; omega), by rw [h.row.cell]; exact Array.getElem?_eq_getElem _⟩, h.row.frozen k⟩
theorem EnV.set (h : EnV n E (m + 1) z cs wr) : EnV n E m z (cs.setIfInBounds m (.int .i64 (E m))) (wr.setCell ⟨z.heap.size, m, none⟩ (.int .i64 (E m))) where
  le := by have := h.le; omega
  row := h.row.setCell m _
  size := by rw [Array.size_setIfInBounds]; exact h.size
  val := fun k h1 h2 => by
    rw [Array.getElem?_setIfInBounds]
    have hs := h.size
    by_cases e : m = k
    · subst e
      rw [if_pos rfl, if_pos (by omega)]
    · rw [if_neg e]
      exact h.val k (by omega) h2
  bl := h.bl.setCell (Nat.le_refl _) _
end
end Go.Proofs.YthfefbmkgebmkaaGreatDoor
namespace Go.Proofs.YthfefbmkgebmkaaGreatDoor

def RLL (pre : List (List UInt8 × Pt)) (s : Nat) : Rs (List (Wd × Pt)) → Rs (List (Wd × Pt)) → Prop
  | .ok x j, .ok y k => k = j + s ∧ y.map bareR = pre ++ x.map bareR
  | .err e _, .err e' _ => e' = e
  | _, _ => False
theorem rulsP_like {L M : List Wd} (hL : WsOk L) (hM : WsOk M) {s f F : Nat} (hf : f ≤ F) (hl : ∀ k, k < L.length → k + s < M.length ∧ like (wdAt L k) (wdAt M (k + s))) :
    ∀ (g : Nat) (pre : List (List UInt8 × Pt)) (acc acc' : List (Wd × Pt)) (i : Nat) (r : Rs (List (Wd × Pt))), i < L.length → rulsP L f g acc i = some r → acc'.map bareR = pre ++ acc.map bareR → ∃ r', rulsP M F g acc' (i + s) = some r' ∧ RLL pre s r r'
  | 0, pre, acc, acc', i, r, hi, e, ha => by cases e
  | g + 1, pre, acc, acc', i, r, hi, e, ha => by
    unfold rulsP at e ⊢
    cases hq : rulP L f i with
    | none => rw [hq] at e; cases e
    | some r1 =>
      rw [hq] at e
      obtain ⟨r', h1, h2⟩ := rulP_like hL hM hf hi (hl i hi).1 hq (fun k _ hk _ => hl k hk)
      rw [h1]
      cases r1 with
      | err a b =>
        simp only [Option.some.injEq] at e
        subst e
        cases r' with
        | ok y k => exact h2.elim
        | err a' b' => exact ⟨_, rfl, h2⟩
      | ok x k =>
        obtain ⟨w, p⟩ := x
        have hk := (rulP_ok hL hi hq).2.2.2.2.2
        cases r' with
        | err a' b' => exact h2.elim
        | ok y k' =>
          obtain ⟨rfl, hb⟩ := h2
          have ha2 : (acc' ++ [y]).map bareR = pre ++ (acc ++ [(w, p)]).map bareR := by
            rw [List.map_append, List.map_append, ha, List.append_assoc]
            simp only [List.map_cons, List.map_nil, hb]
          simp only [] at e ⊢
          rw [(hl k hk).2.1]
          split at e
          · rename_i hz
            rw [if_pos hz]
            simp only [Option.some.injEq] at e
            subst e
            exact ⟨_, rfl, rfl, ha2⟩
          · rename_i hz
            rw [if_neg hz]
            exact rulsP_like hL hM hf hl g pre _ _ k r hk e ha2
theorem rulsP_mono {L : List Wd} {f : Nat} : ∀ (g : Nat) (acc : List (Wd × Pt)) (i : Nat) (r : Rs (List (Wd × Pt))), rulsP L f g acc i = some r → rulsP L f (g + 1) acc i = some r
  | 0, acc, i, r, e => by cases e
  | g + 1, acc, i, r, e => by
    unfold rulsP at e ⊢
    cases hq : rulP L f i with
    | none => rw [hq] at e; cases e
    | some r1 =>
      rw [hq] at e
      cases r1 with
      | err a b => exact e
      | ok x k =>
        simp only [] at e ⊢
        split at e
        · rename_i hz; rw [if_pos hz]; exact e
        · rename_i hz; rw [if_neg hz]; exact rulsP_mono g _ k r e
theorem rulsP_more {L : List Wd} {f g : Nat} {acc : List (Wd × Pt)} {i : Nat} {r : Rs (List (Wd × Pt))} (e : rulsP L f g acc i = some r) : ∀ h, rulsP L f (g + h) acc i = some r
  | 0 => e
  | h + 1 => rulsP_mono _ _ _ _ (rulsP_more e h)
/-- Whatever the fuel for rules. -/
theorem readW_of {L : List Wd} (hW : WsOk L) {g : Nat} {r : Rs (List (Wd × Pt))} (e : rulsP L (6 * L.length + 4) g [] 0 = some r) : readW L = r := by
  unfold readW
  cases hq : rulsP L (6 * L.length + 4) (L.length + 1) [] 0 with
  | none => exact absurd hq (rulsP_tot hW _ (Nat.le_refl _) _ _ _ hW.pos (by omega))
  | some r2 =>
    simp only []
    have h1 := rulsP_more e (L.length + 1)
    have h2 := rulsP_more hq g
    rw [show L.length + 1 + g = g + (L.length + 1) by omega, h1] at h2
    exact (Option.some.inj h2).symm
theorem rulsP_join {L M : List Wd} (hL : WsOk L) (hM : WsOk M) {f F : Nat} (hf : f ≤ F) (hl : ∀ k, k + 1 < L.length → k < M.length ∧ like (wdAt L k) (wdAt M k)) (hk1 : (wdAt M (L.length - 1)).kind ≠ 1) :
    ∀ (g : Nat) (acc acc' : List (Wd × Pt)) (i : Nat) (x : List (Wd × Pt)) (j : Nat), i + 1 < L.length → rulsP L f g acc i = some (.ok x j) → acc'.map bareR = acc.map bareR → ∃ x' n, x'.map bareR = x.map bareR ∧ j + 1 = L.length ∧ ∀ G, rulsP M F (G + n) acc' i = rulsP M F G x' j
  | 0, acc, acc', i, x, j, hi, e, ha => by cases e
  | g + 1, acc, acc', i, x, j, hi, e, ha => by
    unfold rulsP at e
    cases hq : rulP L f i with
    | none => rw [hq] at e; cases e
    | some r1 =>
      rw [hq] at e
      cases r1 with
      | err a b => cases e
      | ok y k =>
        obtain ⟨w, p⟩ := y
        have hk := (rulP_ok hL (by omega) hq).2.2.2.2.2
        obtain ⟨r', h1, h2⟩ := rulP_like (s := 0) hL hM hf (by omega) (hl i hi).1 hq (fun q _ _ hx => by simp only [ExtR] at hx; exact hl q (by omega))
        cases r' with
        | err a' b' => exact h2.elim
        | ok y' k' =>
          obtain ⟨hk', hb⟩ := h2
          obtain rfl : k' = k := hk'
          have ha2 : (acc' ++ [y']).map bareR = (acc ++ [(w, p)]).map bareR := by
            rw [List.map_append, List.map_append, ha]
            simp only [List.map_cons, List.map_nil, hb]
          rw [Nat.add_zero] at h1
          simp only [] at e
          split at e
          · rename_i hz
            simp only [Option.some.injEq, Rs.ok.injEq] at e
            obtain ⟨rfl, rfl⟩ := e
            have hkl := (hL.en k' hk).1 hz
            refine ⟨acc' ++ [y'], 1, ha2, hkl, fun G => ?_⟩
            conv => lhs; unfold rulsP
            rw [h1]
            simp only []
            rw [if_neg (by rw [show L.length - 1 = k' by omega] at hk1; exact hk1)]
          · rename_i hz
            have hkl : k' + 1 < L.length := by
              have : ¬ k' + 1 = L.length := fun h => hz ((hL.en k' hk).2 h)
              omega
            obtain ⟨x', n, g1, g2, g3⟩ := rulsP_join hL hM hf hl hk1 g _ _ k' x j hkl e ha2
            refine ⟨x', n + 1, g1, g2, fun G => ?_⟩
            rw [show G + (n + 1) = (G + n) + 1 by omega]
            conv => lhs; unfold rulsP
            rw [h1]
            simp only []
            rw [if_neg (by rw [(hl k' hkl).2.1]; exact hz), g3]

/-! ### Trees of the same parts -/
def Rn.b0 (x : Rn) : Rn := { x with at_ := 0 }
mutual
theorem sz_bare : ∀ p : Pt, (bare p).sz = p.sz
  | .mk _ _ _ _ _ _ ks => by unfold bare Pt.sz; rw [szL_bare ks]
theorem szL_bare : ∀ l : List Pt, szL (bareL l) = szL l
  | [] => rfl
  | k :: ks => by unfold bareL szL; rw [sz_bare k, szL_bare ks]
end
theorem kidsAt_bare : ∀ (n : Nat) (ks : List Pt), kidsAt n (bareL ks) = kidsAt n ks
  | n, [] => rfl
  | n, k :: ks => by unfold bareL kidsAt; rw [sz_bare, kidsAt_bare (n + k.sz) ks]
mutual
theorem flat_bare : ∀ (n : Nat) (p : Pt), flat n (bare p) = (flat n p).map Rn.b0
  | n, .mk _ _ _ _ _ _ ks => by
    unfold bare flat
    rw [kidsAt_bare, flatL_bare (n + 1) ks]; rfl
theorem flatL_bare : ∀ (n : Nat) (ks : List Pt), flatL n (bareL ks) = (flatL n ks).map Rn.b0
  | n, [] => rfl
  | n, k :: ks => by
    unfold bareL flatL
    rw [flat_bare n k, sz_bare, flatL_bare (n + k.sz) ks, List.map_append]
end
theorem bareL_map : ∀ l : List Pt, bareL l = l.map bare
  | [] => rfl
  | p :: l => by unfold bareL; rw [bareL_map l]; rfl
/-- What of a tree does not tell places. -/
def nb (r : Rr) : List UInt8 × Nat := (r.nm, r.body)
theorem zip_nb : ∀ (R : List Rr), R.map nb = (R.map (·.nm)).zip (R.map (·.body))
  | [] => rfl
  | r :: R => by simp [nb, zip_nb R]
theorem treeF_bare {x y : List (Wd × Pt)} (h : y.map bareR = x.map bareR) (n : Nat) : (treeF n y).1.map nb = (treeF n x).1.map nb ∧ (treeF n y).2.map Rn.b0 = (treeF n x).2.map Rn.b0 := by
  have h1 : bareL (y.map (·.2)) = bareL (x.map (·.2)) := by
    have := congrArg (List.map Prod.snd) h
    rw [List.map_map, List.map_map] at this
    rw [bareL_map, bareL_map, List.map_map, List.map_map]
    exact this
  have h2 : y.map (·.1.tx) = x.map (·.1.tx) := by
    have := congrArg (List.map Prod.fst) h
    rw [List.map_map, List.map_map] at this
    exact this
  obtain ⟨a1, a2, a3, _⟩ := treeF_is n y
  obtain ⟨b1, b2, b3, _⟩ := treeF_is n x
  refine ⟨?_, ?_⟩
  · rw [zip_nb, zip_nb, a2, a3, b2, b3, h2, ← kidsAt_bare, h1, kidsAt_bare]
  · rw [a1, b1, ← flatL_bare, ← flatL_bare, h1]
theorem kidsAt_add : ∀ (n : Nat) (a b : List Pt), kidsAt n (a ++ b) = kidsAt n a ++ kidsAt (n + szL a) b
  | n, [], b => by simp [kidsAt, szL]
  | n, p :: a, b => by
    show kidsAt n (p :: (a ++ b)) = _
    simp only [kidsAt, szL, List.cons_append]
    rw [kidsAt_add (n + p.sz) a b, Nat.add_assoc]
theorem szL_add : ∀ (a b : List Pt), szL (a ++ b) = szL a + szL b
  | [], b => by simp [szL]
  | p :: a, b => by
    show szL (p :: (a ++ b)) = _
    simp only [szL]
    rw [szL_add a b]; omega
theorem kidsAt_far : ∀ (n m : Nat) (a : List Pt), kidsAt (n + m) a = (kidsAt n a).map (· + m)
  | n, m, [] => rfl
  | n, m, p :: a => by
    simp only [kidsAt, List.map_cons]
    rw [show n + m + p.sz = n + p.sz + m by omega, kidsAt_far (n + p.sz) m a]

/-! ### The laws -/
theorem wordsOf_chain {l : List UInt8} (h : (wordsOf l).2 = none) : Chain l 0 (wordsOf l).1 := wordsF_ok _ _ (Nat.zero_le _) (by omega) h
/-- Other blanks between the words: the same grammar, or none for the same reason. -/
theorem spread_read {l g : List UInt8} (hg : GapW g) (hw : (wordsOf l).2 = none) :
    (readT (spr l g (wordsOf l).1)).2.1 = (readT l).2.1 ∧ (readT (spr l g (wordsOf l).1)).1.1.map nb = (readT l).1.1.map nb ∧ (readT (spr l g (wordsOf l).1)).1.2.map Rn.b0 = (readT l).1.2.map Rn.b0 := by
  obtain ⟨ws, e1, e2⟩ := spread_words hg (wordsOf l).1 0 ((spr l g (wordsOf l).1).length + 1) (Nat.zero_le _) (wordsOf_chain hw) (by omega)
  have hw2 : wordsOf (spr l g (wordsOf l).1) = (ws, none) := e1
  have hL := (words_at hw).ok
  have hM : WsOk ws := by
    have := (words_at (l := spr l g (wordsOf l).1) (by rw [hw2])).ok
    rwa [hw2] at this
  unfold readT
  rw [hw, hw2]
  simp only []
  generalize (wordsOf l).1 = L at *
  unfold readW
  cases hq : rulsP L (6 * L.length + 4) (L.length + 1) [] 0 with
  | none => exact absurd hq (rulsP_tot hL _ (Nat.le_refl _) _ _ _ hL.pos (by omega))
  | some r =>
    obtain ⟨r', h1, h2⟩ := rulsP_like (s := 0) hL hM (Nat.le_refl (6 * L.length + 4)) (fun k hk => ⟨by rw [e2.1]; omega, e2.2 k hk⟩) (L.length + 1) [] [] [] 0 r hL.pos hq rfl
    rw [e2.1, h1]
    simp only []
    cases r with
    | err a b =>
      cases r' with
      | ok x j => exact h2.elim
      | err a' b' => obtain rfl : a' = a := h2; exact ⟨rfl, rfl, rfl⟩
    | ok x j =>
      cases r' with
      | err a' b' => exact h2.elim
      | ok y k =>
        obtain ⟨_, h3⟩ := h2
        have := treeF_bare (x := x) (y := y) (by simpa using h3) 0
        exact ⟨rfl, this.1, this.2⟩
theorem readT_ok {l : List UInt8} {X : List Rr × List Rn} {a : Nat} (h : readT l = (X, 0, a)) : (wordsOf l).2 = none ∧ ∃ x j, readW (wordsOf l).1 = .ok x j ∧ X = treeF 0 x := by
  unfold readT at h
  cases hw : (wordsOf l).2 with
  | some p => rw [hw] at h; simp at h
  | none =>
    rw [hw] at h
    have hA := words_at hw
    simp only [] at h
    cases hr : readW (wordsOf l).1 with
    | err b c =>
      rw [hr] at h
      simp only [Prod.mk.injEq] at h
      have := (readW_err hA.ok (n := l.length) (fun i => wdAt_le (fun i hi => (hA.at_ i hi).2.1) i) hr).1
      omega
    | ok x j =>
      rw [hr] at h
      simp only [Prod.mk.injEq] at h
      exact ⟨rfl, x, j, rfl, h.1.symm⟩
/-- Two texts, one behind the other. -/
theorem join_read {a b : List UInt8} {R1 R2 : List Rr} {N1 N2 : List Rn} {p q : Nat} (h1 : readT a = ((R1, N1), 0, p)) (h2 : readT b = ((R2, N2), 0, q)) :
    ∃ R N, readT (a ++ (10 :: b)) = ((R, N), 0, 0) ∧ R.map nb = R1.map nb ++ (R2.map nb).map (fun x => (x.1, x.2 + N1.length)) ∧ N.length = N1.length + N2.length := by
  obtain ⟨w1, x1, j1, e1, t1⟩ := readT_ok h1
  obtain ⟨w2, x2, j2, e2, t2⟩ := readT_ok h2
  have hg : Gap [10] := gap_ok 0 (by decide)
  have hj := join_words hg b (wordsOf a).1 0 ((a ++ ([10] ++ b)).length + 1) (Nat.zero_le _) (wordsOf_chain w1) (by omega)
  have hj' : wordsOf (a ++ (10 :: b)) = ((wordsOf a).1.dropLast ++ (wordsOf b).1.map (Wd.far (a.length + 1)), (wordsOf b).2.map (a.length + 1 + ·)) := hj
  rw [w2, Option.map_none] at hj'
  have hL1 := (words_at w1).ok
  have hL2 := (words_at w2).ok
  have hM := (words_at (l := a ++ (10 :: b)) (by rw [hj'])).ok
  rw [hj'] at hM
  simp only at hM
  have hrd : readT (a ++ (10 :: b)) = match readW ((wordsOf a).1.dropLast ++ (wordsOf b).1.map (Wd.far (a.length + 1))) with
    | .ok x _ => (treeF 0 x, 0, 0)
    | .err e c => (([], []), e, c) := by
    unfold readT
    rw [hj']
    simp only []
    generalize readW ((wordsOf a).1.dropLast ++ (wordsOf b).1.map (Wd.far (a.length + 1))) = r
    cases r <;> rfl
  rw [hrd]
  clear hrd hj hj' h1 h2 w1 w2 hg
  generalize (wordsOf a).1 = L1 at *
  generalize (wordsOf b).1 = L2 at *
  generalize a.length + 1 = off at *
  have p1 := hL1.pos
  have p2 := hL2.pos
  have hMl : (L1.dropLast ++ L2.map (Wd.far off)).length = L1.length - 1 + L2.length := by simp
  have a1 : ∀ k, k + 1 < L1.length → wdAt (L1.dropLast ++ L2.map (Wd.far off)) k = wdAt L1 k := fun k hk => by
    rw [wdAt_in (by rw [hMl]; omega), wdAt_in (by omega), List.getElem_append_left (by simp; omega), List.getElem_dropLast]
  have a2 : ∀ k, k < L2.length → wdAt (L1.dropLast ++ L2.map (Wd.far off)) (k + (L1.length - 1)) = Wd.far off (wdAt L2 k) := fun k hk => by
    rw [wdAt_in (by rw [hMl]; omega), wdAt_in hk, List.getElem_append_right (by simp), List.getElem_map]
    congr 2
    simp
  generalize L1.dropLast ++ L2.map (Wd.far off) = M at *
  -- the first word of the second text is a name
  have hq2 : ∃ r, rulsP L2 (6 * L2.length + 4) (L2.length + 1) [] 0 = some r ∧ r = .ok x2 j2 := by
    unfold readW at e2
    cases hq : rulsP L2 (6 * L2.length + 4) (L2.length + 1) [] 0 with
    | none => exact absurd hq (rulsP_tot hL2 _ (Nat.le_refl _) _ _ _ hL2.pos (by omega))
    | some r => rw [hq] at e2; exact ⟨r, rfl, e2⟩
  have hq1 : ∃ r, rulsP L1 (6 * L1.length + 4) (L1.length + 1) [] 0 = some r ∧ r = .ok x1 j1 := by
    unfold readW at e1
    cases hq : rulsP L1 (6 * L1.length + 4) (L1.length + 1) [] 0 with
    | none => exact absurd hq (rulsP_tot hL1 _ (Nat.le_refl _) _ _ _ hL1.pos (by omega))
    | some r => rw [hq] at e1; exact ⟨r, rfl, e1⟩
  obtain ⟨_, hq1, rfl⟩ := hq1
  obtain ⟨_, hq2, rfl⟩ := hq2
  have first : ∀ {L : List Wd} {f g : Nat} {x : List (Wd × Pt)} {j : Nat}, WsOk L → rulsP L f (g + 1) [] 0 = some (.ok x j) → (wdAt L 0).kind = 2 ∧ 1 < L.length := fun {L f g x j} hL e => by
    unfold rulsP at e
    cases hq : rulP L f 0 with
    | none => rw [hq] at e; cases e
    | some r =>
      rw [hq] at e
      cases r with
      | err a b => cases e
      | ok y k =>
        obtain ⟨w, p⟩ := y
        obtain ⟨h1, h2, h3, _⟩ := rulP_ok hL hL.pos hq
        exact ⟨by rw [← h1]; exact h2, by omega⟩
  have f1 := first hL1 hq1
  have f2 := first hL2 hq2
  have hkind : (wdAt M (L1.length - 1)).kind ≠ 1 := by
    have := a2 0 p2
    rw [Nat.zero_add] at this
    rw [this]
    show (wdAt L2 0).kind ≠ 1
    omega
  obtain ⟨x', n, b1, b2, b3⟩ := rulsP_join hL1 hM (f := 6 * L1.length + 4) (F := 6 * M.length + 4) (by omega) (fun k hk => ⟨by omega, by rw [a1 k hk]; exact like.refl _⟩) hkind (L1.length + 1) [] [] 0 x1 j1 f1.2 hq1 rfl
  obtain ⟨r', c1, c2⟩ := rulsP_like (s := L1.length - 1) hL2 hM (f := 6 * L2.length + 4) (F := 6 * M.length + 4) (by omega) (fun k hk => ⟨by omega, by rw [a2 k hk]; exact ⟨rfl, rfl, rfl, rfl⟩⟩) (L2.length + 1) (x1.map bareR) [] x' 0 (.ok x2 j2) p2 hq2 (by rw [b1]; simp)
  have hjj : j1 = 0 + (L1.length - 1) := by omega
  have hfin := b3 (L2.length + 1)
  rw [hjj, c1] at hfin
  have hrd := readW_of hM hfin
  rw [hrd]
  cases r' with
  | err a' b' => exact c2.elim
  | ok y k =>
    obtain ⟨_, hy⟩ := c2
    refine ⟨(treeF 0 y).1, (treeF 0 y).2, rfl, ?_, ?_⟩
    · have hyb : y.map bareR = (x1 ++ x2).map bareR := by rw [hy, List.map_append]
      rw [(treeF_bare hyb 0).1]
      obtain ⟨u1, u2, u3, _⟩ := treeF_is 0 (x1 ++ x2)
      obtain ⟨v1, v2, v3, _⟩ := treeF_is 0 x1
      obtain ⟨s1, s2, s3, _⟩ := treeF_is 0 x2
      have hN1 : N1.length = szL (x1.map (·.2)) := by
        have := congrArg (fun X => X.2.length) t1
        simp only [] at this
        rw [this, v1, flatL_len]
      have hR1 : R1 = (treeF 0 x1).1 := congrArg Prod.fst t1
      have hR2 : R2 = (treeF 0 x2).1 := congrArg Prod.fst t2
      rw [zip_nb, u2, u3, List.map_append, List.map_append, kidsAt_add, hR1, hR2, zip_nb, zip_nb, v2, v3, s2, s3, List.zip_append (by rw [List.length_map, kidsAt_len, List.length_map])]
      congr 1
      rw [Nat.add_comm 0, Nat.add_comm _ 0, kidsAt_far, ← hN1]
      generalize x2.map (fun x => x.1.tx) = A
      generalize kidsAt 0 (x2.map (·.2)) = B
      induction A generalizing B with
      | nil => rfl
      | cons a A ih =>
        cases B with
        | nil => rfl
        | cons b B => simp only [List.map_cons, List.zip_cons_cons, ih]
    · have hl : ∀ x : List (Wd × Pt), (treeF 0 x).2.length = szL (x.map (·.2)) := fun x => by rw [(treeF_is 0 x).1, flatL_len]
      have hs : szL (y.map (·.2)) = szL ((x1 ++ x2).map (·.2)) := by
        have h3 : bareL (y.map (·.2)) = bareL ((x1 ++ x2).map (·.2)) := by
          have hyb : y.map bareR = (x1 ++ x2).map bareR := by rw [hy, List.map_append]
          have := congrArg (List.map Prod.snd) hyb
          rw [List.map_map, List.map_map] at this
          rw [bareL_map, bareL_map, List.map_map, List.map_map]
          exact this
        rw [← szL_bare, h3, szL_bare]
      have hN1 : N1 = (treeF 0 x1).2 := congrArg Prod.snd t1
      have hN2 : N2 = (treeF 0 x2).2 := congrArg Prod.snd t2
      show (treeF 0 y).2.length = _
      rw [hl, hs, hN1, hN2, hl, hl, List.map_append, szL_add]
end Go.Proofs.YthfefbmkgebmkaaGreatDoor
namespace Go.Proofs.YthfefbmkgebmkaaGreatDoor
open Go.RowKit
set_option maxRecDepth 100000
set_option maxHeartbeats 8000000

theorem pick_any (w : World) (x n : Int) (h1 : 1 ≤ n) (hn : n ≤ 1000000) : Calls Tryz.prog 11 #[.int .i64 x, .int .i64 n] w fun r w' => r = .returned (.int .i64 (x % n)) ∧ w = w' := by
 have hd : n ≠ 0 := by omega
 have ht : decide (n < 1) = false := decide_eq_false (by omega)
 have hlt := Int.tmod_lt_of_pos x (show 0 < n by omega)
 have hgt : -n < x.tmod n := by have h := Int.tmod_lt_of_pos (-x) (show 0 < n by omega); rw [Int.neg_tmod] at h; omega
 by_cases hx : x.tmod n < 0
 ·have hr : x % n = x.tmod n + n := by
   have h1 := Int.tmod_eq_emod (a := x) (b := n)
   have h2 := Int.emod_nonneg x hd
   have h3 := Int.emod_lt_of_pos x (show 0 < n by omega)
   split at h1 <;> omega
  rw [hr]
  clear hr
  go_enter Tryz.func11, Tryz.ntmps11
  go_wp2_with fail
  go_ret
  exact ⟨rfl, rfl⟩
 ·have hr : x % n = x.tmod n := by
   have h1 := Int.tmod_eq_emod (a := x) (b := n)
   have h2 := Int.emod_nonneg x hd
   have h3 := Int.emod_lt_of_pos x (show 0 < n by omega)
   split at h1 <;> omega
  have hx' : 0 ≤ x.tmod n := by omega
  rw [hr]
  clear hr
  go_enter Tryz.func11, Tryz.ntmps11
  go_wp2_with fail
  go_ret
  exact ⟨rfl, rfl⟩
theorem wordsF_len (l : List UInt8) : ∀ (f k : Nat), (wordsF l f k).1.length ≤ f
 | 0, _ => Nat.le_refl _
 | f + 1, k => by
  unfold wordsF
  cases nextW l k with
  | none => simp
  | some w =>
   simp only []
   split
   ·simp
   ·have := wordsF_len l f w.nx
    simp; omega
/-- The words of a text stand one behind the other within it. -/
theorem chain_in {l : List UInt8} : ∀ (ws : List Wd) (k : Nat), k ≤ l.length → Chain l k ws → ∀ x ∈ ws, x.at_ ≤ x.nx ∧ x.nx ≤ l.length
 | [], k, _, h, x, hx => by simp at hx
 | w :: ws, k, hk, h, x, hx => by
  obtain ⟨hw, hc⟩ := h
  obtain ⟨h1, h2, h3, h4, _⟩ := nextW_some hw hk
  rcases List.mem_cons.1 hx with rfl | hx
  ·exact ⟨h3, h4⟩
  ·rcases hc with ⟨_, rfl⟩ | ⟨_, hc⟩
   ·simp at hx
   ·exact chain_in ws w.nx h4 hc x hx
theorem ba_data (a b : ByteArray) : (a ++ b).data.toList = a.data.toList ++ b.data.toList := by simp
def gapB : Array Value := #[.string ⟨#[32]⟩, .string ⟨#[10]⟩, .string ⟨#[32, 35, 120, 10, 9]⟩, .string ⟨#[13, 10, 35, 10]⟩]
theorem gapB_at (r : Nat) (hr : r < 4) : ∃ g : ByteArray, gapB[r]? = some (.string g) ∧ GapW g.data.toList ∧ g.size ≤ 5 := by
 match r, hr with
 | 0, _ => exact ⟨_, rfl, ⟨⟨_, _, rfl, .inr (.inl rfl)⟩, fun u => by simp [skp, isBl]⟩, by decide⟩
 | 1, _ => exact ⟨_, rfl, ⟨⟨_, _, rfl, .inl rfl⟩, fun u => by simp [skp, isBl]⟩, by decide⟩
 | 2, _ => exact ⟨_, rfl, ⟨⟨_, _, rfl, .inr (.inl rfl)⟩, fun u => by simp [skp, isBl]; omega⟩, by decide⟩
 | 3, _ => exact ⟨_, rfl, ⟨⟨_, _, rfl, .inr (.inr rfl)⟩, fun u => by simp [skp, isBl]; omega⟩, by decide⟩
/-- What is laid of rules and nodes hangs on names and bodies, and on the nodes but for their places. -/
theorem ru_nb {R S : List Rr} (h : R.map nb = S.map nb) : R.map Rr.ru = S.map Rr.ru := by
  have e : ∀ l : List Rr, l.map Rr.ru = (l.map nb).map fun p => (⟨tx p.1, p.2⟩ : Ru) := fun l => by rw [List.map_map]; rfl
  rw [e, e, h]
theorem nd_b0 {M N : List Rn} (h : M.map Rn.b0 = N.map Rn.b0) : M.map Rn.nd = N.map Rn.nd := by
  have e : ∀ l : List Rn, l.map Rn.nd = (l.map Rn.b0).map Rn.nd := fun l => by rw [List.map_map]; rfl
  exact (e M).trans ((congrArg _ h).trans (e N).symm)
theorem spr_take {l g : List UInt8} {ws : List Wd} {j : Nat} (h : j < ws.length) : spr l g (ws.take (j + 1)) = spr l g (ws.take j) ++ (g ++ wtx l ws[j]) := by
  unfold spr
  rw [← List.take_append_getElem h, List.flatMap_append]
  simp
theorem spr_len {l g : List UInt8} {B : Nat} : ∀ (ws : List Wd), (∀ x ∈ ws, (wtx l x).length ≤ B) → (spr l g ws).length ≤ ws.length * (g.length + B)
  | [], _ => by simp [spr]
  | w :: ws, h => by
    have h1 := spr_len ws (fun x hx => h x (List.mem_cons_of_mem _ hx)) (g := g)
    have h2 := h w (by simp)
    have e : spr l g (w :: ws) = (g ++ wtx l w) ++ spr l g ws := by unfold spr; rw [List.flatMap_cons]
    rw [e, List.length_append, List.length_append, List.length_cons, Nat.succ_mul]
    omega
/-- Texts and names of what was read are no longer than the text. -/
theorem readT_tx {l : List UInt8} {R : List Rr} {N : List Rn} {e a : Nat} (h : readT l = ((R, N), e, a)) : (∀ x ∈ N, x.tx.length ≤ l.length) ∧ (∀ r ∈ R, r.nm.length ≤ l.length) := by
  by_cases he : e = 0
  · subst he
    obtain ⟨-, -, -, -, E, hE, -, hNm, -⟩ := preorder h
    refine ⟨fun x hx => ?_, fun r hr => ?_⟩
    · obtain ⟨i, hi, rfl⟩ := List.mem_iff_getElem.1 hx
      exact (hE i hi).2.2.2.2.2.2
    · obtain ⟨-, w, h1, h2⟩ := hNm r hr
      rw [← h2]; exact nextW_tx h1
  · obtain ⟨hX, -, -⟩ := readT_err h he
    cases hX
    exact ⟨fun x hx => by simp at hx, fun x hx => by simp at hx⟩
/-- What Text gives back: a tree (an empty one where it errs), its slices, the error. -/
theorem TxtP.tree {l : List UInt8} {w w' : World} {e : Ending} {R : List Rr} {N : List Rn} {e0 a0 : Nat} (h : TxtP l w e w') (hr : readT l = ((R, N), e0, a0)) (hl : l.length ≤ 1000000) :
    ∃ (ro no ao bo co : Option Addr) (rc nc ac bc cc : Nat) (NK : List Nk), e = .returned (.tuple #[.agg #[.slice ro R.length rc, .slice no N.length nc, .slice ao R.length ac, .slice bo N.length bc, .slice co N.length cc], .agg #[.int .i64 e0, .int .i64 a0]]) ∧
      GrW w' ro R.length rc no N.length nc NK ⟨R.map Rr.ru, N.map Rn.nd⟩ ∧ Sv w' ao R.length ac 1 (inc (R.map fun r => (r.at_ : Int))) ∧ Sv w' bo N.length bc 1 (inc (N.map fun x => (x.at_ : Int))) ∧ Sv w' co N.length cc 1 ((N.map fun x => tx x.nm).map Value.string) ∧ Below w.heap.size w w' := by
  obtain ⟨v1, v2, v3, v4, v5, rfl, ht, hb⟩ := h
  rw [hr] at ht
  obtain ⟨h1, h2⟩ := readT_tx hr
  obtain ⟨ro, no, ao, bo, co, rc, nc, ac, bc, cc, NK, rfl, rfl, rfl, rfl, rfl, hG, hRA, hNA, hNM⟩ := ht.gr (fun x hx => by have := h1 x hx; omega) (fun r hr => by have := h2 r hr; omega)
  exact ⟨ro, no, ao, bo, co, rc, nc, ac, bc, cc, NK, by rw [hr], hG, hRA, hNA, hNM, hb⟩
theorem two_blocks (y : World) (g : Nat) (hg : y.heap.size = g) (a b : Array Value) (ta tb : TypeId) : ∃ z, (y.alloc (.cells a ta)).alloc (.cells b tb) = z ∧ hrow z g a ta ∧ hrow z (g + 1) b tb ∧ Below y.heap.size y z := by
  subst hg
  have h2 := hrow.new (y.alloc (.cells a ta)) b tb
  rw [World.size_alloc] at h2
  exact ⟨_, rfl, (hrow.new y a ta).below ((Below.refl _ _).alloc (Nat.le_refl _) _), h2, al2 (Below.refl _ _) _ _⟩
/-- A tree that was read, with its error, in two objects. -/
structure TrD (g : Nat) (ro no ao bo co : Option Addr) (rc nc ac bc cc : Nat) (NK : List Nk) (R : List Rr) (N : List Rn) (e a : Nat) (w : World) : Prop where
  tr : hrow w g #[.slice ro R.length rc, .slice no N.length nc, .slice ao R.length ac, .slice bo N.length bc, .slice co N.length cc] 30
  dg : hrow w (g + 1) #[.int .i64 e, .int .i64 a] 33
  gr : GrW w ro R.length rc no N.length nc NK ⟨R.map Rr.ru, N.map Rn.nd⟩
section
variable {g : Nat} {ro no ao bo co : Option Addr} {rc nc ac bc cc : Nat} {NK : List Nk} {R : List Rr} {N : List Rn} {e a : Nat} {w w' : World}
theorem TrD.below (h : TrD g ro no ao bo co rc nc ac bc cc NK R N e a w) (hb : Below w.heap.size w w') : TrD g ro no ao bo co rc nc ac bc cc NK R N e a w' := ⟨h.tr.below hb, h.dg.below hb, h.gr.below hb⟩
theorem TrD.new (y : World) (hg : y.heap.size = g) (h : GrW y ro R.length rc no N.length nc NK ⟨R.map Rr.ru, N.map Rn.nd⟩) : ∃ z, (y.alloc (.cells #[.slice ro R.length rc, .slice no N.length nc, .slice ao R.length ac, .slice bo N.length bc, .slice co N.length cc] 30)).alloc (.cells #[.int .i64 e, .int .i64 a] 33) = z ∧ TrD g ro no ao bo co rc nc ac bc cc NK R N e a z ∧ Below y.heap.size y z := by
  obtain ⟨z, hz, z1, z2, zb⟩ := two_blocks y g hg #[.slice ro R.length rc, .slice no N.length nc, .slice ao R.length ac, .slice bo N.length bc, .slice co N.length cc] #[.int .i64 e, .int .i64 a] 30 33
  exact ⟨z, hz, ⟨z1, z2, h.below zb⟩, zb⟩
end
theorem spr_step (a g : ByteArray) (ws : List Wd) (j : Nat) (h : j < ws.length) : tx (spr a.data.toList g.data.toList (ws.take (j + 1))) = tx (spr a.data.toList g.data.toList (ws.take j)) ++ g ++ a.extract ws[j].at_ ws[j].nx := by
  rw [← tx_self (tx (spr a.data.toList g.data.toList (ws.take j)) ++ g ++ a.extract ws[j].at_ ws[j].nx)]
  congr 1
  rw [ba_data, ba_data, tx_list, spr_take h, List.append_assoc]
  congr 2
  rw [ByteArray.data_extract, Array.toList_extract]
  rfl
theorem AllP.words {l : List UInt8} {w w' : World} {e : Ending} (h : AllP l w e w') :
    ∃ (ws : List Wd) (ao : Option Addr) (cap p q : Nat), e = .returned (.tuple #[.slice ao ws.length cap, .int .i64 p, .int .i64 q]) ∧ Sv w' ao ws.length cap 9 (ws.flatMap fun x => (wdD x).toList) ∧ Below w.heap.size w w' ∧ (q = 0 → (wordsOf l).2 = none ∧ ws = (wordsOf l).1) ∧ (∀ x ∈ ws, x.at_ ≤ x.nx ∧ x.nx ≤ l.length) ∧ ws.length ≤ l.length + 1 := by
  unfold AllP at h
  cases hq : (wordsOf l).2 with
  | none =>
    rw [hq] at h
    obtain ⟨v, rfl, hO⟩ := h
    obtain ⟨ao, cap, rfl, hs⟩ := hO.sv
    exact ⟨_, ao, cap, 0, 0, rfl, hs, hO.2, fun _ => ⟨rfl, rfl⟩, chain_in _ 0 (Nat.zero_le _) (wordsOf_chain hq), wordsF_len _ _ _⟩
  | some p =>
    rw [hq] at h
    obtain ⟨rfl, hb⟩ := h
    exact ⟨[], none, 0, p, 7, rfl, Sv.nil _ _, hb, fun h => by omega, fun x hx => by simp at hx, Nat.zero_le _⟩
end Go.Proofs.YthfefbmkgebmkaaGreatDoor
