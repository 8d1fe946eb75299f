/- Walks and plain laws: Ii Yj Yi Lj Yh Ym. -/
import Derived.Test.YtgjhepblpdnkcaaGreatDoorM15
import Derived.Test.YtgjhepblpdnkcaaGreatDoorM23
import Derived.Test.YtgjhepblpdnkcaaGreatDoorM14
import Derived.Test.YtgjhepblpdnkcaaGreatDoorM05
import Derived.BigQuiet
namespace Go.Proofs.YtgjhepblpdnkcaaGreatDoor

def RLL (pre : List (List UInt8 × Pt)) (s : Nat) : Rs (List (Wd × Pt)) → Rs (List (Wd × Pt)) → Prop
 | .ok x j, .ok y k => k = j + s ∧ y.map bareR = pre ++ x.map bareR
 | .err e _, .err e' _ => e' = e
 | _, _ => False
theorem rulsP_like {L M : List Wd} (hL : WsOk L) (hM : WsOk M) {s f F : Nat} (hf : f ≤ F) (hl : ∀ k, k < L.length → k + s < M.length ∧ like (wdAt L k) (wdAt M (k + s))) :
  ∀ (g : Nat) (pre : List (List UInt8 × Pt)) (acc acc' : List (Wd × Pt)) (i : Nat) (r : Rs (List (Wd × Pt))), i < L.length → rulsP L f g acc i = some r → acc'.map bareR = pre ++ acc.map bareR → ∃ r', rulsP M F g acc' (i + s) = some r' ∧ RLL pre s r r'
 | 0, pre, acc, acc', i, r, hi, e, ha => by cases e
 | g + 1, pre, acc, acc', i, r, hi, e, ha => by
  unfold rulsP at e ⊢
  cases hq : rulP L f i with
  | none => rw [hq] at e; cases e
  | some r1 =>
   rw [hq] at e
   obtain ⟨r', h1, h2⟩ := rulP_like hL hM hf hi (hl i hi).1 hq (fun k _ hk _ => hl k hk)
   rw [h1]
   cases r1 with
   | err a b =>
    simp only [Option.some.injEq] at e
    subst e
    cases r' with
    | ok y k => exact h2.elim
    | err a' b' => exact ⟨_, rfl, h2⟩
   | ok x k =>
    obtain ⟨w, p⟩ := x
    have hk := (rulP_ok hL hi hq).2.2.2.2.2
    cases r' with
    | err a' b' => exact h2.elim
    | ok y k' =>
     obtain ⟨rfl, hb⟩ := h2
     have ha2 : (acc' ++ [y]).map bareR = pre ++ (acc ++ [(w, p)]).map bareR := by
      rw [List.map_append, List.map_append, ha, List.append_assoc]
      simp only [List.map_cons, List.map_nil, hb]
     simp only [] at e ⊢
     rw [(hl k hk).2.1]
     split at e
     ·rename_i hz
      rw [if_pos hz]
      simp only [Option.some.injEq] at e
      subst e
      exact ⟨_, rfl, rfl, ha2⟩
     ·rename_i hz
      rw [if_neg hz]
      exact rulsP_like hL hM hf hl g pre _ _ k r hk e ha2
theorem rulsP_mono {L : List Wd} {f : Nat} : ∀ (g : Nat) (acc : List (Wd × Pt)) (i : Nat) (r : Rs (List (Wd × Pt))), rulsP L f g acc i = some r → rulsP L f (g + 1) acc i = some r
 | 0, acc, i, r, e => by cases e
 | g + 1, acc, i, r, e => by
  unfold rulsP at e ⊢
  cases hq : rulP L f i with
  | none => rw [hq] at e; cases e
  | some r1 =>
   rw [hq] at e
   cases r1 with
   | err a b => exact e
   | ok x k =>
    simp only [] at e ⊢
    split at e
    ·rename_i hz; rw [if_pos hz]; exact e
    ·rename_i hz; rw [if_neg hz]; exact rulsP_mono g _ k r e
theorem rulsP_more {L : List Wd} {f g : Nat} {acc : List (Wd × Pt)} {i : Nat} {r : Rs (List (Wd × Pt))} (e : rulsP L f g acc i = some r) : ∀ h, rulsP L f (g + h) acc i = some r
 | 0 => e
 | h + 1 => rulsP_mono _ _ _ _ (rulsP_more e h)
/-- Whatever the fuel for rules. -/
theorem readW_of {L : List Wd} (hW : WsOk L) {g : Nat} {r : Rs (List (Wd × Pt))} (e : rulsP L (6 * L.length + 4) g [] 0 = some r) : readW L = r := by
 unfold readW
 cases hq : rulsP L (6 * L.length + 4) (L.length + 1) [] 0 with
 | none => exact absurd hq (rulsP_tot hW _ (Nat.le_refl _) _ _ _ hW.pos (by omega))
 | some r2 =>
  simp only []
  have h1 := rulsP_more e (L.length + 1)
  have h2 := rulsP_more hq g
  rw [show L.length + 1 + g = g + (L.length + 1) by omega, h1] at h2
  exact (Option.some.inj h2).symm
theorem rulsP_join {L M : List Wd} (hL : WsOk L) (hM : WsOk M) {f F : Nat} (hf : f ≤ F) (hl : ∀ k, k + 1 < L.length → k < M.length ∧ like (wdAt L k) (wdAt M k)) (hk1 : (wdAt M (L.length - 1)).kind ≠ 1) :
  ∀ (g : Nat) (acc acc' : List (Wd × Pt)) (i : Nat) (x : List (Wd × Pt)) (j : Nat), i + 1 < L.length → rulsP L f g acc i = some (.ok x j) → acc'.map bareR = acc.map bareR → ∃ x' n, x'.map bareR = x.map bareR ∧ j + 1 = L.length ∧ ∀ G, rulsP M F (G + n) acc' i = rulsP M F G x' j
 | 0, acc, acc', i, x, j, hi, e, ha => by cases e
 | g + 1, acc, acc', i, x, j, hi, e, ha => by
  unfold rulsP at e
  cases hq : rulP L f i with
  | none => rw [hq] at e; cases e
  | some r1 =>
   rw [hq] at e
   cases r1 with
   | err a b => cases e
   | ok y k =>
    obtain ⟨w, p⟩ := y
    have hk := (rulP_ok hL (by omega) hq).2.2.2.2.2
    obtain ⟨r', h1, h2⟩ := rulP_like (s := 0) hL hM hf (by omega) (hl i hi).1 hq (fun q _ _ hx => by simp only [ExtR] at hx; exact hl q (by omega))
    cases r' with
    | err a' b' => exact h2.elim
    | ok y' k' =>
     obtain ⟨hk', hb⟩ := h2
     obtain rfl : k' = k := hk'
     have ha2 : (acc' ++ [y']).map bareR = (acc ++ [(w, p)]).map bareR := by
      rw [List.map_append, List.map_append, ha]
      simp only [List.map_cons, List.map_nil, hb]
     rw [Nat.add_zero] at h1
     simp only [] at e
     split at e
     ·rename_i hz
      simp only [Option.some.injEq, Rs.ok.injEq] at e
      obtain ⟨rfl, rfl⟩ := e
      have hkl := (hL.en k' hk).1 hz
      refine ⟨acc' ++ [y'], 1, ha2, hkl, fun G => ?_⟩
      conv => lhs; unfold rulsP
      rw [h1]
      simp only []
      rw [if_neg (by rw [show L.length - 1 = k' by omega] at hk1; exact hk1)]
     ·rename_i hz
      have hkl : k' + 1 < L.length := by
       have : ¬ k' + 1 = L.length := fun h => hz ((hL.en k' hk).2 h)
       omega
      obtain ⟨x', n, g1, g2, g3⟩ := rulsP_join hL hM hf hl hk1 g _ _ k' x j hkl e ha2
      refine ⟨x', n + 1, g1, g2, fun G => ?_⟩
      rw [show G + (n + 1) = (G + n) + 1 by omega]
      conv => lhs; unfold rulsP
      rw [h1]
      simp only []
      rw [if_neg (by rw [(hl k' hkl).2.1]; exact hz), g3]

/-! ### Trees of the same parts -/
def Rn.b0 (x : Rn) : Rn := { x with at_ := 0 }
mutual
theorem sz_bare : ∀ p : Pt, (bare p).sz = p.sz
 | .mk _ _ _ _ _ _ ks => by unfold bare Pt.sz; rw [szL_bare ks]
theorem szL_bare : ∀ l : List Pt, szL (bareL l) = szL l
 | [] => rfl
 | k :: ks => by unfold bareL szL; rw [sz_bare k, szL_bare ks]
end
theorem kidsAt_bare : ∀ (n : Nat) (ks : List Pt), kidsAt n (bareL ks) = kidsAt n ks
 | n, [] => rfl
 | n, k :: ks => by unfold bareL kidsAt; rw [sz_bare, kidsAt_bare (n + k.sz) ks]
mutual
theorem flat_bare : ∀ (n : Nat) (p : Pt), flat n (bare p) = (flat n p).map Rn.b0
 | n, .mk _ _ _ _ _ _ ks => by
  unfold bare flat
  rw [kidsAt_bare, flatL_bare (n + 1) ks]; rfl
theorem flatL_bare : ∀ (n : Nat) (ks : List Pt), flatL n (bareL ks) = (flatL n ks).map Rn.b0
 | n, [] => rfl
 | n, k :: ks => by
  unfold bareL flatL
  rw [flat_bare n k, sz_bare, flatL_bare (n + k.sz) ks, List.map_append]
end
theorem bareL_map : ∀ l : List Pt, bareL l = l.map bare
 | [] => rfl
 | p :: l => by unfold bareL; rw [bareL_map l]; rfl
/-- What of a tree does not tell places. -/
def nb (r : Rr) : List UInt8 × Nat := (r.nm, r.body)
theorem zip_nb : ∀ (R : List Rr), R.map nb = (R.map (·.nm)).zip (R.map (·.body))
 | [] => rfl
 | r :: R => by simp [nb, zip_nb R]
theorem treeF_bare {x y : List (Wd × Pt)} (h : y.map bareR = x.map bareR) (n : Nat) : (treeF n y).1.map nb = (treeF n x).1.map nb ∧ (treeF n y).2.map Rn.b0 = (treeF n x).2.map Rn.b0 := by
 have h1 : bareL (y.map (·.2)) = bareL (x.map (·.2)) := by
  have := congrArg (List.map Prod.snd) h
  rw [List.map_map, List.map_map] at this
  rw [bareL_map, bareL_map, List.map_map, List.map_map]
  exact this
 have h2 : y.map (·.1.tx) = x.map (·.1.tx) := by
  have := congrArg (List.map Prod.fst) h
  rw [List.map_map, List.map_map] at this
  exact this
 obtain ⟨a1, a2, a3, _⟩ := treeF_is n y
 obtain ⟨b1, b2, b3, _⟩ := treeF_is n x
 refine ⟨?_, ?_⟩
 ·rw [zip_nb, zip_nb, a2, a3, b2, b3, h2, ← kidsAt_bare, h1, kidsAt_bare]
 ·rw [a1, b1, ← flatL_bare, ← flatL_bare, h1]
theorem kidsAt_add : ∀ (n : Nat) (a b : List Pt), kidsAt n (a ++ b) = kidsAt n a ++ kidsAt (n + szL a) b
 | n, [], b => by simp [kidsAt, szL]
 | n, p :: a, b => by
  show kidsAt n (p :: (a ++ b)) = _
  simp only [kidsAt, szL, List.cons_append]
  rw [kidsAt_add (n + p.sz) a b, Nat.add_assoc]
theorem szL_add : ∀ (a b : List Pt), szL (a ++ b) = szL a + szL b
 | [], b => by simp [szL]
 | p :: a, b => by
  show szL (p :: (a ++ b)) = _
  simp only [szL]
  rw [szL_add a b]; omega
theorem kidsAt_far : ∀ (n m : Nat) (a : List Pt), kidsAt (n + m) a = (kidsAt n a).map (· + m)
 | n, m, [] => rfl
 | n, m, p :: a => by
  simp only [kidsAt, List.map_cons]
  rw [show n + m + p.sz = n + p.sz + m by omega, kidsAt_far (n + p.sz) m a]

/-! ### The laws -/
theorem wordsOf_chain {l : List UInt8} (h : (wordsOf l).2 = none) : Chain l 0 (wordsOf l).1 := wordsF_ok _ _ (Nat.zero_le _) (by omega) h
theorem readT_ok {l : List UInt8} {X : List Rr × List Rn} {a : Nat} (h : readT l = (X, 0, a)) : (wordsOf l).2 = none ∧ ∃ x j, readW (wordsOf l).1 = .ok x j ∧ X = treeF 0 x := by
 unfold readT at h
 cases hw : (wordsOf l).2 with
 | some p => rw [hw] at h; simp at h
 | none =>
  rw [hw] at h
  have hA := words_at hw
  simp only [] at h
  cases hr : readW (wordsOf l).1 with
  | err b c =>
   rw [hr] at h
   simp only [Prod.mk.injEq] at h
   have := (readW_err hA.ok (n := l.length) (fun i => wdAt_le (fun i hi => (hA.at_ i hi).2.1) i) hr).1
   omega
  | ok x j =>
   rw [hr] at h
   simp only [Prod.mk.injEq] at h
   exact ⟨rfl, x, j, rfl, h.1.symm⟩
end Go.Proofs.YtgjhepblpdnkcaaGreatDoor
namespace Go.Proofs.YtgjhepblpdnkcaaGreatDoor

def Rn.mv (m : Nat) (x : Rn) : Rn := { x with kids := x.kids.map (· + m) }
theorem flatL_add : ∀ (n : Nat) (a b : List Pt), flatL n (a ++ b) = flatL n a ++ flatL (n + szL a) b
 | n, [], b => by simp [flatL, szL]
 | n, p :: a, b => by
  show flatL n (p :: (a ++ b)) = _
  simp only [flatL, szL]
  rw [flatL_add (n + p.sz) a b, Nat.add_assoc, List.append_assoc]
mutual
theorem flat_far : ∀ (n m : Nat) (p : Pt), flat (n + m) p = (flat n p).map (Rn.mv m)
 | n, m, .mk _ _ _ _ _ _ ks => by
  unfold flat
  rw [List.map_cons, show n + m + 1 = (n + 1) + m by omega, kidsAt_far, flatL_far2 (n + 1) m ks]; rfl
theorem flatL_far2 : ∀ (n m : Nat) (a : List Pt), flatL (n + m) a = (flatL n a).map (Rn.mv m)
 | n, m, [] => rfl
 | n, m, p :: a => by
  simp only [flatL, List.map_append]
  rw [show n + m + p.sz = n + p.sz + m by omega, flat_far n m p, flatL_far2 (n + p.sz) m a]
end
theorem flatL_far (m : Nat) (a : List Pt) : flatL (0 + m) a = (flatL 0 a).map (Rn.mv m) := flatL_far2 0 m a
theorem len_szB : ∀ l : List Pt, l.length ≤ szL l
 | [] => Nat.le_refl _
 | p :: l => by
  have h1 := len_szB l
  have h2 : 0 < p.sz := by cases p; unfold Pt.sz; omega
  simp only [List.length_cons, szL]; omega
mutual
theorem flat_kids : ∀ (n : Nat) (p : Pt), ∀ x ∈ flat n p, x.kids.length ≤ p.sz
 | n, .mk _ _ _ _ _ _ ks => fun x hx => by
  unfold flat at hx
  unfold Pt.sz
  rcases List.mem_cons.1 hx with rfl | hx
  ·have := len_szB ks
   simp only [kidsAt_len]; omega
  ·have := flatL_kids (n + 1) ks x hx; omega
theorem flatL_kids : ∀ (n : Nat) (a : List Pt), ∀ x ∈ flatL n a, x.kids.length ≤ szL a
 | n, [] => fun x hx => by simp [flatL] at hx
 | n, p :: a => fun x hx => by
  simp only [flatL, List.mem_append] at hx
  simp only [szL]
  rcases hx with hx | hx
  ·have := flat_kids n p x hx; omega
  ·have := flatL_kids (n + p.sz) a x hx; omega
end
/-- Of a tree that was read no node has more kids than there are nodes. -/
theorem readT_kids {l : List UInt8} {R : List Rr} {N : List Rn} {e a : Nat} (h : readT l = ((R, N), e, a)) : ∀ x ∈ N, x.kids.length ≤ N.length := by
 intro x hx
 unfold readT at h
 cases hw : (wordsOf l).2 with
 | some p =>
  rw [hw] at h
  simp only [Prod.mk.injEq] at h
  obtain ⟨⟨-, rfl⟩, -⟩ := h
  cases hx
 | none =>
  rw [hw] at h
  simp only [] at h
  cases hr : readW (wordsOf l).1 with
  | err b c =>
   rw [hr] at h
   simp only [Prod.mk.injEq] at h
   obtain ⟨⟨-, rfl⟩, -⟩ := h
   cases hx
  | ok y j =>
   rw [hr] at h
   simp only [Prod.mk.injEq] at h
   obtain ⟨t1, -, -, -⟩ := treeF_is 0 y
   have e1 : N = flatL 0 (y.map (·.2)) := by rw [← t1, h.1]
   subst e1
   rw [flatL_len]
   exact flatL_kids 0 _ x hx
theorem join_read2 {a b : List UInt8} {R1 R2 : List Rr} {N1 N2 : List Rn} {p q : Nat} (h1 : readT a = ((R1, N1), 0, p)) (h2 : readT b = ((R2, N2), 0, q)) :
  ∃ R N, readT (a ++ (10 :: b)) = ((R, N), 0, 0) ∧ R.map nb = R1.map nb ++ (R2.map nb).map (fun x => (x.1, x.2 + N1.length)) ∧ N.length = N1.length + N2.length ∧ N.map Rn.b0 = N1.map Rn.b0 ++ (N2.map (Rn.mv N1.length)).map Rn.b0 := by
 obtain ⟨w1, x1, j1, e1, t1⟩ := readT_ok h1
 obtain ⟨w2, x2, j2, e2, t2⟩ := readT_ok h2
 have hg : Gap [10] := gap_ok 0 (by decide)
 have hj := join_words hg b (wordsOf a).1 0 ((a ++ ([10] ++ b)).length + 1) (Nat.zero_le _) (wordsOf_chain w1) (by omega)
 have hj' : wordsOf (a ++ (10 :: b)) = ((wordsOf a).1.dropLast ++ (wordsOf b).1.map (Wd.far (a.length + 1)), (wordsOf b).2.map (a.length + 1 + ·)) := hj
 rw [w2, Option.map_none] at hj'
 have hL1 := (words_at w1).ok
 have hL2 := (words_at w2).ok
 have hM := (words_at (l := a ++ (10 :: b)) (by rw [hj'])).ok
 rw [hj'] at hM
 simp only at hM
 have hrd : readT (a ++ (10 :: b)) = match readW ((wordsOf a).1.dropLast ++ (wordsOf b).1.map (Wd.far (a.length + 1))) with
  | .ok x _ => (treeF 0 x, 0, 0)
  | .err e c => (([], []), e, c) := by
  unfold readT
  rw [hj']
  simp only []
  generalize readW ((wordsOf a).1.dropLast ++ (wordsOf b).1.map (Wd.far (a.length + 1))) = r
  cases r <;> rfl
 rw [hrd]
 clear hrd hj hj' h1 h2 w1 w2 hg
 generalize (wordsOf a).1 = L1 at *
 generalize (wordsOf b).1 = L2 at *
 generalize a.length + 1 = off at *
 have p1 := hL1.pos
 have p2 := hL2.pos
 have hMl : (L1.dropLast ++ L2.map (Wd.far off)).length = L1.length - 1 + L2.length := by simp
 have a1 : ∀ k, k + 1 < L1.length → wdAt (L1.dropLast ++ L2.map (Wd.far off)) k = wdAt L1 k := fun k hk => by
  rw [wdAt_in (by rw [hMl]; omega), wdAt_in (by omega), List.getElem_append_left (by simp; omega), List.getElem_dropLast]
 have a2 : ∀ k, k < L2.length → wdAt (L1.dropLast ++ L2.map (Wd.far off)) (k + (L1.length - 1)) = Wd.far off (wdAt L2 k) := fun k hk => by
  rw [wdAt_in (by rw [hMl]; omega), wdAt_in hk, List.getElem_append_right (by simp), List.getElem_map]
  congr 2
  simp
 generalize L1.dropLast ++ L2.map (Wd.far off) = M at *
 -- the first word of the second text is a name
 have hq2 : ∃ r, rulsP L2 (6 * L2.length + 4) (L2.length + 1) [] 0 = some r ∧ r = .ok x2 j2 := by
  unfold readW at e2
  cases hq : rulsP L2 (6 * L2.length + 4) (L2.length + 1) [] 0 with
  | none => exact absurd hq (rulsP_tot hL2 _ (Nat.le_refl _) _ _ _ hL2.pos (by omega))
  | some r => rw [hq] at e2; exact ⟨r, rfl, e2⟩
 have hq1 : ∃ r, rulsP L1 (6 * L1.length + 4) (L1.length + 1) [] 0 = some r ∧ r = .ok x1 j1 := by
  unfold readW at e1
  cases hq : rulsP L1 (6 * L1.length + 4) (L1.length + 1) [] 0 with
  | none => exact absurd hq (rulsP_tot hL1 _ (Nat.le_refl _) _ _ _ hL1.pos (by omega))
  | some r => rw [hq] at e1; exact ⟨r, rfl, e1⟩
 obtain ⟨_, hq1, rfl⟩ := hq1
 obtain ⟨_, hq2, rfl⟩ := hq2
 have first : ∀ {L : List Wd} {f g : Nat} {x : List (Wd × Pt)} {j : Nat}, WsOk L → rulsP L f (g + 1) [] 0 = some (.ok x j) → (wdAt L 0).kind = 2 ∧ 1 < L.length := fun {L f g x j} hL e => by
  unfold rulsP at e
  cases hq : rulP L f 0 with
  | none => rw [hq] at e; cases e
  | some r =>
   rw [hq] at e
   cases r with
   | err a b => cases e
   | ok y k =>
    obtain ⟨w, p⟩ := y
    obtain ⟨h1, h2, h3, _⟩ := rulP_ok hL hL.pos hq
    exact ⟨by rw [← h1]; exact h2, by omega⟩
 have f1 := first hL1 hq1
 have f2 := first hL2 hq2
 have hkind : (wdAt M (L1.length - 1)).kind ≠ 1 := by
  have := a2 0 p2
  rw [Nat.zero_add] at this
  rw [this]
  show (wdAt L2 0).kind ≠ 1
  omega
 obtain ⟨x', n, b1, b2, b3⟩ := rulsP_join hL1 hM (f := 6 * L1.length + 4) (F := 6 * M.length + 4) (by omega) (fun k hk => ⟨by omega, by rw [a1 k hk]; exact like.refl _⟩) hkind (L1.length + 1) [] [] 0 x1 j1 f1.2 hq1 rfl
 obtain ⟨r', c1, c2⟩ := rulsP_like (s := L1.length - 1) hL2 hM (f := 6 * L2.length + 4) (F := 6 * M.length + 4) (by omega) (fun k hk => ⟨by omega, by rw [a2 k hk]; exact ⟨rfl, rfl, rfl, rfl⟩⟩) (L2.length + 1) (x1.map bareR) [] x' 0 (.ok x2 j2) p2 hq2 (by rw [b1]; simp)
 have hjj : j1 = 0 + (L1.length - 1) := by omega
 have hfin := b3 (L2.length + 1)
 rw [hjj, c1] at hfin
 have hrd := readW_of hM hfin
 rw [hrd]
 cases r' with
 | err a' b' => exact c2.elim
 | ok y k =>
  obtain ⟨_, hy⟩ := c2
  refine ⟨(treeF 0 y).1, (treeF 0 y).2, rfl, ?_, ?_, ?_⟩
  rotate_left 2
  ·have hyb : y.map bareR = (x1 ++ x2).map bareR := by rw [hy, List.map_append]
   rw [(treeF_bare hyb 0).2]
   obtain ⟨u1, -, -, -⟩ := treeF_is 0 (x1 ++ x2)
   obtain ⟨v1, -, -, -⟩ := treeF_is 0 x1
   obtain ⟨s1, -, -, -⟩ := treeF_is 0 x2
   have e1 : N1 = flatL 0 (x1.map (·.2)) := by
    have := congrArg (fun X => X.2) t1
    simp only [] at this
    rw [this, v1]
   have e2 : N2 = flatL 0 (x2.map (·.2)) := by
    have := congrArg (fun X => X.2) t2
    simp only [] at this
    rw [this, s1]
   rw [u1, List.map_append, flatL_add, List.map_append, e1, e2, flatL_len, flatL_far]
  ·have hyb : y.map bareR = (x1 ++ x2).map bareR := by rw [hy, List.map_append]
   rw [(treeF_bare hyb 0).1]
   obtain ⟨u1, u2, u3, _⟩ := treeF_is 0 (x1 ++ x2)
   obtain ⟨v1, v2, v3, _⟩ := treeF_is 0 x1
   obtain ⟨s1, s2, s3, _⟩ := treeF_is 0 x2
   have hN1 : N1.length = szL (x1.map (·.2)) := by
    have := congrArg (fun X => X.2.length) t1
    simp only [] at this
    rw [this, v1, flatL_len]
   have hR1 : R1 = (treeF 0 x1).1 := congrArg Prod.fst t1
   have hR2 : R2 = (treeF 0 x2).1 := congrArg Prod.fst t2
   rw [zip_nb, u2, u3, List.map_append, List.map_append, kidsAt_add, hR1, hR2, zip_nb, zip_nb, v2, v3, s2, s3, List.zip_append (by rw [List.length_map, kidsAt_len, List.length_map])]
   congr 1
   rw [Nat.add_comm 0, Nat.add_comm _ 0, kidsAt_far, ← hN1]
   generalize x2.map (fun x => x.1.tx) = A
   generalize kidsAt 0 (x2.map (·.2)) = B
   induction A generalizing B with
   | nil => rfl
   | cons a A ih =>
    cases B with
    | nil => rfl
    | cons b B => simp only [List.map_cons, List.zip_cons_cons, ih]
  ·have hl : ∀ x : List (Wd × Pt), (treeF 0 x).2.length = szL (x.map (·.2)) := fun x => by rw [(treeF_is 0 x).1, flatL_len]
   have hs : szL (y.map (·.2)) = szL ((x1 ++ x2).map (·.2)) := by
    have h3 : bareL (y.map (·.2)) = bareL ((x1 ++ x2).map (·.2)) := by
     have hyb : y.map bareR = (x1 ++ x2).map bareR := by rw [hy, List.map_append]
     have := congrArg (List.map Prod.snd) hyb
     rw [List.map_map, List.map_map] at this
     rw [bareL_map, bareL_map, List.map_map, List.map_map]
     exact this
    rw [← szL_bare, h3, szL_bare]
   have hN1 : N1 = (treeF 0 x1).2 := congrArg Prod.snd t1
   have hN2 : N2 = (treeF 0 x2).2 := congrArg Prod.snd t2
   show (treeF 0 y).2.length = _
   rw [hl, hs, hN1, hN2, hl, hl, List.map_append, szL_add]
end Go.Proofs.YtgjhepblpdnkcaaGreatDoor
namespace Go.Proofs.YtgjhepblpdnkcaaGreatDoor

/-- So many of a list are changed, each in its way. -/
def mapK {α : Type} (f : Nat → α → α) (l : List α) (k : Nat) : List α := l.mapIdx fun i x => if i < k then f i x else x
theorem mapK_len {α : Type} (f : Nat → α → α) (l : List α) (k : Nat) : (mapK f l k).length = l.length := by simp [mapK]
theorem mapK_zero {α : Type} (f : Nat → α → α) (l : List α) : mapK f l 0 = l := by
 apply List.ext_getElem (by simp [mapK])
 intro i h1 h2; simp [mapK]
theorem mapK_at {α : Type} (f : Nat → α → α) (l : List α) (k : Nat) (h : k < l.length) : (mapK f l k)[k]'(by rw [mapK_len]; exact h) = l[k] := by simp [mapK]
theorem mapK_step {α : Type} (f : Nat → α → α) (l : List α) (k : Nat) (h : k < l.length) : mapK f l (k + 1) = (mapK f l k).set k (f k l[k]) := by
 apply List.ext_getElem (by simp [mapK])
 intro i h1 h2
 rw [List.getElem_set]
 by_cases e : k = i
 ·subst e; simp [mapK]
 ·rw [if_neg e]
  simp only [mapK, List.getElem_mapIdx]
  by_cases h3 : i < k
  ·rw [if_pos h3, if_pos (by omega)]
  ·rw [if_neg h3, if_neg (by omega)]
theorem mapK_same {α : Type} (f : Nat → α → α) (l : List α) (k : Nat) (h : k < l.length) (he : f k l[k] = l[k]) : mapK f l (k + 1) = mapK f l k := by
 rw [mapK_step f l k h, he]
 have := mapK_at f l k h
 conv => lhs; rw [← this]
 exact List.set_getElem_self _
theorem mapK_all {α : Type} (f : Nat → α → α) (l : List α) : mapK f l l.length = l.mapIdx f := by
 apply List.ext_getElem (by simp [mapK])
 intro i h1 h2
 have : i < l.length := by simpa [mapK] using h1
 simp [mapK, this]
def ndI (N : List Nd) (i : Nat) : Nd := N.getD i ⟨0, 0, 0, 0, 0, ⟨#[]⟩, 0, 0, []⟩
theorem ndI_in {N : List Nd} {i : Nat} (h : i < N.length) : ndI N i = N[i] := by unfold ndI; rw [List.getD_eq_getElem?_getD, List.getElem?_eq_getElem h]; rfl
def nwF (N : List Nd) (word : ByteArray) (i : Nat) (s : ByteArray) : ByteArray := if (ndI N i).kind = 5 then s else word
def mvF (m : Int) (_ : Nat) (x : Int) : Int := x + m
theorem bt_mv (m : Int) (l : List Int) (k : Nat) (h : k < l.length) : bt (l.mapIdx (mvF m)) k = bt l k + m := by
 rw [← bt_get h, ← bt_get (by simpa using h)]
 simp [mvF]
theorem nw_at (N : List Nd) (word : ByteArray) (NM : List ByteArray) (i : Nat) (hi : i < NM.length) (hk : (ndI N i).kind = 5) : (NM.mapIdx (nwF N word)).getD i ⟨#[]⟩ = NM.getD i ⟨#[]⟩ := by
 rw [List.getD_eq_getElem?_getD, List.getD_eq_getElem?_getD, List.getElem?_eq_getElem (by simpa using hi), List.getElem?_eq_getElem hi]
 simp [nwF, hk]
theorem whoR_lens {R : List Ru} {N : List Nd} {RA NA : List Int} {NM : List ByteArray} : whoR R N RA NA NM = true ↔ RA.length = R.length ∧ NA.length = N.length ∧ NM.length = N.length := by
 unfold whoR; simp only [Bool.and_eq_true, decide_eq_true_eq]
section
variable {R : List Ru} {N : List Nd} {RA NA : List Int} {NM : List ByteArray}
theorem losR_move (word : ByteArray) (hl : NM.length = N.length) (i : Nat) (hi : i < N.length) : losR R N (NM.mapIdx (nwF N word)) i = losR R N NM i := by
 unfold losR
 by_cases hk : (ndI N i).kind = 5
 ·rw [nw_at N word NM i (by omega) hk]
 ·have : decide ((N.getD i ⟨0, 0, 0, 0, 0, ⟨#[]⟩, 0, 0, []⟩).kind = 5) = false := decide_eq_false hk
  rw [this, Bool.false_and, Bool.false_and]
/-- With other places, and other names where none is called. -/
theorem resS_move (m : Int) (word : ByteArray) (hw : whoR R N RA NA NM = true) :
  resS R N (RA.mapIdx (mvF m)) (NA.mapIdx (mvF m)) (NM.mapIdx (nwF N word)) = ((resS R N RA NA NM).1, if (resS R N RA NA NM).1 = 0 then 0 else (resS R N RA NA NM).2 + m) := by
 obtain ⟨l1, l2, l3⟩ := whoR_lens.1 hw
 have e1 : whoR R N (RA.mapIdx (mvF m)) (NA.mapIdx (mvF m)) (NM.mapIdx (nwF N word)) = true := by rw [whoR_lens]; simp; exact ⟨l1, l2, l3⟩
 have e2 : twR R N (RA.mapIdx (mvF m)) (NA.mapIdx (mvF m)) (NM.mapIdx (nwF N word)) = twR R N RA NA NM := by unfold twR; rw [e1, hw]
 have e3 : lsR R N (RA.mapIdx (mvF m)) (NA.mapIdx (mvF m)) (NM.mapIdx (nwF N word)) = lsR R N RA NA NM := by
  unfold lsR
  rw [e1, hw, if_pos rfl, if_pos rfl]
  exact frst_congr _ _ (fun j _ hj => losR_move word l3 j (by omega))
 unfold resS
 rw [e1, e2, e3, hw]
 unfold resX
 rw [if_pos rfl, if_pos rfl]
 cases ht : twR R N RA NA NM with
 | some k =>
  have hk : k < RA.length := by
   unfold twR at ht
   rw [hw, if_pos rfl] at ht
   have := (frst_some _ _ _ ht).2.1
   omega
  simp only []
  rw [bt_mv m RA k hk]; rfl
 | none =>
  cases hs : lsR R N RA NA NM with
  | some k =>
   have hk : k < NA.length := by
    unfold lsR at hs
    rw [hw, if_pos rfl] at hs
    have := (frst_some _ _ _ hs).2.1
    omega
   simp only []
   rw [bt_mv m NA k hk]; rfl
  | none => rfl
theorem resN_move (word : ByteArray) (hl : NM.length = N.length) : resN R (NM.mapIdx (nwF N word)) N = resN R NM N := by
 unfold resN
 apply List.ext_getElem (by simp)
 intro i h1 h2
 have hi : i < N.length := by simpa using h1
 simp only [List.getElem_mapIdx]
 unfold resD
 by_cases hk : N[i].kind = 5
 ·rw [if_pos hk, if_pos hk, nw_at N word NM i (by omega) (by rw [ndI_in hi]; exact hk)]
 ·rw [if_neg hk, if_neg hk]
theorem los_none (h : (resS R N RA NA NM).1 = 0) (i : Nat) (hi : i < N.length) (hk : N[i].kind = 5) : ¬ ruleIx R (NM.getD i ⟨#[]⟩) < 0 := by
 obtain ⟨h1, _, h3, _⟩ := resS_zero h
 unfold lsR at h3
 rw [if_pos h1, frst_none] at h3
 have h4 := h3 i (Nat.zero_le _) (by omega)
 unfold losR at h4
 have e : (N.getD i ⟨0, 0, 0, 0, 0, ⟨#[]⟩, 0, 0, []⟩) = N[i] := ndI_in hi
 rw [e, hk] at h4
 simpa using h4
/-- Each call is of a rule of its name. -/
theorem call_named (h : (resS R N RA NA NM).1 = 0) (i : Nat) (hi : i < N.length) (hk : N[i].kind = 5) : ∃ k : Nat, (ndI (resN R NM N) i).rule = k ∧ ∃ hl : k < R.length, R[k].name = NM.getD i ⟨#[]⟩ := by
 have h1 := los_none h i hi hk
 have h2 := fix_rule (NM.getD i ⟨#[]⟩) R 0
 rw [if_neg h1] at h2
 obtain ⟨_, h4, h5, _⟩ := fixF_some R _ 0 _ h2
 refine ⟨(ruleIx R (NM.getD i ⟨#[]⟩)).toNat, ?_, by omega, ?_⟩
 ·rw [ndI_in (by rw [resN_len]; exact hi)]
  unfold resN
  simp only [List.getElem_mapIdx]
  unfold resD
  rw [if_pos hk, h2]
  simp
 ·have := h5 (by omega)
  simpa using this
theorem ruleIx_app (s : ByteArray) : ∀ (R S : List Ru), ¬ ruleIx R s < 0 → ruleIx (R ++ S) s = ruleIx R s
 | [], S, h => by simp [ruleIx] at h
 | r :: R, S, h => by
  rw [List.cons_append]
  unfold ruleIx at h ⊢
  by_cases e : r.name = s
  ·rw [if_pos e, if_pos e]
  ·rw [if_neg e] at h ⊢
   rw [if_neg e]
   by_cases h2 : ruleIx R s < 0
   ·rw [if_pos h2] at h; exact absurd (by decide) h
   ·rw [ruleIx_app s R S h2]
theorem ruleIx_new (r : Ru) : ∀ R : List Ru, ruleIx R r.name < 0 → ruleIx (R ++ [r]) r.name = R.length
 | [], _ => by simp [ruleIx]
 | q :: R, h => by
  rw [List.cons_append]
  unfold ruleIx at h ⊢
  by_cases e : q.name = r.name
  ·rw [if_pos e] at h; exact absurd h (by decide)
  ·rw [if_neg e] at h ⊢
   by_cases h2 : ruleIx R r.name < 0
   ·rw [ruleIx_new r R h2, if_neg (by omega)]; simp
   ·rw [if_neg h2] at h; omega
/-- A rule more, behind, that nobody calls. -/
theorem res_more (h : (resS R N RA NA NM).1 = 0) (r : Ru) (x : Nd) (s : ByteArray) (hr : ruleIx R r.name < 0) (hx : x.kind ≠ 5) {RA2 NA2 : List Int} (l1 : RA2.length = R.length + 1) (l2 : NA2.length = N.length + 1) :
  resS (R ++ [r]) (N ++ [x]) RA2 NA2 (NM ++ [s]) = (0, 0) ∧ resN (R ++ [r]) (NM ++ [s]) (N ++ [x]) = resN R NM N ++ [x] := by
 obtain ⟨h1, h2, h3, _⟩ := resS_zero h
 obtain ⟨a1, a2, a3⟩ := whoR_lens.1 h1
 have hgd : ∀ i, i < N.length → (NM ++ [s]).getD i ⟨#[]⟩ = NM.getD i ⟨#[]⟩ := fun i hi => by
  rw [List.getD_eq_getElem?_getD, List.getD_eq_getElem?_getD, List.getElem?_append_left (by omega)]
 constructor
 ·have e1 : whoR (R ++ [r]) (N ++ [x]) RA2 NA2 (NM ++ [s]) = true := by rw [whoR_lens]; simp; exact ⟨l1, l2, a3⟩
  have e2 : twR (R ++ [r]) (N ++ [x]) RA2 NA2 (NM ++ [s]) = none := by
   unfold twR at h2 ⊢
   rw [e1, if_pos rfl, frst_none]
   rw [h1, if_pos rfl, frst_none] at h2
   intro j _ hj
   simp only [List.length_append, List.length_cons, List.length_nil, Nat.zero_add] at hj
   unfold twiR
   by_cases e : j < R.length
   ·have h4 := h2 j (Nat.zero_le _) (by omega)
    unfold twiR at h4
    have e3 : ruAt (R ++ [r]) j = ruAt R j := by rw [ruAt_in (by simp; omega), ruAt_in e, List.getElem_append_left e]
    obtain ⟨q, hq, _⟩ := fixF_self R 0 j e
    rw [fix_rule] at hq
    have h5 : ¬ ruleIx R R[j].name < 0 := fun h6 => by rw [if_pos h6] at hq; cases hq
    rw [e3, ruAt_in e, ruleIx_app _ R [r] h5, ← ruAt_in e]
    exact h4
   ·obtain rfl : j = R.length := by omega
    have e3 : ruAt (R ++ [r]) R.length = r := by rw [ruAt_in (by simp), List.getElem_append_right (Nat.le_refl _)]; simp
    rw [e3, ruleIx_new r R hr]
    simp
  have e3 : lsR (R ++ [r]) (N ++ [x]) RA2 NA2 (NM ++ [s]) = none := by
   unfold lsR
   rw [e1, if_pos rfl, frst_none]
   intro j _ hj
   simp only [List.length_append, List.length_cons, List.length_nil, Nat.zero_add] at hj
   unfold losR
   by_cases e : j < N.length
   ·have e4 : (N ++ [x]).getD j ⟨0, 0, 0, 0, 0, ⟨#[]⟩, 0, 0, []⟩ = N[j] := by rw [List.getD_eq_getElem?_getD, List.getElem?_append_left e, List.getElem?_eq_getElem e]; rfl
    rw [e4, hgd j e]
    by_cases hk : N[j].kind = 5
    ·have h5 := los_none h j e hk
     rw [ruleIx_app _ R [r] h5, decide_eq_false h5, Bool.and_false]
    ·rw [decide_eq_false hk, Bool.false_and]
   ·obtain rfl : j = N.length := by omega
    have e4 : (N ++ [x]).getD N.length ⟨0, 0, 0, 0, 0, ⟨#[]⟩, 0, 0, []⟩ = x := by rw [List.getD_eq_getElem?_getD, List.getElem?_append_right (Nat.le_refl _)]; simp
    rw [e4]
    simp [hx]
  unfold resS
  rw [e1, e2, e3]; rfl
 ·unfold resN
  apply List.ext_getElem (by simp)
  intro i g1 g2
  have hi : i < N.length + 1 := by simpa using g1
  simp only [List.getElem_mapIdx]
  by_cases e : i < N.length
  ·have g3 : (List.mapIdx (resD R NM) N ++ [x])[i]'g2 = resD R NM i N[i] := by rw [List.getElem_append_left (by simpa using e)]; simp
   have g4 : (N ++ [x])[i]'(by simp; omega) = N[i] := List.getElem_append_left e
   rw [g3, g4]
   unfold resD
   by_cases hk : N[i].kind = 5
   ·rw [if_pos hk, if_pos hk, hgd i e, fix_rule, fix_rule, ruleIx_app _ R [r] (los_none h i e hk)]
   ·rw [if_neg hk, if_neg hk]
  ·obtain rfl : i = N.length := by omega
   have g3 : (List.mapIdx (resD R NM) N ++ [x])[N.length]'g2 = x := by rw [List.getElem_append_right (by simp)]; simp
   have g4 : (N ++ [x])[N.length]'(by simp) = x := by rw [List.getElem_append_right (Nat.le_refl _)]; simp
   rw [g3, g4]
   unfold resD
   rw [if_neg hx]
end
end Go.Proofs.YtgjhepblpdnkcaaGreatDoor
namespace Go.Proofs.YtgjhepblpdnkcaaGreatDoor
open Go.RowKit
set_option maxRecDepth 100000
set_option maxHeartbeats 8000000

theorem rulsP_nb {L : List Wd} (hW : WsOk L) (f : Nat) : ∀ (g : Nat) (acc : List (Wd × Pt)) (i : Nat) (x : List (Wd × Pt)) (j : Nat), i < L.length → (treeF 0 acc).2.length ≤ 2 * i → (treeF 0 acc).1.length ≤ i → rulsP L f g acc i = some (.ok x j) → (treeF 0 x).2.length ≤ 2 * L.length ∧ (treeF 0 x).1.length ≤ L.length
 | 0, acc, i, x, j, hi, h1, h2, e => by cases e
 | g + 1, acc, i, x, j, hi, h1, h2, e => by
  rw [rulsP_cont] at e
  cases hq : rulP L f i with
  | none => rw [hq] at e; cases e
  | some r =>
   rw [hq] at e
   cases r with
   | err a b => cases e
   | ok y k =>
    obtain ⟨s1, s2, s3⟩ := rulP_sz hW hi hq
    obtain ⟨wd, p⟩ := y
    have hsn := treeF_snoc 0 acc wd p
    simp only [Nat.zero_add] at hsn
    simp only [] at e s1
    have g1 : (treeF 0 (acc ++ [(wd, p)])).2.length ≤ 2 * k := by rw [hsn]; simp only [List.length_append, flat_len]; omega
    have g2 : (treeF 0 (acc ++ [(wd, p)])).1.length ≤ k := by rw [hsn]; simp only [List.length_append, List.length_cons, List.length_nil]; omega
    unfold contP at e
    split at e
    ·simp only [Option.some.injEq, Rs.ok.injEq] at e
     obtain ⟨rfl, rfl⟩ := e
     exact ⟨by omega, by omega⟩
    ·exact rulsP_nb hW f g _ k x j s3 g1 g2 e
theorem readT_nb {l : List UInt8} : (readT l).1.2.length ≤ 2 * (l.length + 1) ∧ (readT l).1.1.length ≤ l.length + 1 := by
 unfold readT
 cases hw : (wordsOf l).2 with
 | some p => exact ⟨Nat.zero_le _, Nat.zero_le _⟩
 | none =>
  have hA := (words_at hw).ok
  have hl := words_len l
  simp only []
  cases hr : readW (wordsOf l).1 with
  | err a b => exact ⟨Nat.zero_le _, Nat.zero_le _⟩
  | ok x j =>
   unfold readW at hr
   cases hq : rulsP (wordsOf l).1 (6 * (wordsOf l).1.length + 4) ((wordsOf l).1.length + 1) [] 0 with
   | none => rw [hq] at hr; cases hr
   | some r =>
    rw [hq] at hr
    simp only [] at hr
    subst hr
    have := rulsP_nb hA _ _ _ _ _ _ hA.pos (Nat.zero_le _) (Nat.zero_le _) hq
    simp only []
    omega
/-- A tree that was read, as the law walks through it: two objects, five slices. -/
structure PrW (g : Nat) (ro no ao bo co : Option Addr) (rc nc ac bc cc : Nat) (NK : List Nk) (R : List Rr) (N : List Rn) (w : World) : Prop where
 tr : hrow w g #[.slice ro R.length rc, .slice no N.length nc, .slice ao R.length ac, .slice bo N.length bc, .slice co N.length cc] 29
 gm : hrow w (g + 1 + 1) #[.slice ro R.length rc, .slice no N.length nc] 25
 gr : GrW w ro R.length rc no N.length nc NK ⟨R.map Rr.ru, N.map Rn.nd⟩
 ra : Sv w ao R.length ac 1 (inc (R.map fun r => (r.at_ : Int)))
 na : Sv w bo N.length bc 1 (inc (N.map fun x => (x.at_ : Int)))
 nm : Sv w co N.length cc 1 ((N.map fun x => tx x.nm).map Value.string)
section
variable {g : Nat} {ro no ao bo co : Option Addr} {rc nc ac bc cc : Nat} {NK : List Nk} {R : List Rr} {N : List Rn} {w w' : World}
theorem PrW.below (h : PrW g ro no ao bo co rc nc ac bc cc NK R N w) (hb : Below w.heap.size w w') : PrW g ro no ao bo co rc nc ac bc cc NK R N w' :=
 ⟨h.tr.below hb, h.gm.below hb, h.gr.below hb, h.ra.below hb, h.na.below hb, h.nm.below hb⟩
theorem PrW.node (h : PrW g ro no ao bo co rc nc ac bc cc NK R N w) {k : Nat} (hk : k < N.length) :
  ∃ a ko kc, no = some a ∧ w.cell? (a.add (k * 9)) = some (.int .i64 N[k].kind) ∧ w.cell? ⟨(a.add (k * 9)).block, (a.add (k * 9)).off + 5, none⟩ = some (.string (tx N[k].tx)) ∧ w.cell? ⟨(a.add (k * 9)).block, (a.add (k * 9)).off + 6, none⟩ = some (.int .i64 0) ∧
   w.cell? ⟨(a.add (k * 9)).block, (a.add (k * 9)).off + 8, none⟩ = some (.slice ko N[k].kids.length kc) ∧ Sv w ko N[k].kids.length kc 1 (inc (N[k].kids.map fun (j : Nat) => (j : Int))) := by
 have hl : NK.length = N.length := by have := congrArg List.length h.gr.eq; simpa using this
 have hk' : k < NK.length := by omega
 have e : (NK[k]'hk').1 = Rn.nd N[k] := by
  have := congrArg (fun l => l[k]?) h.gr.eq
  simpa [hk, hk'] using this
 obtain ⟨a, ha, c0, -, -, -, -, c5, c6, -, c8⟩ := h.gr.nod.sv.nd9 hk'
 have hs := h.gr.nod.kids (NK[k]'hk') (List.getElem_mem _)
 rw [e] at c0 c5 c6 c8 hs
 have hkl : (Rn.nd N[k]).kids.length = N[k].kids.length := by show (N[k].kids.map fun (j : Nat) => (j : Int)).length = _; rw [List.length_map]
 rw [hkl] at c8 hs
 exact ⟨a, _, _, ha, c0, c5, c6, c8, hs⟩
theorem PrW.rul (h : PrW g ro no ao bo co rc nc ac bc cc NK R N w) {k : Nat} (hk : k < R.length) : ∃ a, ro = some a ∧ w.cell? (a.add (k * 2)) = some (.string (tx R[k].nm)) ∧ w.cell? ⟨(a.add (k * 2)).block, (a.add (k * 2)).off + 1, none⟩ = some (.int .i64 R[k].body) := by
 obtain ⟨a, ha, h1, h2⟩ := h.gr.rul.ru2 (k := k) (by simpa using hk)
 simp only [List.getElem_map] at h1 h2
 exact ⟨a, ha, h1, h2⟩
end
/-- The row of ends while it is filled from behind. -/
structure EnV (n : Nat) (E : Nat → Nat) (m : Nat) (z : World) (cs : Array Value) (wr : World) : Prop where
 le : m ≤ n
 row : hrow wr z.heap.size cs 3
 size : cs.size = n
 val : ∀ k, m ≤ k → k < n → cs[k]? = some (.int .i64 (E k))
 bl : Below z.heap.size z wr
section
variable {n : Nat} {E : Nat → Nat} {m : Nat} {z wr w' : World} {cs : Array Value}
theorem EnV.start {z6 : World} (h : z6.ownsRow z.heap.size 3 1 (.slice (some ⟨z.heap.size, 0, none⟩) n n) n (madeCells (Value.int .i64 0).cells (n * 1)).toList) (hb : Below z.heap.size z z6) : ∃ cs, EnV n E n z cs z6 := by
 obtain ⟨-, h2⟩ := h
 rcases h2 with ⟨h2, -⟩ | ⟨g, cap, cur, hv, -, hh, -, -, hs, -⟩
 ·cases h2
 ·simp only [Value.slice.injEq, Option.some.injEq, Addr.mk.injEq, and_true, true_and] at hv
  obtain ⟨rfl, rfl⟩ := hv
  exact ⟨cur, Nat.le_refl _, hh, by omega, fun k h1 h2 => by omega, hb⟩
theorem EnV.below (h : EnV n E m z cs wr) (hb : Below wr.heap.size wr w') : EnV n E m z cs w' := ⟨h.le, h.row.below hb, h.size, h.val, h.bl.trans (hb.mono h.bl.size)⟩
theorem EnV.cell (h : EnV n E m z cs wr) {k : Nat} (h1 : m ≤ k) (h2 : k < n) : wr.cell? ⟨z.heap.size, k, none⟩ = some (.int .i64 (E k)) := by rw [h.row.cell, h.val k h1 h2]
theorem EnV.at0 (h : EnV n E m z cs wr) {k : Nat} (h2 : k < n) : (∃ v, wr.cell? ⟨z.heap.size, k, none⟩ = some v) ∧ wr.frozen? ⟨z.heap.size, k, none⟩ = false :=
 ⟨⟨cs[k]'(by have := h.size; omega), by rw [h.row.cell]; exact Array.getElem?_eq_getElem _⟩, h.row.frozen k⟩
theorem EnV.set (h : EnV n E (m + 1) z cs wr) : EnV n E m z (cs.setIfInBounds m (.int .i64 (E m))) (wr.setCell ⟨z.heap.size, m, none⟩ (.int .i64 (E m))) where
 le := by have := h.le; omega
 row := h.row.setCell m _
 size := by rw [Array.size_setIfInBounds]; exact h.size
 val := fun k h1 h2 => by
  rw [Array.getElem?_setIfInBounds]
  have hs := h.size
  by_cases e : m = k
  ·subst e
   rw [if_pos rfl, if_pos (by omega)]
  ·rw [if_neg e]
   exact h.val k (by omega) h2
 bl := h.bl.setCell (Nat.le_refl _) _
end
end Go.Proofs.YtgjhepblpdnkcaaGreatDoor
namespace Go.Proofs.YtgjhepblpdnkcaaGreatDoor
open Go.RowKit
set_option maxRecDepth 100000
set_option maxHeartbeats 4000000

/-- A row's cell: where it lies, and that it may be written. -/
theorem row_at1 {w : World} {τ : Nat → Nat} {t : Nat} {e : TypeId} {v : Value} {n : Nat} {xs : List Value} (h : RowT w τ t e 1 v n xs) {k : Nat} (hk : k < n) : ∃ b c, v = .slice (some ⟨b, 0, none⟩) n c ∧ τ b = t ∧ w.cell? ⟨b, k, none⟩ = xs[k]? ∧ w.frozen? ⟨b, k, none⟩ = false ∧ k < xs.length ∧ n ≤ c ∧ c ≤ 9223372036854775807 := by
 obtain ⟨ao, cap, rfl, hs⟩ := h.sv
 rcases h.1.2 with ⟨h1, h0⟩ | ⟨b, c, cur, h1, _⟩
 ·omega
 ·cases h1
  have hl := hs.len
  have hb := hs.bound
  obtain ⟨a, ha, hc⟩ := hs.cell k (by omega)
  cases ha
  refine ⟨b, cap, rfl, h.2 b rfl, ?_, h.1.frozenAt k, by omega, hb.1, hb.2⟩
  rw [← hc]
  congr 1
  unfold Addr.add; by_cases hz : k = 0 <;> simp [hz]
/-- A tree that is written on. -/
structure PlI (w0 : World) (τ : Nat → Nat) (g3 : Nat) (cs : Array Value) (v1 v2 v3 v4 v5 : Value) (R : List Ru) (NK : List Nk) (RA NA : List Int) (NM : List ByteArray) (wr : World) : Prop where
 obj : hrow wr g3 cs 29
 tr : TrR wr τ v1 v2 v3 v4 v5 R NK NK RA NA NM
 bel : Below w0.heap.size w0 wr
 z : τ g3 = 0
 fresh : ∀ k, τ k ≠ 0 → w0.heap.size ≤ k
section
variable {w0 wr w' : World} {τ : Nat → Nat} {g3 : Nat} {cs : Array Value} {v1 v2 v3 v4 v5 : Value} {R : List Ru} {NK : List Nk} {RA NA : List Int} {NM : List ByteArray}
theorem PlI.below (h : PlI w0 τ g3 cs v1 v2 v3 v4 v5 R NK RA NA NM wr) (hb : Below wr.heap.size wr w') : PlI w0 τ g3 cs v1 v2 v3 v4 v5 R NK RA NA NM w' :=
 ⟨h.obj.below hb, h.tr.below hb, h.bel.trans (hb.mono h.bel.size), h.z, h.fresh⟩
theorem stored_row {t : Nat} {e : TypeId} {v : Value} {n b c : Nat} {xs : List Value} (h : RowT wr τ t e 1 v n xs) (hv : v = .slice (some ⟨b, 0, none⟩) n c) (k : Nat) (u : Value) : RowT (wr.setCell ⟨b, k, none⟩ u) τ t e 1 v n (xs.set k u) := by
 subst hv
 exact ⟨(h.1.stored k u).1, h.2⟩
theorem keep_row {t s : Nat} {e : TypeId} {v : Value} {n b size : Nat} {xs : List Value} (h : RowT wr τ t e size v n xs) (hb : τ b = s) (hne : t ≠ s) (k : Nat) (u : Value) : RowT (wr.setCell ⟨b, k, none⟩ u) τ t e size v n xs :=
 h.keep (Fr.setCell wr ⟨b, k, none⟩ u) (fun q _ hq e => by have e' : q = b := e; subst e'; omega) (fun _ _ => rfl)
theorem PlI.name (h : PlI w0 τ g3 cs v1 v2 v3 v4 v5 R NK RA NA NM wr) {k b c : Nat} (hv : v5 = .slice (some ⟨b, 0, none⟩) NM.length c) (s : ByteArray) : PlI w0 τ g3 cs v1 v2 v3 v4 v5 R NK RA NA (NM.set k s) (wr.setCell ⟨b, k, none⟩ (.string s)) := by
 have hb : τ b = 6 := h.tr.t6.2 b (by rw [hv]; rfl)
 have hf := Fr.setCell wr ⟨b, k, none⟩ (.string s)
 refine ⟨h.obj.fr hf (fun e => by have e' : g3 = b := e; have := h.z; subst e'; omega), ⟨fun q hq => h.tr.new q (by simpa using hq), keep_row h.tr.t2 hb (by decide) _ _, keep_row h.tr.t3 hb (by decide) _ _, keep_row h.tr.t4 hb (by decide) _ _, keep_row h.tr.t5 hb (by decide) _ _, ?_, fun i hi => keep_row (h.tr.kid i hi) hb (by omega) _ _⟩, h.bel.trans (hf.below h.bel.size (fun q hq e => by have e' : q = b := e; have := h.fresh b (by omega); omega)), h.z, h.fresh⟩
 have h1 := stored_row h.tr.t6 hv k (.string s)
 rw [List.length_set, List.map_set]
 exact h1
theorem PlI.nod (h : PlI w0 τ g3 cs v1 v2 v3 v4 v5 R NK RA NA NM wr) {k b c : Nat} (hv : v4 = .slice (some ⟨b, 0, none⟩) NA.length c) (x : Int) : PlI w0 τ g3 cs v1 v2 v3 v4 v5 R NK RA (NA.set k x) NM (wr.setCell ⟨b, k, none⟩ (.int .i64 x)) := by
 have hb : τ b = 5 := h.tr.t5.2 b (by rw [hv]; rfl)
 have hf := Fr.setCell wr ⟨b, k, none⟩ (.int .i64 x)
 refine ⟨h.obj.fr hf (fun e => by have e' : g3 = b := e; have := h.z; subst e'; omega), ⟨fun q hq => h.tr.new q (by simpa using hq), keep_row h.tr.t2 hb (by decide) _ _, keep_row h.tr.t3 hb (by decide) _ _, keep_row h.tr.t4 hb (by decide) _ _, ?_, keep_row h.tr.t6 hb (by decide) _ _, fun i hi => keep_row (h.tr.kid i hi) hb (by omega) _ _⟩, h.bel.trans (hf.below h.bel.size (fun q hq e => by have e' : q = b := e; have := h.fresh b (by omega); omega)), h.z, h.fresh⟩
 have h1 := stored_row h.tr.t5 hv k (.int .i64 x)
 rw [List.length_set]
 unfold inc
 rw [List.map_set]
 exact h1
theorem PlI.rul (h : PlI w0 τ g3 cs v1 v2 v3 v4 v5 R NK RA NA NM wr) {k b c : Nat} (hv : v3 = .slice (some ⟨b, 0, none⟩) RA.length c) (x : Int) : PlI w0 τ g3 cs v1 v2 v3 v4 v5 R NK (RA.set k x) NA NM (wr.setCell ⟨b, k, none⟩ (.int .i64 x)) := by
 have hb : τ b = 4 := h.tr.t4.2 b (by rw [hv]; rfl)
 have hf := Fr.setCell wr ⟨b, k, none⟩ (.int .i64 x)
 refine ⟨h.obj.fr hf (fun e => by have e' : g3 = b := e; have := h.z; subst e'; omega), ⟨fun q hq => h.tr.new q (by simpa using hq), keep_row h.tr.t2 hb (by decide) _ _, keep_row h.tr.t3 hb (by decide) _ _, ?_, keep_row h.tr.t5 hb (by decide) _ _, keep_row h.tr.t6 hb (by decide) _ _, fun i hi => keep_row (h.tr.kid i hi) hb (by omega) _ _⟩, h.bel.trans (hf.below h.bel.size (fun q hq e => by have e' : q = b := e; have := h.fresh b (by omega); omega)), h.z, h.fresh⟩
 have h1 := stored_row h.tr.t4 hv k (.int .i64 x)
 rw [List.length_set]
 unfold inc
 rw [List.map_set]
 exact h1
theorem TrR.tnw {ro no ao bo co : Option Addr} {rc nc ac bc cc n1 n2 n3 n4 n5 : Nat} {w : World} (h : TrR w τ (.slice ro n1 rc) (.slice no n2 nc) (.slice ao n3 ac) (.slice bo n4 bc) (.slice co n5 cc) R NK NK RA NA NM) :
  (n1 = R.length ∧ n2 = NK.length ∧ n3 = RA.length ∧ n4 = NA.length ∧ n5 = NM.length) ∧ TnW w ro no ao bo co rc nc ac bc cc R NK RA NA NM ∧ ∀ x ∈ NK, Sv w x.2.1 x.1.kids.length x.2.2 1 (inc x.1.kids) := by
 obtain ⟨a1, c1, e1, s1⟩ := h.t2.sv
 obtain ⟨a2, c2, e2, s2⟩ := h.t3.sv
 obtain ⟨a3, c3, e3, s3⟩ := h.t4.sv
 obtain ⟨a4, c4, e4, s4⟩ := h.t5.sv
 obtain ⟨a5, c5, e5, s5⟩ := h.t6.sv
 cases e1; cases e2; cases e3; cases e4; cases e5
 refine ⟨⟨rfl, rfl, rfl, rfl, rfl⟩, ⟨s1, s2, s3, s4, s5⟩, fun x hx => ?_⟩
 obtain ⟨i, hi, rfl⟩ := List.mem_iff_getElem.1 hx
 obtain ⟨a, c, e, s⟩ := (h.kid i hi).sv
 cases e
 exact s
end
end Go.Proofs.YtgjhepblpdnkcaaGreatDoor
namespace Go.Proofs.YtgjhepblpdnkcaaGreatDoor
open Go.RowKit
set_option maxRecDepth 100000

def nwB : List UInt8 := [95, 110, 101, 119, 32, 60, 45, 32, 40, 41, 59]
theorem nwB_read : readT nwB = (([⟨[95, 110, 101, 119], 0, 0⟩], [⟨1, [], [], 0, [], 8, []⟩]), 0, 0) := by decide +kernel
def nwN : ByteArray := ⟨#[95, 110, 101, 119]⟩
theorem ru_nb2 {R S : List Rr} (h : R.map nb = S.map nb) : R.map Rr.ru = S.map Rr.ru := by
 have e : ∀ l : List Rr, l.map Rr.ru = (l.map nb).map fun x => (⟨tx x.1, x.2⟩ : Ru) := fun l => by rw [List.map_map]; rfl
 rw [e, e, h]
theorem nd_b02 {M N : List Rn} (h : M.map Rn.b0 = N.map Rn.b0) : M.map Rn.nd = N.map Rn.nd ∧ (M.map fun x => tx x.nm) = N.map fun x => tx x.nm := by
 have e : ∀ l : List Rn, l.map Rn.nd = (l.map Rn.b0).map Rn.nd := fun l => by rw [List.map_map]; rfl
 have e2 : ∀ l : List Rn, (l.map fun x => tx x.nm) = (l.map Rn.b0).map fun x => tx x.nm := fun l => by rw [List.map_map]; rfl
 refine ⟨by rw [e, e N, h], by rw [e2, e2 N, h]⟩
/-- With '_new' behind. -/
theorem new_read {l : List UInt8} {RR : List Rr} {NN : List Rn} (h : readT l = ((RR, NN), 0, 0)) :
  ∃ (r : Ru) (x : Nd) (s : ByteArray), r.name = nwN ∧ x.kind = 1 ∧ (readT (l ++ 10 :: nwB)).2.1 = 0 ∧ (readT (l ++ 10 :: nwB)).2.2 = 0 ∧ ruT (l ++ 10 :: nwB) = ruT l ++ [r] ∧ ndT (l ++ 10 :: nwB) = ndT l ++ [x] ∧ nmT (l ++ 10 :: nwB) = nmT l ++ [s] := by
 obtain ⟨R, N, h1, h2, h3, h4⟩ := join_read2 h nwB_read
 have hl1 : ruT l = RR.map Rr.ru := by unfold ruT; rw [h]
 have hl2 : ndT l = NN.map Rn.nd := by unfold ndT; rw [h]
 have hl3 : nmT l = NN.map fun x => tx x.nm := by unfold nmT; rw [h]
 refine ⟨⟨nwN, ((0 + NN.length : Nat) : Int)⟩, Rn.nd ⟨1, [], [], 0, [], 8, []⟩, tx [], rfl, rfl, by rw [h1], by rw [h1], ?_, ?_, ?_⟩
 ·have e1 : ruT (l ++ 10 :: nwB) = R.map Rr.ru := by unfold ruT; rw [h1]
  have e2 : R.map nb = (RR ++ [(⟨[95, 110, 101, 119], 0 + NN.length, 0⟩ : Rr)]).map nb := by rw [h2, List.map_append]; rfl
  rw [e1, hl1, ru_nb2 e2, List.map_append]; rfl
 ·have e1 : ndT (l ++ 10 :: nwB) = N.map Rn.nd := by unfold ndT; rw [h1]
  have e2 : N.map Rn.b0 = (NN ++ [(⟨1, [], [], 0, [], 8, []⟩ : Rn)]).map Rn.b0 := by rw [h4, List.map_append]; rfl
  rw [e1, hl2, (nd_b02 e2).1, List.map_append]; rfl
 ·have e1 : nmT (l ++ 10 :: nwB) = N.map fun x => tx x.nm := by unfold nmT; rw [h1]
  have e2 : N.map Rn.b0 = (NN ++ [(⟨1, [], [], 0, [], 8, []⟩ : Rn)]).map Rn.b0 := by rw [h4, List.map_append]; rfl
  rw [e1, hl3, (nd_b02 e2).2, List.map_append]; rfl
theorem fl_take {α : Type} {f : α → List Value} {s : Nat} (hf : ∀ x, (f x).length = s) (l m : List α) : ((l ++ m).flatMap f).take (l.length * s) = l.flatMap f := by
 rw [List.flatMap_append, List.take_append_of_le_length (by rw [fl_len hf]; exact Nat.le_refl _), List.take_of_length_le (by rw [fl_len hf]; exact Nat.le_refl _)]
/-- The last rule and the last node are left out. -/
theorem GrW.front {w : World} {ro no : Option Addr} {rn rc nn nc : Nat} {NK : List Nk} {R : List Ru} {N : List Nd} {r : Ru} {x : Nd} (h : GrW w ro rn rc no nn nc NK ⟨R ++ [r], N ++ [x]⟩) :
  GrW w ro R.length rc no N.length nc (NK.take N.length) ⟨R, N⟩ := by
 have hrl : R.length + 1 = rn := by have := h.rul.n_eq ruc_len (by decide); simpa using this
 have hnl : NK.length = N.length + 1 := by have := congrArg List.length h.eq; simpa using this
 have hnn : NK.length = nn := h.nod.sv.n_eq ndc_len (by decide)
 refine ⟨?_, fun q hq => h.nam q (by simp [hq]), ⟨?_, fun p hp => h.nod.kids p (List.mem_of_mem_take hp), fun p hp => h.nod.txt p (List.mem_of_mem_take hp)⟩, ?_⟩
 ·have h1 := h.rul.take R.length (by omega)
  rwa [fl_take ruc_len] at h1
 ·have h1 := h.nod.sv.take N.length (by omega)
  have e : NK = NK.take N.length ++ NK.drop N.length := (List.take_append_drop _ _).symm
  have h2 : (NK.flatMap ndc).take (N.length * 9) = (NK.take N.length).flatMap ndc := by
   have h3 := fl_take ndc_len (NK.take N.length) (NK.drop N.length)
   rw [← e, List.length_take, Nat.min_eq_left (by omega)] at h3
   exact h3
  rwa [h2] at h1
 ·rw [List.map_take, h.eq]
  simp
end Go.Proofs.YtgjhepblpdnkcaaGreatDoor
