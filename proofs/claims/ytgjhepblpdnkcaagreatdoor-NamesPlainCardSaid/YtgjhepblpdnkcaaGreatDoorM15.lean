/- Walks and plain laws: Ih Ke Kf Gc. -/
import Derived.Test.YtgjhepblpdnkcaaGreatDoorM14
import Derived.Test.YtgjhepblpdnkcaaGreatDoorM13
import Derived.Test.YtgjhepblpdnkcaaGreatDoorM07
import Derived.Test.YtgjhepblpdnkcaaGreatDoorM08
import Derived.Deep.RegionHeld3
namespace Go.Proofs.YtgjhepblpdnkcaaGreatDoor

mutual
/-- A part, without places. -/
def bare : Pt → Pt
 | .mk k cl t lv _ nm ks => .mk k cl t lv 0 nm (bareL ks)
def bareL : List Pt → List Pt
 | [] => []
 | p :: ps => bare p :: bareL ps
end
theorem bareL_app : ∀ a b : List Pt, bareL (a ++ b) = bareL a ++ bareL b
 | [], b => by simp [bareL]
 | p :: a, b => by
  show bareL (p :: (a ++ b)) = _
  simp only [bareL, List.cons_append]
  rw [bareL_app a b]
theorem bare_grp (k : Nat) : ∀ (l l' : List Pt), bareL l = bareL l' → bare (grp k l) = bare (grp k l')
 | [], [], _ => rfl
 | [], q :: r, h => by simp [bareL] at h
 | p :: r, [], h => by simp [bareL] at h
 | [p], [q], h => by simpa [bareL, grp] using h
 | [p], q :: q2 :: r, h => by simp [bareL] at h
 | p :: p2 :: r, [q], h => by simp [bareL] at h
 | p :: p2 :: r, q :: q2 :: r', h => by
  show bare (.mk k [] [] 0 p.at_ [] (p :: p2 :: r)) = bare (.mk k [] [] 0 q.at_ [] (q :: q2 :: r'))
  unfold bare
  rw [h]
theorem bare_ovr (k a b : Nat) {p q : Pt} (h : bare p = bare q) : bare (ovr k a p) = bare (ovr k b q) := by
 unfold ovr bare bareL bareL
 rw [h]
/-- What comes of two readings is alike. -/
def RL (s : Nat) : Rs Pt → Rs Pt → Prop
 | .ok p j, .ok q k => k = j + s ∧ bare q = bare p
 | .err e _, .err e' _ => e' = e
 | _, _ => False
def Ext {α : Type} (k : Nat) : Rs α → Prop
 | .ok _ j => k ≤ j
 | .err _ _ => True
theorem here_like {L M : List Wd} {i s : Nat} (h : like (wdAt L i) (wdAt M (i + s))) (x : List UInt8) : hereW M (i + s) x = hereW L i x := by
 unfold hereW; rw [h.1, h.2.1]
theorem goes_like {L M : List Wd} {i s : Nat} (h : like (wdAt L i) (wdAt M (i + s))) : goesW M (i + s) = goesW L i := by
 unfold goesW; simp only [here_like h]; rw [h.1]
theorem suf_like {L M : List Wd} {s : Nat} : ∀ (f : Nat) (p q : Pt) (i : Nat), bare q = bare p → (∀ k, i ≤ k → k ≤ (sufF L f p i).2 → like (wdAt L k) (wdAt M (k + s))) → (sufF M f q (i + s)).2 = (sufF L f p i).2 + s ∧ bare (sufF M f q (i + s)).1 = bare (sufF L f p i).1
 | 0, p, q, i, hb, hl => ⟨rfl, hb⟩
 | f + 1, p, q, i, hb, hl => by
  have hge : ∀ (f : Nat) (p : Pt) (i : Nat), i ≤ (sufF L f p i).2 := by
   intro f
   induction f with
   | zero => intro p i; exact Nat.le_refl _
   | succ f ih =>
    intro p i
    unfold sufF
    split
    ·exact Nat.le_trans (Nat.le_succ i) (ih _ _)
    ·split
     ·exact Nat.le_trans (Nat.le_succ i) (ih _ _)
     ·split
      ·exact Nat.le_trans (Nat.le_succ i) (ih _ _)
      ·exact Nat.le_refl _
  have h0 := hl i (Nat.le_refl _) (hge _ _ _)
  unfold sufF at hl ⊢
  simp only [here_like h0]
  rw [show i + s + 1 = i + 1 + s by omega]
  split
  ·rename_i hh
   rw [if_pos hh] at hl
   exact suf_like f _ _ (i + 1) (bare_ovr _ _ _ hb) (fun k h1 h2 => hl k (by omega) h2)
  ·rename_i hh
   rw [if_neg hh] at hl
   split
   ·rename_i hh2
    rw [if_pos hh2] at hl
    exact suf_like f _ _ (i + 1) (bare_ovr _ _ _ hb) (fun k h1 h2 => hl k (by omega) h2)
   ·rename_i hh2
    rw [if_neg hh2] at hl
    split
    ·rename_i hh3
     rw [if_pos hh3] at hl
     exact suf_like f _ _ (i + 1) (bare_ovr _ _ _ hb) (fun k h1 h2 => hl k (by omega) h2)
    ·exact ⟨rfl, hb⟩
theorem suf_ge {L : List Wd} : ∀ (f : Nat) (p : Pt) (i : Nat), i ≤ (sufF L f p i).2
 | 0, p, i => Nat.le_refl _
 | f + 1, p, i => by
  unfold sufF
  split
  ·exact Nat.le_trans (Nat.le_succ i) (suf_ge f _ _)
  ·split
   ·exact Nat.le_trans (Nat.le_succ i) (suf_ge f _ _)
   ·split
    ·exact Nat.le_trans (Nat.le_succ i) (suf_ge f _ _)
    ·exact Nat.le_refl _
/-- Signs behind a part: more fuel than words changes nothing. -/
theorem suf_fuel {L : List Wd} (h : WsOk L) : ∀ (f g : Nat) (p : Pt) (i : Nat), i < L.length → L.length ≤ f + i → L.length ≤ g + i → sufF L f p i = sufF L g p i
 | 0, _, p, i, hi, hf, _ => by omega
 | _ + 1, 0, p, i, hi, _, hg => by omega
 | f + 1, g + 1, p, i, hi, hf, hg => by
  unfold sufF
  split
  ·rename_i hh; exact suf_fuel h f g _ _ (h.after hi hh) (by omega) (by omega)
  ·split
   ·rename_i hh; exact suf_fuel h f g _ _ (h.after hi hh) (by omega) (by omega)
   ·split
    ·rename_i hh; exact suf_fuel h f g _ _ (h.after hi hh) (by omega) (by omega)
    ·rfl
theorem Ext.of {α β : Type} {k j : Nat} {r : Rs α} {x : β} (h : ∀ p i, r = .ok p i → j ≤ i) (hk : Ext k (.ok x j)) : Ext k r := by
 cases r with
 | ok p i => have := h p i rfl; simp only [Ext] at hk ⊢; omega
 | err a b => trivial
theorem prs_like {L M : List Wd} (hL : WsOk L) (hM : WsOk M) {s : Nat} : ∀ (f : Nat) (m : Md) (acc acc' : List Pt) (i d : Nat) (r : Rs Pt), i < L.length → i + s < M.length → prs L f m acc i d = some r → bareL acc' = bareL acc →
  (∀ k, i ≤ k → k < L.length → Ext k r → k + s < M.length ∧ like (wdAt L k) (wdAt M (k + s))) → ∃ r', prs M f m acc' (i + s) d = some r' ∧ RL s r r'
 | 0, m, acc, acc', i, d, r, hi, hs, e, _, _ => by simp [prs] at e
 | f + 1, .alt, acc, acc', i, d, r, hi, hs, e, ha, hl => by
  simp only [prs] at e ⊢
  cases hq : prs L f .seq [] i d with
  | none => rw [hq] at e; cases e
  | some r1 =>
   rw [hq] at e
   cases r1 with
   | err a b =>
    simp only [Option.some.injEq] at e
    subst e
    obtain ⟨r', h1, h2⟩ := prs_like hL hM f .seq [] [] i d _ hi hs hq rfl hl
    rw [h1]
    cases r' with
    | ok q j => exact h2.elim
    | err a' b' => exact ⟨_, rfl, h2⟩
   | ok q k =>
    simp only [] at e
    obtain ⟨b1, b2, b3⟩ := prs_bd hL f .seq [] i d q k hi hq
    obtain ⟨r', h1, h2⟩ := prs_like hL hM f .seq [] [] i d _ hi hs hq rfl (fun x x1 x2 x3 => hl x x1 x2 (Ext.of (fun p j ej => (prs_bd hL f .altM [q] k d p j b1 (by rw [e, ej])).2.1) x3))
    rw [h1]
    cases r' with
    | err a' b' => exact h2.elim
    | ok q' k' =>
     obtain ⟨rfl, hb⟩ := h2
     simp only []
     exact prs_like hL hM f .altM [q] [q'] k d r b1 (by
      cases r with
      | ok p j => exact (hl k (by omega) b1 (by simp only [Ext]; exact (prs_bd hL f .altM [q] k d p j b1 e).2.1)).1
      | err x y => exact (hl k (by omega) b1 trivial).1) e (by simp only [bareL]; rw [hb]) (fun x x1 x2 x3 => hl x (by omega) x2 x3)
 | f + 1, .altM, acc, acc', i, d, r, hi, hs, e, ha, hl => by
  simp only [prs] at e ⊢
  by_cases hh : hereW L i [47] = true
  ·rw [if_pos hh] at e
   have hi1 := hL.after hi hh
   have h0 : like (wdAt L i) (wdAt M (i + s)) := by
    cases r with
    | err x y => exact (hl i (Nat.le_refl _) hi trivial).2
    | ok p j => exact (hl i (Nat.le_refl _) hi (by
      simp only [Ext]
      exact (prs_bd hL (f + 1) .altM acc i d p j hi (by simp only [prs]; rw [if_pos hh]; exact e)).2.1)).2
   rw [here_like h0, if_pos hh, show i + s + 1 = i + 1 + s by omega]
   have hs1 := hM.after hs ((here_like h0 [47]).trans hh)
   cases hq : prs L f .seq [] (i + 1) d with
   | none => rw [hq] at e; cases e
   | some r1 =>
    rw [hq] at e
    cases r1 with
    | err a b =>
     simp only [Option.some.injEq] at e
     subst e
     obtain ⟨r', h1, h2⟩ := prs_like hL hM f .seq [] [] (i + 1) d _ hi1 (by omega) hq rfl (fun x x1 x2 x3 => hl x (by omega) x2 x3)
     rw [h1]
     cases r' with
     | ok q j => exact h2.elim
     | err a' b' => exact ⟨_, rfl, h2⟩
    | ok q k =>
     simp only [] at e
     obtain ⟨b1, b2, b3⟩ := prs_bd hL f .seq [] (i + 1) d q k hi1 hq
     obtain ⟨r', h1, h2⟩ := prs_like hL hM f .seq [] [] (i + 1) d _ hi1 (by omega) hq rfl (fun x x1 x2 x3 => hl x (by omega) x2 (Ext.of (fun p j ej => (prs_bd hL f .altM _ k d p j b1 (by rw [e, ej])).2.1) x3))
     rw [h1]
     cases r' with
     | err a' b' => exact h2.elim
     | ok q' k' =>
      obtain ⟨rfl, hb⟩ := h2
      simp only []
      exact prs_like hL hM f .altM (acc ++ [q]) (acc' ++ [q']) k d r b1 (by
       cases r with
       | ok p j => exact (hl k (by omega) b1 (by simp only [Ext]; exact (prs_bd hL f .altM _ k d p j b1 e).2.1)).1
       | err x y => exact (hl k (by omega) b1 trivial).1) e (by rw [bareL_app, bareL_app, ha]; simp only [bareL]; rw [hb]) (fun x x1 x2 x3 => hl x (by omega) x2 x3)
  ·rw [if_neg hh] at e
   simp only [Option.some.injEq] at e
   subst e
   have h0 := (hl i (Nat.le_refl _) hi (Nat.le_refl _)).2
   rw [here_like h0, if_neg hh]
   exact ⟨_, rfl, rfl, bare_grp 7 _ _ ha⟩
 | f + 1, .seq, acc, acc', i, d, r, hi, hs, e, ha, hl => by
  simp only [prs] at e ⊢
  cases hq : prs L f .item [] i d with
  | none => rw [hq] at e; cases e
  | some r1 =>
   rw [hq] at e
   cases r1 with
   | err a b =>
    simp only [Option.some.injEq] at e
    subst e
    obtain ⟨r', h1, h2⟩ := prs_like hL hM f .item [] [] i d _ hi hs hq rfl hl
    rw [h1]
    cases r' with
    | ok q j => exact h2.elim
    | err a' b' => exact ⟨_, rfl, h2⟩
   | ok q k =>
    simp only [] at e
    obtain ⟨b1, b2, b3⟩ := prs_bd hL f .item [] i d q k hi hq
    obtain ⟨r', h1, h2⟩ := prs_like hL hM f .item [] [] i d _ hi hs hq rfl (fun x x1 x2 x3 => hl x x1 x2 (Ext.of (fun p j ej => (prs_bd hL f .seqM [q] k d p j b1 (by rw [e, ej])).2.1) x3))
    rw [h1]
    cases r' with
    | err a' b' => exact h2.elim
    | ok q' k' =>
     obtain ⟨rfl, hb⟩ := h2
     simp only []
     exact prs_like hL hM f .seqM [q] [q'] k d r b1 (by
      cases r with
      | ok p j => exact (hl k (by omega) b1 (by simp only [Ext]; exact (prs_bd hL f .seqM [q] k d p j b1 e).2.1)).1
      | err x y => exact (hl k (by omega) b1 trivial).1) e (by simp only [bareL]; rw [hb]) (fun x x1 x2 x3 => hl x (by omega) x2 x3)
 | f + 1, .seqM, acc, acc', i, d, r, hi, hs, e, ha, hl => by
  simp only [prs] at e ⊢
  by_cases hh : goesW L i = true
  ·rw [if_pos hh] at e
   have h0 : like (wdAt L i) (wdAt M (i + s)) := by
    cases r with
    | err x y => exact (hl i (Nat.le_refl _) hi trivial).2
    | ok p j => exact (hl i (Nat.le_refl _) hi (by
      simp only [Ext]
      exact (prs_bd hL (f + 1) .seqM acc i d p j hi (by simp only [prs]; rw [if_pos hh]; exact e)).2.1)).2
   rw [goes_like h0, if_pos hh]
   cases hq : prs L f .item [] i d with
   | none => rw [hq] at e; cases e
   | some r1 =>
    rw [hq] at e
    cases r1 with
    | err a b =>
     simp only [Option.some.injEq] at e
     subst e
     obtain ⟨r', h1, h2⟩ := prs_like hL hM f .item [] [] i d _ hi hs hq rfl hl
     rw [h1]
     cases r' with
     | ok q j => exact h2.elim
     | err a' b' => exact ⟨_, rfl, h2⟩
    | ok q k =>
     simp only [] at e
     obtain ⟨b1, b2, b3⟩ := prs_bd hL f .item [] i d q k hi hq
     obtain ⟨r', h1, h2⟩ := prs_like hL hM f .item [] [] i d _ hi hs hq rfl (fun x x1 x2 x3 => hl x x1 x2 (Ext.of (fun p j ej => (prs_bd hL f .seqM _ k d p j b1 (by rw [e, ej])).2.1) x3))
     rw [h1]
     cases r' with
     | err a' b' => exact h2.elim
     | ok q' k' =>
      obtain ⟨rfl, hb⟩ := h2
      simp only []
      exact prs_like hL hM f .seqM (acc ++ [q]) (acc' ++ [q']) k d r b1 (by
       cases r with
       | ok p j => exact (hl k (by omega) b1 (by simp only [Ext]; exact (prs_bd hL f .seqM _ k d p j b1 e).2.1)).1
       | err x y => exact (hl k (by omega) b1 trivial).1) e (by rw [bareL_app, bareL_app, ha]; simp only [bareL]; rw [hb]) (fun x x1 x2 x3 => hl x (by omega) x2 x3)
  ·rw [if_neg hh] at e
   simp only [Option.some.injEq] at e
   subst e
   have h0 := (hl i (Nat.le_refl _) hi (Nat.le_refl _)).2
   rw [goes_like h0, if_neg hh]
   exact ⟨_, rfl, rfl, bare_grp 6 _ _ ha⟩
 | f + 1, .item, acc, acc', i, d, r, hi, hs, e, ha, hl => by
  have hbd : ∀ p j, r = .ok p j → i < j := fun p j er => (prs_bd hL (f + 1) .item acc i d p j hi (by rw [e, er])).2.2
  have h0 : like (wdAt L i) (wdAt M (i + s)) := by
   cases r with
   | err x y => exact (hl i (Nat.le_refl _) hi trivial).2
   | ok p j => exact (hl i (Nat.le_refl _) hi (Nat.le_of_lt (hbd p j rfl))).2
  simp only [prs] at e ⊢
  rw [here_like h0, here_like h0, show i + s + 1 = i + 1 + s by omega]
  have ahead : ∀ (K : Nat) (x : List UInt8), hereW L i x = true → (match prs L f .item [] (i + 1) d with | some (.ok p j) => some (Rs.ok (ovr K (wdAt L i).at_ p) j) | r => r) = some r →
    ∃ r', (match prs M f .item [] (i + 1 + s) d with | some (.ok p j) => some (Rs.ok (ovr K (wdAt M (i + s)).at_ p) j) | r => r) = some r' ∧ RL s r r' := fun K x hh e => by
   have hi1 := hL.after hi hh
   have hs1 := hM.after hs ((here_like h0 x).trans hh)
   cases hq : prs L f .item [] (i + 1) d with
   | none => rw [hq] at e; cases e
   | some r1 =>
    rw [hq] at e
    cases r1 with
    | err a b =>
     simp only [Option.some.injEq] at e
     subst e
     obtain ⟨r', h1, h2⟩ := prs_like hL hM f .item [] [] (i + 1) d _ hi1 (by omega) hq rfl (fun x x1 x2 x3 => hl x (by omega) x2 x3)
     rw [h1]
     cases r' with
     | ok q j => exact h2.elim
     | err a' b' => exact ⟨_, rfl, h2⟩
    | ok q k =>
     simp only [Option.some.injEq] at e
     subst e
     obtain ⟨r', h1, h2⟩ := prs_like hL hM f .item [] [] (i + 1) d _ hi1 (by omega) hq rfl (fun x x1 x2 x3 => hl x (by omega) x2 x3)
     rw [h1]
     cases r' with
     | err a' b' => exact h2.elim
     | ok q' k' =>
      obtain ⟨rfl, hb⟩ := h2
      exact ⟨_, rfl, rfl, bare_ovr _ _ _ hb⟩
  by_cases hh : hereW L i [33] = true
  ·rw [if_pos hh] at e ⊢
   exact ahead 11 _ hh e
  ·rw [if_neg hh] at e ⊢
   by_cases hh2 : hereW L i [38] = true
   ·rw [if_pos hh2] at e ⊢
    exact ahead 12 _ hh2 e
   ·rw [if_neg hh2] at e ⊢
    cases hq : prs L f .prim [] i d with
    | none => rw [hq] at e; cases e
    | some r1 =>
     rw [hq] at e
     cases r1 with
     | err a b =>
      simp only [Option.some.injEq] at e
      subst e
      obtain ⟨r', h1, h2⟩ := prs_like hL hM f .prim [] [] i d _ hi hs hq rfl hl
      rw [h1]
      cases r' with
      | ok q j => exact h2.elim
      | err a' b' => exact ⟨_, rfl, h2⟩
     | ok q k =>
      simp only [Option.some.injEq] at e
      subst e
      obtain ⟨b1, b2, b3⟩ := prs_bd hL f .prim [] i d q k hi hq
      have hge := suf_ge (L := L) L.length q k
      obtain ⟨r', h1, h2⟩ := prs_like hL hM f .prim [] [] i d _ hi hs hq rfl (fun x x1 x2 x3 => hl x x1 x2 (by simp only [Ext] at x3 ⊢; omega))
      rw [h1]
      cases r' with
      | err a' b' => exact h2.elim
      | ok q' k' =>
       obtain ⟨rfl, hb⟩ := h2
       have hlt := sufF_le hL L.length q k b1
       have hks := (hl k (by omega) b1 (by simp only [Ext]; exact hge)).1
       have hsf : sufF M M.length q' (k + s) = sufF M (L.length + M.length) q' (k + s) := suf_fuel hM _ _ _ _ hks (by omega) (by omega)
       have hsf2 : sufF L L.length q k = sufF L (L.length + M.length) q k := suf_fuel hL _ _ _ _ b1 (by omega) (by omega)
       simp only [] at hl ⊢
       rw [hsf2] at hl hlt ⊢
       rw [hsf]
       obtain ⟨c1, c2⟩ := suf_like (L := L) (M := M) (s := s) (L.length + M.length) q q' k hb (fun x x1 x2 => (hl x (by omega) (by omega) x2).2)
       exact ⟨_, rfl, c1, c2⟩
 | f + 1, .prim, acc, acc', i, d, r, hi, hs, e, ha, hl => by
  have hbd : ∀ p j, r = .ok p j → i < j := fun p j er => (prs_bd hL (f + 1) .prim acc i d p j hi (by rw [e, er])).2.2
  have h0 : like (wdAt L i) (wdAt M (i + s)) := by
   cases r with
   | err x y => exact (hl i (Nat.le_refl _) hi trivial).2
   | ok p j => exact (hl i (Nat.le_refl _) hi (Nat.le_of_lt (hbd p j rfl))).2
  simp only [prs] at e ⊢
  simp only [here_like h0]
  rw [h0.1, h0.2.1, h0.2.2.1, h0.2.2.2]
  split at e
  ·rename_i hk; rw [if_pos hk]; simp only [Option.some.injEq] at e; subst e; exact ⟨_, rfl, by omega, by unfold bare; rfl⟩
  rename_i hk; rw [if_neg hk]
  split at e
  ·rename_i hk; rw [if_pos hk]; simp only [Option.some.injEq] at e; subst e; exact ⟨_, rfl, by omega, by unfold bare; rfl⟩
  rename_i hk; rw [if_neg hk]
  split at e
  ·rename_i hk; rw [if_pos hk]; simp only [Option.some.injEq] at e; subst e; exact ⟨_, rfl, by omega, by unfold bare; rfl⟩
  rename_i hk; rw [if_neg hk]
  split at e
  ·rename_i hk; rw [if_pos hk]; simp only [Option.some.injEq] at e; subst e; exact ⟨_, rfl, by omega, by unfold bare; rfl⟩
  rename_i hk; rw [if_neg hk]
  split at e
  ·rename_i hh
   rw [if_pos hh]
   split at e
   ·rename_i hd; rw [if_pos hd]; simp only [Option.some.injEq] at e; subst e; exact ⟨_, rfl, rfl⟩
   ·rename_i hd
    rw [if_neg hd]
    have hi1 := hL.after hi hh
    have hs1 := hM.after hs ((here_like h0 [40]).trans hh)
    have h1 : like (wdAt L (i + 1)) (wdAt M (i + 1 + s)) := by
     cases r with
     | err x y => exact (hl (i + 1) (by omega) hi1 trivial).2
     | ok p j => exact (hl (i + 1) (by omega) hi1 (hbd p j rfl)).2
    rw [show i + s + 1 = i + 1 + s by omega, here_like h1]
    split at e
    ·rename_i h41; rw [if_pos h41]; simp only [Option.some.injEq] at e; subst e; exact ⟨_, rfl, by omega, by unfold bare; rfl⟩
    ·rename_i h41
     rw [if_neg h41]
     cases hq : prs L f .alt [] (i + 1) (d + 1) with
     | none => rw [hq] at e; cases e
     | some r1 =>
      rw [hq] at e
      cases r1 with
      | err a b =>
       simp only [Option.some.injEq] at e
       subst e
       obtain ⟨r', g1, g2⟩ := prs_like hL hM f .alt [] [] (i + 1) (d + 1) _ hi1 (by omega) hq rfl (fun x x1 x2 x3 => hl x (by omega) x2 x3)
       rw [g1]
       cases r' with
       | ok q j => exact g2.elim
       | err a' b' => exact ⟨_, rfl, g2⟩
      | ok q k =>
       simp only [] at e
       obtain ⟨b1, b2, b3⟩ := prs_bd hL f .alt [] (i + 1) (d + 1) q k hi1 hq
       have hx : ∀ x, Ext x (Rs.ok q k) → Ext x r := fun x hx => by
        split at e
        ·simp only [Option.some.injEq] at e; subst e; simp only [Ext] at hx ⊢; omega
        ·simp only [Option.some.injEq] at e; subst e; trivial
       obtain ⟨r', g1, g2⟩ := prs_like hL hM f .alt [] [] (i + 1) (d + 1) _ hi1 (by omega) hq rfl (fun x x1 x2 x3 => hl x (by omega) x2 (hx x x3))
       rw [g1]
       cases r' with
       | err a' b' => exact g2.elim
       | ok q' k' =>
        obtain ⟨rfl, hb⟩ := g2
        have hk := (hl k (by omega) b1 (hx k (Nat.le_refl _))).2
        simp only []
        rw [here_like hk]
        split at e
        ·rename_i hz; rw [if_pos hz]; simp only [Option.some.injEq] at e; subst e; exact ⟨_, rfl, by omega, hb⟩
        ·rename_i hz; rw [if_neg hz]; simp only [Option.some.injEq] at e; subst e; exact ⟨_, rfl, rfl⟩
  ·rename_i hh
   rw [if_neg hh]
   simp only [Option.some.injEq] at e
   subst e
   exact ⟨_, rfl, rfl⟩

/-! ### More fuel -/
theorem prs_mono {L : List Wd} : ∀ (f : Nat) (m : Md) (acc : List Pt) (i d : Nat) (r : Rs Pt), prs L f m acc i d = some r → prs L (f + 1) m acc i d = some r
 | 0, m, acc, i, d, r, e => by simp [prs] at e
 | f + 1, .alt, acc, i, d, r, e => by
  unfold prs at e ⊢
  cases hq : prs L f .seq [] i d with
  | none => rw [hq] at e; cases e
  | some r1 =>
   rw [hq] at e
   rw [prs_mono f _ _ _ _ _ hq]
   cases r1 with
   | err a b => exact e
   | ok q k => exact prs_mono f _ _ _ _ _ e
 | f + 1, .altM, acc, i, d, r, e => by
  unfold prs at e ⊢
  split at e
  ·rename_i hh
   rw [if_pos hh]
   cases hq : prs L f .seq [] (i + 1) d with
   | none => rw [hq] at e; cases e
   | some r1 =>
    rw [hq] at e
    rw [prs_mono f _ _ _ _ _ hq]
    cases r1 with
    | err a b => exact e
    | ok q k => exact prs_mono f _ _ _ _ _ e
  ·rename_i hh; rw [if_neg hh]; exact e
 | f + 1, .seq, acc, i, d, r, e => by
  unfold prs at e ⊢
  cases hq : prs L f .item [] i d with
  | none => rw [hq] at e; cases e
  | some r1 =>
   rw [hq] at e
   rw [prs_mono f _ _ _ _ _ hq]
   cases r1 with
   | err a b => exact e
   | ok q k => exact prs_mono f _ _ _ _ _ e
 | f + 1, .seqM, acc, i, d, r, e => by
  unfold prs at e ⊢
  split at e
  ·rename_i hh
   rw [if_pos hh]
   cases hq : prs L f .item [] i d with
   | none => rw [hq] at e; cases e
   | some r1 =>
    rw [hq] at e
    rw [prs_mono f _ _ _ _ _ hq]
    cases r1 with
    | err a b => exact e
    | ok q k => exact prs_mono f _ _ _ _ _ e
  ·rename_i hh; rw [if_neg hh]; exact e
 | f + 1, .item, acc, i, d, r, e => by
  unfold prs at e ⊢
  split at e
  ·rename_i hh
   rw [if_pos hh]
   cases hq : prs L f .item [] (i + 1) d with
   | none => rw [hq] at e; cases e
   | some r1 => rw [hq] at e; rw [prs_mono f _ _ _ _ _ hq]; exact e
  ·rename_i hh
   rw [if_neg hh]
   split at e
   ·rename_i hh2
    rw [if_pos hh2]
    cases hq : prs L f .item [] (i + 1) d with
    | none => rw [hq] at e; cases e
    | some r1 => rw [hq] at e; rw [prs_mono f _ _ _ _ _ hq]; exact e
   ·rename_i hh2
    rw [if_neg hh2]
    cases hq : prs L f .prim [] i d with
    | none => rw [hq] at e; cases e
    | some r1 => rw [hq] at e; rw [prs_mono f _ _ _ _ _ hq]; exact e
 | f + 1, .prim, acc, i, d, r, e => by
  unfold prs at e ⊢
  simp only [] at e ⊢
  split at e
  ·rename_i hk; rw [if_pos hk]; exact e
  rename_i hk; rw [if_neg hk]
  split at e
  ·rename_i hk; rw [if_pos hk]; exact e
  rename_i hk; rw [if_neg hk]
  split at e
  ·rename_i hk; rw [if_pos hk]; exact e
  rename_i hk; rw [if_neg hk]
  split at e
  ·rename_i hk; rw [if_pos hk]; exact e
  rename_i hk; rw [if_neg hk]
  split at e
  ·rename_i hk
   rw [if_pos hk]
   split at e
   ·rename_i hd; rw [if_pos hd]; exact e
   ·rename_i hd
    rw [if_neg hd]
    split at e
    ·rename_i hz; rw [if_pos hz]; exact e
    ·rename_i hz
     rw [if_neg hz]
     cases hq : prs L f .alt [] (i + 1) (d + 1) with
     | none => rw [hq] at e; cases e
     | some r1 => rw [hq] at e; rw [prs_mono f _ _ _ _ _ hq]; exact e
  ·rename_i hk; rw [if_neg hk]; exact e
theorem prs_more {L : List Wd} {f : Nat} {m : Md} {acc : List Pt} {i d : Nat} {r : Rs Pt} (e : prs L f m acc i d = some r) : ∀ g, prs L (f + g) m acc i d = some r
 | 0 => e
 | g + 1 => prs_mono _ _ _ _ _ _ (prs_more e g)

/-! ### Rules -/
def bareR (x : Wd × Pt) : List UInt8 × Pt := (x.1.tx, bare x.2)
def RLr (s : Nat) : Rs (Wd × Pt) → Rs (Wd × Pt) → Prop
 | .ok x j, .ok y k => k = j + s ∧ bareR y = bareR x
 | .err e _, .err e' _ => e' = e
 | _, _ => False
def ExtR {α : Type} (k : Nat) : Rs α → Prop
 | .ok _ j => k < j
 | .err _ _ => True
theorem rulP_like {L M : List Wd} (hL : WsOk L) (hM : WsOk M) {s f g i : Nat} {r : Rs (Wd × Pt)} (hfg : f ≤ g) (hi : i < L.length) (hs : i + s < M.length) (e : rulP L f i = some r)
  (hl : ∀ k, i ≤ k → k < L.length → ExtR k r → k + s < M.length ∧ like (wdAt L k) (wdAt M (k + s))) : ∃ r', rulP M g (i + s) = some r' ∧ RLr s r r' := by
 have h0 : like (wdAt L i) (wdAt M (i + s)) := by
  cases r with
  | err x y => exact (hl i (Nat.le_refl _) hi trivial).2
  | ok x j => obtain ⟨w, p⟩ := x; exact (hl i (Nat.le_refl _) hi (rulP_ok hL hi e).2.2.2.2.1).2
 have hbd : ∀ x j, r = .ok x j → i < j := fun x j er => by obtain ⟨w, p⟩ := x; exact (rulP_ok hL hi (e.trans (congrArg some er))).2.2.2.2.1
 unfold rulP at e ⊢
 simp only [] at e ⊢
 rw [h0.1, h0.2.2.1]
 by_cases hk : (wdAt L i).kind ≠ 2 ∨ 0 ≤ (wdAt L i).lv
 ·rw [if_pos hk] at e ⊢
  simp only [Option.some.injEq] at e
  subst e
  exact ⟨_, rfl, rfl⟩
 ·rw [if_neg hk] at e ⊢
  have hk2 : (wdAt L i).kind = 2 := by
   rcases Nat.decEq (wdAt L i).kind 2 with h1 | h1
   ·exact absurd (.inl h1) hk
   ·exact h1
  have hi1 := hL.next hi (by omega)
  have hs1 := hM.next hs (by rw [h0.1]; omega)
  -- how far it goes: the sign '<-' lies ahead of the end
  have h1 : like (wdAt L (i + 1)) (wdAt M (i + 1 + s)) := by
   by_cases hh : hereW L (i + 1) [60, 45] = true
   ·rw [if_pos hh] at e
    cases hq : prs L f .alt [] (i + 2) 0 with
    | none => rw [hq] at e; cases e
    | some r1 =>
     rw [hq] at e
     have h2 := hL.after hi1 hh
     cases r1 with
     | err a b => simp only [Option.some.injEq] at e; subst e; exact (hl (i + 1) (by omega) hi1 trivial).2
     | ok q k =>
      obtain ⟨b1, b2, b3⟩ := prs_bd hL f .alt [] (i + 2) 0 q k h2 hq
      simp only [] at e
      split at e
      ·simp only [Option.some.injEq] at e; subst e; exact (hl (i + 1) (by omega) hi1 (by simp only [ExtR]; omega)).2
      ·simp only [Option.some.injEq] at e; subst e; exact (hl (i + 1) (by omega) hi1 trivial).2
   ·rw [if_neg hh] at e
    simp only [Option.some.injEq] at e; subst e; exact (hl (i + 1) (by omega) hi1 trivial).2
  rw [show i + s + 1 = i + 1 + s by omega, here_like h1]
  by_cases hh : hereW L (i + 1) [60, 45] = true
  ·rw [if_pos hh] at e ⊢
   have h2 := hL.after hi1 hh
   have hs2 := hM.after (by omega : i + 1 + s < M.length) ((here_like h1 _).trans hh)
   rw [show i + s + 2 = i + 2 + s by omega]
   cases hq : prs L f .alt [] (i + 2) 0 with
   | none => rw [hq] at e; cases e
   | some r1 =>
    rw [hq] at e
    cases r1 with
    | err a b =>
     simp only [Option.some.injEq] at e
     subst e
     obtain ⟨r', g1, g2⟩ := prs_like hL hM f .alt [] [] (i + 2) 0 _ h2 (by omega) hq rfl (fun x x1 x2 x3 => hl x (by omega) x2 trivial)
     have g1' := prs_more g1 (g - f)
     rw [show f + (g - f) = g by omega] at g1'
     rw [g1']
     cases r' with
     | ok q j => exact g2.elim
     | err a' b' => exact ⟨_, rfl, g2⟩
    | ok q k =>
     obtain ⟨b1, b2, b3⟩ := prs_bd hL f .alt [] (i + 2) 0 q k h2 hq
     simp only [] at e
     have hx : ∀ x, x ≤ k → ExtR x r := fun x hx => by
      split at e
      ·simp only [Option.some.injEq] at e; subst e; simp only [ExtR]; omega
      ·simp only [Option.some.injEq] at e; subst e; trivial
     obtain ⟨r', g1, g2⟩ := prs_like hL hM f .alt [] [] (i + 2) 0 _ h2 (by omega) hq rfl (fun x x1 x2 x3 => hl x (by omega) x2 (hx x x3))
     have g1' := prs_more g1 (g - f)
     rw [show f + (g - f) = g by omega] at g1'
     rw [g1']
     cases r' with
     | err a' b' => exact g2.elim
     | ok q' k' =>
      obtain ⟨rfl, hb⟩ := g2
      have hk' := (hl k (by omega) b1 (hx k (Nat.le_refl _))).2
      simp only []
      rw [here_like hk']
      split at e
      ·rename_i hz
       rw [if_pos hz]
       simp only [Option.some.injEq] at e
       subst e
       exact ⟨_, rfl, by omega, by unfold bareR; simp only []; rw [hb, h0.2.1]⟩
      ·rename_i hz
       rw [if_neg hz]
       simp only [Option.some.injEq] at e
       subst e
       exact ⟨_, rfl, rfl⟩
  ·rw [if_neg hh] at e ⊢
   simp only [Option.some.injEq] at e
   subst e
   exact ⟨_, rfl, rfl⟩
end Go.Proofs.YtgjhepblpdnkcaaGreatDoor
namespace Go.Proofs.YtgjhepblpdnkcaaGreatDoor
open Go.RowKit Go.Shelf
set_option maxRecDepth 100000
set_option maxHeartbeats 4000000

theorem ptW_overF (F : Nat → Prop) (k a b : Nat) (p : Pt) (w : World) (hp : PtW w F p b) (hF : ∀ k, w.heap.size ≤ k → F k) :
  PtW ((w.alloc (.cells #[.pointer (some ⟨b, 0, none⟩)] 139)).alloc (.cells (ptC k [] [] 0 a [] (some ⟨w.heap.size, 0, none⟩) 1 1) 187)) F (ovr k a p) (w.heap.size + 1) := by
 have hb1 := (Below.refl _ w).alloc (Nat.le_refl _) (.cells #[.pointer (some ⟨b, 0, none⟩)] 139)
 have hb2 := (Below.refl _ (w.alloc (.cells #[.pointer (some ⟨b, 0, none⟩)] 139))).alloc (Nat.le_refl _) (.cells (ptC k [] [] 0 a [] (some ⟨w.heap.size, 0, none⟩) 1 1) 187)
 unfold ovr PtW
 refine ⟨hF _ (by omega), some ⟨w.heap.size, 0, none⟩, 1, [b], ?_, (Sv.lit w 139 #[.pointer (some ⟨b, 0, none⟩)] 1 1 (by unfold maxLen; omega) rfl).below hb2, fun x hx _ => by cases hx; exact hF _ (Nat.le_refl _), ?_⟩
 ·have := hrow.new (w.alloc (.cells #[.pointer (some ⟨b, 0, none⟩)] 139)) (ptC k [] [] 0 a [] (some ⟨w.heap.size, 0, none⟩) 1 1) 187
  rwa [World.size_alloc] at this
 ·unfold PtsW
  refine ⟨b, [], rfl, ?_, by unfold PtsW; rfl⟩
  exact PtW.fr (G := fun _ => False) (Fr.of_below (hb1.trans (hb2.mono hb1.size))) (fun _ _ => id) (fun _ h => h) p b hp
theorem over_anyF (F : Nat → Prop) (k a b : Nat) (p : Pt) (w : World) (hp : PtW w F p b) (hF : ∀ k, w.heap.size ≤ k → F k) :
  Calls Tryz.prog 189 #[.int .i64 k, .int .i64 a, ptr b] w fun e w' => ∃ b', e = .returned (ptr b') ∧ PtW w' F (ovr k a p) b' ∧ Below w.heap.size w w' := by
 have HP := Lib.hid (ptW_overF F k a b p w hp hF); clear hp hF
 unfold ptr
 go_enter Tryz.func189, Tryz.ntmps189
 go_wp2_with fail
 go_ret
 exact ⟨w.heap.size + 1, rfl, HP.out, al2 (Below.refl _ _) _ _⟩
/-- The signs ahead, as they lie. -/
def sgnL (L : List Wd) (i n : Nat) : List Wd := (List.range n).map fun k => wdAt L (i + k)
theorem sgnL_len (L : List Wd) (i n : Nat) : (sgnL L i n).length = n := by simp [sgnL]
/-- While the signs behind a part are read: the part in its own cell; the signs ahead of it in their row. -/
structure SufI (L : List Wd) (B gr d i n : Nat) (w : World) (v : Value) (G : Nat) (pf : Pt) (jf : Nat) (wr : World) (p : Pt) (b j : Nat) : Prop where
 cell : hrow wr G #[ptr b] 139
 pt : PtW wr (fun k => B ≤ k ∧ k ≠ G) p b
 eq : sufF L L.length p j = (pf, jf)
 lt : j < L.length
 ge : w.heap.size ≤ G
 own : wr.ownsRow w.heap.size 82 9 v n ((sgnL L i n).flatMap fun x => (wdD x).toList)
 ne : v.ownBlock ≠ some G
 rd : RdW L B gr j d wr
 fr : Fr (fun k => k = gr) w wr
theorem SufI.start {L : List Wd} {B gr d i n : Nat} {w w1 w2 : World} {v : Value} {p : Pt} {b j : Nat} (hs : SgnI L B gr d i w v w1 n) (hB : B ≤ w.heap.size) (hp : PtW w2 (fun k => w1.heap.size ≤ k) p b) (hr : RdW L B gr j d w2) (hf : Fr (fun k => k = gr) w1 w2) (hj : j < L.length) (hgr : gr < w.heap.size) :
  SufI L B gr d i n w v w2.heap.size (sufF L L.length p j).1 (sufF L L.length p j).2 (w2.alloc (.cells #[ptr b] 139)) p b j := by
 have hA : Fr (fun _ => False) w2 (w2.alloc (.cells #[ptr b] 139)) := Fr.of_below ((Below.refl _ _).alloc (Nat.le_refl _) _)
 have hs1 := hs.fr.size
 have hs2 := hf.size
 have ho : w2.ownsRow w.heap.size 82 9 v n ((sgnL L i n).flatMap fun x => (wdD x).toList) := owns_fr hs.own hf (fun k hk e => by have := (hs.own.lt k hk).1; omega)
 exact {
  cell := hrow.new _ _ _
  pt := PtW.fr hA (fun _ _ => id) (fun k hk => ⟨by have := hk.1; omega, by have := hk.2; omega⟩) _ _ (PtW.bound _ _ hp)
  eq := rfl
  lt := hj
  ge := Nat.le_trans hs1 hs2
  own := owns_fr ho hA (fun _ _ => id)
  ne := fun e => by have := (ho.lt _ e).2; omega
  rd := hr.fr hA (fun _ e => e.elim)
  fr := (hs.fr.trans hf (fun _ _ h => h)).trans hA (fun _ _ e => e.elim) }
/-- A sign behind is taken. -/
theorem SufI.more {L : List Wd} {B gr d i n : Nat} {w : World} {v : Value} {G : Nat} {pf : Pt} {jf : Nat} {wr w2 : World} {p : Pt} {b b' j K : Nat} (h : SufI L B gr d i n w v G pf jf wr p b j) (hW : WsOk L) (hB : B ≤ w.heap.size) (hgr : gr < w.heap.size)
  (hK : (hereW L j [42] = true ∧ K = 8) ∨ (hereW L j [43] = true ∧ K = 9) ∨ (hereW L j [63] = true ∧ K = 10)) (hf : Fr (fun k => k = gr) wr w2) (hr : RdW L B gr (j + 1) d w2)
  (hp : PtW w2 (fun k => B ≤ k ∧ k ≠ G) (ovr K (wdAt L j).at_ p) b') : SufI L B gr d i n w v G pf jf (w2.setCell ⟨G, 0, none⟩ (ptr b')) (ovr K (wdAt L j).at_ p) b' (j + 1) := by
 have hge := h.ge
 have hlt : j + 1 < L.length := by rcases hK with h1 | h1 | h1 <;> exact hW.after h.lt h1.1
 have hS := Fr.setCell w2 ⟨G, 0, none⟩ (ptr b')
 have hG : G < w2.heap.size := Nat.lt_of_lt_of_le h.cell.lt hf.size
 have hc : hrow w2 G #[ptr b] 139 := h.cell.fr hf (fun e => by have : G = gr := e; omega)
 have ho := owns_fr h.own hf (fun k hk e => by have := (h.own.lt k hk).1; have : k = gr := e; omega)
 exact {
  cell := hc.setCell 0 _
  pt := PtW.fr hS (fun k hk e => hk.2 e) (fun _ h => h) _ _ hp
  eq := by
   rw [← h.eq, suf_fuel hW L.length (L.length + 1) p j h.lt (by omega) (by omega)]
   conv => rhs; unfold sufF
   rcases hK with ⟨h1, rfl⟩ | ⟨h1, rfl⟩ | ⟨h1, rfl⟩
   ·rw [if_pos h1]
   ·have h2 : hereW L j [42] = false := by unfold hereW; rw [(here_kind h1).2]; simp
    rw [h2, if_neg Bool.false_ne_true, if_pos h1]
   ·have h2 : hereW L j [42] = false := by unfold hereW; rw [(here_kind h1).2]; simp
    have h3 : hereW L j [43] = false := by unfold hereW; rw [(here_kind h1).2]; simp
    rw [h2, if_neg Bool.false_ne_true, h3, if_neg Bool.false_ne_true, if_pos h1]
  lt := hlt
  ge := hge
  own := owns_fr ho hS (fun k hk e => h.ne (by rw [hk]; exact congrArg some e))
  ne := h.ne
  rd := hr.fr hS (fun k e => by have : k = G := e; omega)
  fr := (h.fr.trans hf (fun _ _ h => h)).trans hS (fun k hk e => by have : k = G := e; omega) }
/-- No sign is behind. -/
theorem SufI.done {L : List Wd} {B gr d i n : Nat} {w : World} {v : Value} {G : Nat} {pf : Pt} {jf : Nat} {wr : World} {p : Pt} {b j : Nat} (h : SufI L B gr d i n w v G pf jf wr p b j) (h1 : hereW L j [42] = false) (h2 : hereW L j [43] = false) (h3 : hereW L j [63] = false) : p = pf ∧ j = jf := by
 have := h.eq
 have hl := h.lt
 obtain ⟨m, hm⟩ : ∃ m, L.length = m + 1 := ⟨L.length - 1, by omega⟩
 rw [hm] at this
 unfold sufF at this
 rw [h1, h2, h3] at this
 simpa using this
end Go.Proofs.YtgjhepblpdnkcaaGreatDoor
namespace Go.Proofs.YtgjhepblpdnkcaaGreatDoor
open Go.RowKit Go.Shelf
set_option maxRecDepth 100000
set_option maxHeartbeats 4000000

/-- While the signs ahead are gone through. -/
structure BkI (L : List Wd) (B gr d jf G : Nat) (w : World) (q : Pt) (pre : List (Nat × Wd)) (W : World) : Prop where
 ex : ∃ b, hrow W G #[ptr b] 139 ∧ PtW W (fun k => B ≤ k ∧ k ≠ G) (wrapF q pre) b
 rd : RdW L B gr jf d W
 fr : Fr (fun k => k = gr) w W
theorem BkI.own {L : List Wd} {B gr d jf G B' : Nat} {w : World} {q : Pt} (hB : B ≤ w.heap.size) (hw : w.heap.size ≤ B') : OwnFrom B' (fun pre W => BkI L B gr d jf G w q pre W) := by
 rintro pre W W' row ⟨⟨b, h1, h2⟩, h3, h4⟩ hg hr
 have hf := Fr.grown hg
 refine ⟨⟨b, h1.own hg hr, ?_⟩, h3.fr hf (fun k e => ?_), h4.trans hf (fun k hk e => ?_)⟩
 ·refine PtW.fr hf (fun k hk e => ?_) (fun k hk => hk.1) _ _ (PtW.cl _ _ h2)
  obtain ⟨cs, t, fr, hc⟩ := hk.2
  obtain ⟨o, ho, hno⟩ := (hr k e).2
  rw [hc] at ho; cases ho; cases hno
 ·have := (hr k e).1; omega
 ·have := (hr k e).1; omega
theorem BkI.below {L : List Wd} {B gr d jf G : Nat} {w W W' : World} {q : Pt} {pre : List (Nat × Wd)} (h : BkI L B gr d jf G w q pre W) (hb : Below W.heap.size W W') : BkI L B gr d jf G w q pre W' := by
 obtain ⟨⟨b, h1, h2⟩, h3, h4⟩ := h
 exact ⟨⟨b, h1.below hb, PtW.fr (G := fun _ => False) (Fr.of_below hb) (fun _ _ => id) (fun _ h => h) _ _ h2⟩, h3.below hb, h4.trans (Fr.of_below (F := fun _ => False) hb) (fun _ _ e => e.elim)⟩
/-- A round. -/
theorem BkI.more {L : List Wd} {B gr d jf G B' b' : Nat} {w W w2 : World} {q : Pt} {pre : List (Nat × Wd)} {x : Nat × Wd} (h : BkI L B gr d jf G w q pre W) (hB : B ≤ w.heap.size) (hG : w.heap.size ≤ G) (hG2 : G < B') (hb : Below W.heap.size W w2)
  (hp : PtW w2 (fun k => B ≤ k ∧ k ≠ G) (ovr (ahT x.2.tx) x.2.at_ (wrapF q pre)) b') :
  KeepsFrom B' W (w2.setCell ⟨G, 0, none⟩ (ptr b')) ∧ KpC G W (w2.setCell ⟨G, 0, none⟩ (ptr b')) ∧ BkI L B gr d jf G w q (pre ++ [x]) (w2.setCell ⟨G, 0, none⟩ (ptr b')) := by
 obtain ⟨⟨b, h1, h2⟩, h3, h4⟩ := h
 have hS := Fr.setCell w2 ⟨G, 0, none⟩ (ptr b')
 have hF : Fr (fun k => k = G) W (w2.setCell ⟨G, 0, none⟩ (ptr b')) := (Fr.of_below (F := fun k => k = G) hb).trans hS (fun _ _ e => e)
 refine ⟨⟨hF.size, fun k o hk ho _ => (hF.block k (Array.getElem?_eq_some_iff.1 ho).1 (fun e => by have : k = G := e; omega)).trans ho⟩, kpC_fr hF (fun _ e => e), ⟨b', ?_, ?_⟩, h3.fr hF (fun k e => by have : k = G := e; omega), h4.trans hF (fun k hk e => by have : k = G := e; omega)⟩
 ·exact (h1.below hb).setCell 0 _
 ·rw [wrapF_snoc]
  exact PtW.fr hS (fun k hk e => hk.2 e) (fun _ h => h) _ _ hp
/-- The lookup of a sign ahead, whatever text it is. -/
theorem look_ah2 {w : World} {g : Nat} (hb : w.heap[g]? = some (.map ahE 2)) (t : List UInt8) :
  (Instr.lookup 265 (.map (some g)) (.string (tx t)) false).run Tryz.prog w = .ok (.int .i64 (ahT t)) w := by
 have hes : ∀ x ∈ ahE.toList, ∃ a, x.key = .string a := by simp [ahE]
 unfold ahT
 by_cases h1 : t = [33]
 ·subst h1
  exact look_ah hb _ 11 (.inl ⟨rfl, rfl⟩)
 ·rw [if_neg h1]
  by_cases h2 : t = [38]
  ·subst h2
   exact look_ah hb _ 12 (.inr ⟨rfl, rfl⟩)
  ·rw [if_neg h2]
   have e1 : tx t ≠ ⟨#[33]⟩ := fun e => h1 (tx_inj (b := [33]) e)
   have e2 : tx t ≠ ⟨#[38]⟩ := fun e => h2 (tx_inj (b := [38]) e)
   have hz : (zeroValue 40).run Tryz.prog w = .ok (.int .i64 (0 : Nat)) w := by kernel_rfl
   refine run_look_no (keyStr strU) mk_und hb hes ⟨_, rfl⟩ (fun x hx e => ?_) hz false
   simp only [ahE, List.mem_cons, List.not_mem_nil, or_false] at hx
   rcases hx with rfl | rfl
   ·simp only [Value.string.injEq] at e; exact e1 e.symm
   ·simp only [Value.string.injEq] at e; exact e2 e.symm
/-- Where a round begins: the word in its own cells. -/
def AxB (A : Array Value) (B' : Nat) (x : Nat × Wd) (a' : Act) (W : World) : Prop := ∃ Bx, B' ≤ Bx ∧ hrow W Bx (wdD x.2) 82 ∧ a' = { tmps := ((A.setIfInBounds 41 (.int .i64 x.1)).setIfInBounds 42 (.agg (wdD x.2))).setIfInBounds 7 (.pointer (some ⟨Bx, 0, none⟩)), defers := [] }
/-- The range over the signs ahead, from behind. -/
theorem wpIn_back {g : Operand} {assign body : Code} {Q : Exit → Act → World → Prop} {A : Array Value} {xb : World} {lb : Array Value} {ws : List Wd} {N : Nat} {L : List Wd} {B gr d jf G : Nat} {w : World} {q : Pt}
  (hg : Act.eval { tmps := A, defers := [] } g = .func (.func 210) #[] lb)
  (hseq : SeqStopsK Fence.wide 2 Tryz.prog 210 lb enB (KpC G) (fun xs => xs = backL ws) (fun _ => True) N xb)
  (hB : B ≤ w.heap.size) (hw : w.heap.size ≤ xb.heap.size) (h0 : BkI L B gr d jf G w q [] xb)
  (hassign : ∀ (l : Nat) (pre : List (Nat × Wd)) (x : Nat × Wd) (W : World) (K : Act → World → Prop), BkI L B gr d jf G w q pre W → (∀ Bx W', KeepsFrom xb.heap.size W W' → KpC G W W' → BkI L B gr d jf G w q pre W' → xb.heap.size ≤ Bx → hrow W' Bx (wdD x.2) 82 → K { tmps := ((A.setIfInBounds 41 (.int .i64 x.1)).setIfInBounds 42 (.agg (wdD x.2))).setIfInBounds 7 (.pointer (some ⟨Bx, 0, none⟩)), defers := [] } W') →
   xb.heap.size ≤ W.heap.size → assign.wpIn (Fence.wide.inRound l) 1 Tryz.prog (Exit.then K (fun _ _ _ => False)) { tmps := (A.setIfInBounds 41 (.int .i64 x.1)).setIfInBounds 42 (.agg (wdD x.2)), defers := [] } W)
  (hbody : ∀ (l : Nat) (pre : List (Nat × Wd)) (x : Nat × Wd) (Bx : Nat) (W : World), BkI L B gr d jf G w q pre W → xb.heap.size ≤ Bx → hrow W Bx (wdD x.2) 82 →
   body.wpIn (Fence.wide.inRound l) 1 Tryz.prog (ownPostG xb.heap.size (KpC G) (fun pre W => BkI L B gr d jf G w q pre W ∧ xb.heap.size ≤ W.heap.size) (fun _ _ _ => False) (pre ++ [x]) W) { tmps := ((A.setIfInBounds 41 (.int .i64 x.1)).setIfInBounds 42 (.agg (wdD x.2))).setIfInBounds 7 (.pointer (some ⟨Bx, 0, none⟩)), defers := [] } W)
  (hdone : ∀ (D : Nat) (W : World), xb.heap.size ≤ D → BkI L B gr d jf G w q (backL ws) W → W.heap[D]? = some (.deferred (some [])) → Q .normal { tmps := A, defers := [{ target := .collected D, args := #[] }] } W) :
  (Code.rangeFunc g #[41, 42] assign body).wpIn Fence.wide 3 Tryz.prog Q { tmps := A, defers := [] } xb := by
 refine wpIn_rangeFunc_ownH rfl (by omega) hg trivial (enters_of Tryz.func210 (by kernel_rfl) rfl) hseq kpC_t (fun W l o o' _ h hc _ => kpC_b W l o o' h hc) (Below.refl _ _) (fun _ => rfl)
  (fun pre W => BkI L B gr d jf G w q pre W ∧ xb.heap.size ≤ W.heap.size) (fun _ _ _ => False) ?own (fun _ _ _ _ _ h _ _ => h) ⟨h0, Nat.le_refl _⟩ (AxB A xb.heap.size) ?ax ?assign ?body ?done ?stop
 case own => exact OwnFrom.and (BkI.own hB hw) (fun _ _ _ _ h hg _ => Nat.le_trans h hg.size)
 case ax =>
  rintro x a' _ W W' row ⟨Bx, h1, h2, h3⟩ hg hr
  exact ⟨Bx, h1, h2.own hg hr, h3⟩
 case assign =>
  intro l pre x W K hI hK
  have h := hassign l pre x W K hI.1 (fun Bx W' h1 h2 h3 h4 h5 => hK _ W' h1 h2 ⟨h3, Nat.le_trans hI.2 h1.size⟩ ⟨Bx, h4, h5, rfl⟩) hI.2
  simp [enB]
  exact h
 case body =>
  rintro l pre x a' W _ _ hI ⟨Bx, h1, h2, rfl⟩ _
  exact hbody l pre x Bx W hI.1 h1 h2
 case done =>
  rintro D xs W hD rfl hI hK
  exact hdone D W hD hI.1 hK
 case stop =>
  rintro D c pre W hD _ h _
  exact h.elim
end Go.Proofs.YtgjhepblpdnkcaaGreatDoor
namespace Go.Proofs.YtgjhepblpdnkcaaGreatDoor
open Go.RowKit Go.Shelf Go.ChangeMaps
attribute [local go_sem] Oper.semAt_some
set_option maxRecDepth 100000
set_option maxHeartbeats 8000000

/-- While the rules are gone through from behind. -/
structure OpI (g1 g2 gm : Nat) (c1 c2 : Array Value) (w0 : World) (pre : List (Nat × Ru)) (W : World) : Prop where
 a : hrow W g1 c1 29
 b : hrow W g2 c2 86
 m : MapS W gm (putF pre)
 fr : Fr (fun k => k = gm) w0 W
theorem OpI.own {g1 g2 gm B' : Nat} {c1 c2 : Array Value} {w0 : World} (hw : w0.heap.size ≤ B') (hgm : gm < B') : OwnFrom B' (fun pre W => OpI g1 g2 gm c1 c2 w0 pre W) := by
 rintro pre W W' row ⟨h1, h2, h3, h4⟩ hg hr
 refine ⟨h1.own hg hr, h2.own hg hr, h3.block (hg.block gm h3.lt (fun e => by have := (hr _ e.symm).1; omega)), h4.trans (Fr.grown hg) (fun k hk e => by have := (hr k e).1; omega)⟩
theorem OpI.below {g1 g2 gm : Nat} {c1 c2 : Array Value} {w0 W W' : World} {pre : List (Nat × Ru)} (h : OpI g1 g2 gm c1 c2 w0 pre W) (hb : Below W.heap.size W W') : OpI g1 g2 gm c1 c2 w0 pre W' :=
 ⟨h.a.below hb, h.b.below hb, h.m.below hb, h.fr.trans (Fr.of_below (F := fun _ => False) hb) (fun _ _ e => e.elim)⟩
/-- A rule is put. -/
theorem OpI.more {g1 g2 gm B' : Nat} {c1 c2 : Array Value} {w0 W : World} {pre : List (Nat × Ru)} {x : Nat × Ru} {es : Array MapEntry} {clock : Nat} (h : OpI g1 g2 gm c1 c2 w0 pre W) (hgm : gm < B') (hne1 : g1 ≠ gm) (hne2 : g2 ≠ gm) (hm : MapS (setBlock W gm (.map es clock)) gm (fun u => if x.2.name = u then some x.1 else putF pre u)) :
  KeepsFrom B' W (setBlock W gm (.map es clock)) ∧ KpC gm W (setBlock W gm (.map es clock)) ∧ OpI g1 g2 gm c1 c2 w0 (pre ++ [x]) (setBlock W gm (.map es clock)) := by
 have hsz : (setBlock W gm (.map es clock)).heap.size = W.heap.size := by unfold setBlock; simp
 have hbk : ∀ k, k ≠ gm → (setBlock W gm (.map es clock)).heap[k]? = W.heap[k]? := fun k hk => by unfold setBlock; simp [Ne.symm hk]
 have hF : Fr (fun k => k = gm) W (setBlock W gm (.map es clock)) := ⟨rfl, rfl, rfl, by omega, fun k _ hk => hbk k hk⟩
 refine ⟨⟨hF.size, fun k o hk ho _ => (hbk k (by omega)).trans ho⟩, kpC_fr hF (fun _ e => e), h.a.fr hF hne1, h.b.fr hF hne2, ?_, h.fr.trans hF (fun _ _ e => e)⟩
 rw [putF_snoc]
 exact hm
/-- Where a round begins: the rule in its own cells. -/
def AxR (A : Array Value) (B' : Nat) (x : Nat × Ru) (a' : Act) (W : World) : Prop := ∃ Bx, B' ≤ Bx ∧ hrow W Bx (ruD x.2) 49 ∧ a' = { tmps := (((A.setIfInBounds 13 (.int .i64 x.1)).setIfInBounds 14 (.agg (ruD x.2))).setIfInBounds 4 (.int .i64 x.1)).setIfInBounds 5 (.pointer (some ⟨Bx, 0, none⟩)), defers := [] }
/-- The range over the rules, from behind. -/
theorem wpIn_backR {g : Operand} {assign body : Code} {Q : Exit → Act → World → Prop} {A : Array Value} {xb : World} {lb : Array Value} {R : List Ru} {N : Nat} {g1 g2 gm : Nat} {c1 c2 : Array Value}
  (hg : Act.eval { tmps := A, defers := [] } g = .func (.func 123) #[] lb)
  (hseq : SeqStopsK Fence.wide 2 Tryz.prog 123 lb enR (KpC gm) (fun xs => xs = backR R) (fun _ => True) N xb)
  (hgm : gm < xb.heap.size) (h0 : OpI g1 g2 gm c1 c2 xb [] xb)
  (hassign : ∀ (l : Nat) (pre : List (Nat × Ru)) (x : Nat × Ru) (W : World) (K : Act → World → Prop), OpI g1 g2 gm c1 c2 xb pre W → (∀ Bx W', KeepsFrom xb.heap.size W W' → KpC gm W W' → OpI g1 g2 gm c1 c2 xb pre W' → xb.heap.size ≤ Bx → hrow W' Bx (ruD x.2) 49 → K { tmps := (((A.setIfInBounds 13 (.int .i64 x.1)).setIfInBounds 14 (.agg (ruD x.2))).setIfInBounds 4 (.int .i64 x.1)).setIfInBounds 5 (.pointer (some ⟨Bx, 0, none⟩)), defers := [] } W') →
   xb.heap.size ≤ W.heap.size → assign.wpIn (Fence.wide.inRound l) 1 Tryz.prog (Exit.then K (fun _ _ _ => False)) { tmps := (A.setIfInBounds 13 (.int .i64 x.1)).setIfInBounds 14 (.agg (ruD x.2)), defers := [] } W)
  (hbody : ∀ (l : Nat) (pre : List (Nat × Ru)) (x : Nat × Ru) (Bx : Nat) (W : World), OpI g1 g2 gm c1 c2 xb pre W → xb.heap.size ≤ Bx → hrow W Bx (ruD x.2) 49 →
   body.wpIn (Fence.wide.inRound l) 1 Tryz.prog (ownPostG xb.heap.size (KpC gm) (fun pre W => OpI g1 g2 gm c1 c2 xb pre W ∧ xb.heap.size ≤ W.heap.size) (fun _ _ _ => False) (pre ++ [x]) W) { tmps := (((A.setIfInBounds 13 (.int .i64 x.1)).setIfInBounds 14 (.agg (ruD x.2))).setIfInBounds 4 (.int .i64 x.1)).setIfInBounds 5 (.pointer (some ⟨Bx, 0, none⟩)), defers := [] } W)
  (hdone : ∀ (D : Nat) (W : World), xb.heap.size ≤ D → OpI g1 g2 gm c1 c2 xb (backR R) W → W.heap[D]? = some (.deferred (some [])) → Q .normal { tmps := A, defers := [{ target := .collected D, args := #[] }] } W) :
  (Code.rangeFunc g #[13, 14] assign body).wpIn Fence.wide 3 Tryz.prog Q { tmps := A, defers := [] } xb := by
 refine wpIn_rangeFunc_ownH rfl (by omega) hg trivial (enters_of Tryz.func123 (by kernel_rfl) rfl) hseq kpC_t (fun W l o o' _ h hc _ => kpC_b W l o o' h hc) (Below.refl _ _) (fun _ => rfl)
  (fun pre W => OpI g1 g2 gm c1 c2 xb pre W ∧ xb.heap.size ≤ W.heap.size) (fun _ _ _ => False) ?own (fun _ _ _ _ _ h _ _ => h) ⟨h0, Nat.le_refl _⟩ (AxR A xb.heap.size) ?ax ?assign ?body ?done ?stop
 case own => exact OwnFrom.and (OpI.own (Nat.le_refl _) hgm) (fun _ _ _ _ h hg _ => Nat.le_trans h hg.size)
 case ax =>
  rintro x a' _ W W' row ⟨Bx, h1, h2, h3⟩ hg hr
  exact ⟨Bx, h1, h2.own hg hr, h3⟩
 case assign =>
  intro l pre x W K hI hK
  have h := hassign l pre x W K hI.1 (fun Bx W' h1 h2 h3 h4 h5 => hK _ W' h1 h2 ⟨h3, Nat.le_trans hI.2 h1.size⟩ ⟨Bx, h4, h5, rfl⟩) hI.2
  simp [enR]
  exact h
 case body =>
  rintro l pre x a' W _ _ hI ⟨Bx, h1, h2, rfl⟩ _
  exact hbody l pre x Bx W hI.1 h1 h2
 case done =>
  rintro D xs W hD rfl hI hK
  exact hdone D W hD hI.1 hK
 case stop =>
  rintro D c pre W hD _ h _
  exact h.elim
end Go.Proofs.YtgjhepblpdnkcaaGreatDoor
