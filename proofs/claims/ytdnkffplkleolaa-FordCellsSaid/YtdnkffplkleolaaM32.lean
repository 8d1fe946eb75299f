/- Walks and plain laws: Ph Pi CJ. -/
import Derived.Test.YtdnkffplkleolaaM03
import Derived.Test.YtdnkffplkleolaaM21
import Derived.Test.YtdnkffplkleolaaM05
namespace Go.Proofs.Ytdnkffplkleolaa

/-- A twig is the head of a cell's tree. -/
def CellOf (cs : List Ce) (x : Tw) : Prop := ∃ c ∈ cs, c.done = true ∧ (c.rule : Int) = x.rule ∧ (c.place : Int) = x.fr ∧ x.lev = 0 ∧ c.res.tree.head? = some x
def Inv (cs : List Ce) : Prop := ∀ c ∈ cs, (∀ x ∈ c.res.tree, CellOf cs x) ∧ (c.res.is = true → c.place ≤ c.res.en)
/-- What a match does to the cells: it puts more behind them, at its place or behind it; its twigs are of cells. -/
structure P2 (p : Nat) (s : St) (o : Rs × St) : Prop where
  pre : ∃ m, o.2.cells = s.cells ++ m ∧ ∀ c ∈ m, p ≤ c.place
  inv : Inv o.2.cells
  tr : ∀ x ∈ o.1.tree, CellOf o.2.cells x
  en : o.1.is = true → p ≤ o.1.en
theorem CellOf.more {cs m : List Ce} {x : Tw} (h : CellOf cs x) : CellOf (cs ++ m) x := by
  obtain ⟨c, h1, h2⟩ := h; exact ⟨c, List.mem_append_left _ h1, h2⟩
theorem P2.stay {p : Nat} {s : St} {r : Rs} {s' : St} (hi : Inv s.cells) (hs : s'.cells = s.cells) (ht : r.tree = []) (he : r.is = true → p ≤ r.en) : P2 p s (r, s') :=
  ⟨⟨[], by simp [hs], by simp⟩, by show Inv s'.cells; rw [hs]; exact hi, by show ∀ x ∈ r.tree, _; simp [ht], he⟩
/-- One match behind another one. -/
theorem P2.chain {p q : Nat} {s : St} {a b : Rs × St} (h : P2 p s a) (k : P2 q a.2 b) (hq : p ≤ q) : (∃ m, b.2.cells = s.cells ++ m ∧ ∀ c ∈ m, p ≤ c.place) ∧ Inv b.2.cells ∧ (∀ x ∈ a.1.tree, CellOf b.2.cells x) ∧ ∀ x ∈ b.1.tree, CellOf b.2.cells x := by
  obtain ⟨m, h1, h2⟩ := h.pre
  obtain ⟨m', h3, h4⟩ := k.pre
  refine ⟨⟨m ++ m', by rw [h3, h1, List.append_assoc], fun c hc => ?_⟩, k.inv, fun x hx => by rw [h3]; exact (h.tr x hx).more, k.tr⟩
  rcases List.mem_append.1 hc with hc | hc
  · exact h2 c hc
  · have := h4 c hc; omega
section
variable {E : St → Nat → Nat → Rs × St} (hE : ∀ s n p, Inv s.cells → P2 p s (E s n p))
include hE
theorem seqR_p2 : ∀ (ks : List Int) (p : Nat) (s0 s : St) (r : Rs), P2 p s0 (r, s) → r.is = true → P2 p s0 (seqR E ks r s)
  | [], p, s0, s, r, h, hi => h
  | k :: ks, p, s0, s, r, h, hi => by
    have H := hE s k.toNat r.en h.inv
    obtain ⟨t1, t2, t3, t4⟩ := h.chain H (h.en hi)
    rw [seqR]
    by_cases hx : (E s k.toNat r.en).1.is = true
    · rw [if_pos hx]
      refine seqR_p2 ks p s0 _ _ ⟨t1, t2, fun x hx => ?_, fun _ => ?_⟩ rfl
      · rcases List.mem_append.1 hx with hx | hx
        · exact t3 x hx
        · exact t4 x hx
      · have := h.en hi; have h2 := H.en hx; exact Nat.le_trans this h2
    · rw [if_neg hx]
      exact ⟨t1, t2, by simp [failR], fun h => by simp [failR] at h⟩
theorem altR_p2 (p : Nat) : ∀ (ks : List Int) (far : Int) (s0 s : St), (∃ m, s.cells = s0.cells ++ m ∧ ∀ c ∈ m, p ≤ c.place) → Inv s.cells → P2 p s0 (altR E p ks far s)
  | [], far, s0, s, hp, hi => by
    rw [altR]; exact ⟨hp, hi, by simp [failR], fun h => by simp [failR] at h⟩
  | k :: ks, far, s0, s, hp, hi => by
    have H := hE s k.toNat p hi
    have h0 : P2 p s0 (failR 0, s) := ⟨hp, hi, by simp [failR], fun h => by simp [failR] at h⟩
    obtain ⟨t1, t2, t3, t4⟩ := h0.chain H (Nat.le_refl _)
    rw [altR]
    by_cases hx : (E s k.toNat p).1.is = true
    · rw [if_pos hx]
      exact ⟨t1, t2, t4, fun _ => H.en hx⟩
    · rw [if_neg hx]
      exact altR_p2 p ks _ s0 _ t1 t2
theorem starR_p2 (k : Nat) : ∀ (f p : Nat) (s0 s : St) (r : Rs), P2 p s0 (r, s) → r.is = true → P2 p s0 (starR E k f r s)
  | 0, p, s0, s, r, h, hi => by rw [starR]; exact h
  | f + 1, p, s0, s, r, h, hi => by
    have H := hE s k r.en h.inv
    obtain ⟨t1, t2, t3, t4⟩ := h.chain H (h.en hi)
    rw [starR]
    by_cases hx : (E s k r.en).1.is = true ∧ (E s k r.en).1.en ≠ r.en
    · rw [if_pos hx]
      refine starR_p2 k f p s0 _ _ ⟨t1, t2, fun x hx' => ?_, fun _ => ?_⟩ rfl
      · rcases List.mem_append.1 hx' with hx' | hx'
        · exact t3 x hx'
        · exact t4 x hx'
      · exact Nat.le_trans (h.en hi) (H.en hx.1)
    · rw [if_neg hx]
      exact ⟨t1, t2, t3, fun h' => h.en hi⟩
theorem new_p2 (rule p n : Nat) (s : St) (hi : Inv s.cells) : P2 p s (ownR rule p (E (open0 rule p s) n p).1, shut rule p s.cells.length (E (open0 rule p s) n p).1 (E (open0 rule p s) n p).2) := by
  have hio : Inv (open0 rule p s).cells := by
    intro c hc
    rcases List.mem_append.1 hc with hc | hc
    · exact ⟨fun x hx => ((hi c hc).1 x hx).more, (hi c hc).2⟩
    · simp only [List.mem_singleton] at hc; subst hc; exact ⟨by simp [failR], by simp [failR]⟩
  have H := hE (open0 rule p s) n p hio
  obtain ⟨m, hm, hmp⟩ := H.pre
  generalize E (open0 rule p s) n p = o at *
  obtain ⟨x, s'⟩ := o
  simp only [open0] at hm
  have hset : (shut rule p s.cells.length x s').cells = s.cells ++ ⟨rule, p, true, ownR rule p x⟩ :: m := by
    simp only [shut, hm]
    rw [List.append_assoc, List.set_append_right _ _ (Nat.le_refl _), Nat.sub_self]
    rfl
  have hcell : ∀ y, CellOf s'.cells y → CellOf (shut rule p s.cells.length x s').cells y := by
    rintro y ⟨c, hc, hd, hr⟩
    refine ⟨c, ?_, hd, hr⟩
    rw [hm, List.append_assoc] at hc
    rw [hset]
    rcases List.mem_append.1 hc with hc | hc
    · exact List.mem_append_left _ hc
    · rcases List.mem_cons.1 hc with rfl | hc
      · simp at hd
      · exact List.mem_append_right _ (List.mem_cons_of_mem _ hc)
  have hown : ∀ y ∈ (ownR rule p x).tree, CellOf (shut rule p s.cells.length x s').cells y := by
    intro y hy
    unfold ownR at hy
    by_cases hx : x.is = true
    · rw [if_pos hx] at hy
      rcases List.mem_cons.1 hy with rfl | hy
      · refine ⟨⟨rule, p, true, ownR rule p x⟩, by rw [hset]; simp, rfl, rfl, rfl, rfl, ?_⟩
        show (ownR rule p x).tree.head? = _
        unfold ownR; rw [if_pos hx]; rfl
      · exact hcell y (H.tr y hy)
    · rw [if_neg hx] at hy; exact hcell y (H.tr y hy)
  have hen : (ownR rule p x).is = true → p ≤ (ownR rule p x).en := fun h => by
    unfold ownR at h ⊢
    by_cases hx : x.is = true
    · rw [if_pos hx]; exact H.en hx
    · rw [if_neg hx] at h; exact absurd h hx
  refine ⟨⟨_ :: m, hset, fun c hc => ?_⟩, ?_, hown, hen⟩
  · rcases List.mem_cons.1 hc with rfl | hc
    · exact Nat.le_refl _
    · exact hmp c hc
  · intro c hc
    have hc : c ∈ (shut rule p s.cells.length x s').cells := hc
    have old : c ∈ s'.cells → (∀ y ∈ c.res.tree, CellOf (shut rule p s.cells.length x s').cells y) ∧ (c.res.is = true → c.place ≤ c.res.en) := fun h => ⟨fun y hy => hcell y ((H.inv c h).1 y hy), (H.inv c h).2⟩
    rw [hset] at hc
    rcases List.mem_append.1 hc with hc | hc
    · exact old (by rw [hm]; simp [hc])
    · rcases List.mem_cons.1 hc with rfl | hc
      · exact ⟨hown, hen⟩
      · exact old (by rw [hm]; simp [hc])
theorem callR_p2 (G : Gr) (rule p : Nat) (s : St) (hi : Inv s.cells) : P2 p s (callR E G rule p s) := by
  unfold callR
  cases hf : s.cells.find? (keyB rule p) with
  | some c =>
    obtain ⟨h1, h2, h3⟩ := find_some hf
    exact ⟨⟨[], by simp, by simp⟩, hi, fun x hx => (hi c h1).1 x hx, fun h => h3 ▸ (hi c h1).2 h⟩
  | none => exact new_p2 hE rule p _ s hi
theorem kindR_p2 (G : Gr) (W : List Nat) (x : Nd) (p : Nat) (s : St) (hi : Inv s.cells) : P2 p s (kindR E G W x p s) := by
  unfold kindR
  by_cases k1 : x.kind = 1
  · rw [if_pos k1]; exact .stay hi rfl rfl (fun _ => Nat.le_refl _)
  rw [if_neg k1]
  by_cases k2 : x.kind = 2
  · rw [if_pos k2]; unfold anyR
    by_cases h : p < W.length
    · rw [if_pos h]; exact .stay hi rfl rfl (fun _ => Nat.le_succ _)
    · rw [if_neg h]; exact .stay hi rfl rfl (fun h => by simp [failR] at h)
  rw [if_neg k2]
  by_cases k3 : x.kind = 3
  · rw [if_pos k3]; unfold setR
    cases W[p]? with
    | none => exact .stay hi rfl rfl (fun h => by simp [failR] at h)
    | some b =>
      simp only []
      by_cases h : hasB x b = true
      · rw [if_pos h]; exact .stay hi rfl rfl (fun _ => Nat.le_succ _)
      · rw [if_neg h]; exact .stay hi rfl rfl (fun h => by simp [failR] at h)
  rw [if_neg k3]
  by_cases k4 : x.kind = 4
  · rw [if_pos k4]; unfold txtR
    cases (List.range x.text.size).find? (fun i => !txtAt W x.text p i) with
    | some i => exact .stay hi rfl rfl (fun h => by simp [failR] at h)
    | none => exact .stay hi rfl rfl (fun _ => Nat.le_add_right _ _)
  rw [if_neg k4]
  by_cases k5 : x.kind = 5
  · rw [if_pos k5]; exact callR_p2 hE G _ p s hi
  rw [if_neg k5]
  have h0 : P2 p s (toR p, s) := .stay hi rfl rfl (fun _ => Nat.le_refl _)
  by_cases k6 : x.kind = 6
  · rw [if_pos k6]; exact seqR_p2 hE _ p s s _ h0 rfl
  rw [if_neg k6]
  by_cases k7 : x.kind = 7
  · rw [if_pos k7]; exact altR_p2 hE p _ _ s s ⟨[], by simp, by simp⟩ hi
  rw [if_neg k7]
  by_cases k8 : x.kind = 8
  · rw [if_pos k8]; exact starR_p2 hE _ _ p s s _ h0 rfl
  rw [if_neg k8]
  have H := hE s (x.kids.headD 0).toNat p hi
  generalize E s (x.kids.headD 0).toNat p = o at *
  obtain ⟨r, s'⟩ := o
  simp only []
  by_cases k9 : x.kind = 9
  · rw [if_pos k9]
    by_cases h : r.is = true
    · rw [if_pos h]; exact starR_p2 hE _ _ p s _ _ H h
    · rw [if_neg h]; exact H
  rw [if_neg k9]
  by_cases k10 : x.kind = 10
  · rw [if_pos k10]
    by_cases h : r.is = true
    · rw [if_pos h]; exact H
    · rw [if_neg h]; exact ⟨H.pre, H.inv, by simp, fun _ => Nat.le_refl _⟩
  rw [if_neg k10]
  by_cases h : r.is = decide (x.kind = 12)
  · rw [if_pos h]; exact ⟨H.pre, H.inv, by simp, fun _ => Nat.le_refl _⟩
  · rw [if_neg h]; exact ⟨H.pre, H.inv, by simp [failR], fun h => by simp [failR] at h⟩
end
theorem ev_p2 (G : Gr) (W : List Nat) : ∀ (f : Nat) (s : St) (n p : Nat), Inv s.cells → P2 p s (ev G W f s n p)
  | 0, s, n, p, hi => by simp only [ev]; exact .stay hi rfl rfl (fun h => by simp [failR] at h)
  | f + 1, s, n, p, hi => by
    simp only [ev]
    by_cases h : s.round = true ∨ (over1 s).over = true
    · rw [if_pos h]; exact .stay hi rfl rfl (fun h => by simp [failR] at h)
    · rw [if_neg h]
      cases G.nodes[n]? with
      | none => exact .stay hi rfl rfl (fun h => by simp [failR] at h)
      | some x =>
        have h := kindR_p2 (ev_p2 G W f) G W x p (less1 (over1 s)) hi
        exact ⟨h.pre, h.inv, h.tr, h.en⟩

/-- What is told of a match that did not go round. -/
structure Fine (R L rule p : Nat) (o : Rs × St) : Prop where
  nodup : (o.2.cells.map key).Nodup
  cell : ∀ c ∈ o.2.cells, c.rule < R ∧ p ≤ c.place ∧ c.place ≤ L
  one : 1 ≤ o.2.cells.length
  tr : ∀ x ∈ o.1.tree, CellOf o.2.cells x
  rs : RsOk L p o.1
  top : o.1.is = true → ∃ t m, o.1.tree = ⟨rule, 0, p, o.1.en, m⟩ :: t ∧ o.1.roots = 1
end Go.Proofs.Ytdnkffplkleolaa
namespace Go.Proofs.Ytdnkffplkleolaa

theorem fine_of {G : Gr} {W : List Nat} {rule p : Nat} (hG : GOk G) (hr : rule < G.rules.length) (hp : p ≤ W.length) : Fine G.rules.length W.length rule p (callR (ev G W 20000) G rule p ⟨[], false, 20000, false⟩) := by
  have hE : ∀ s n p, StOk G.rules.length W.length s → n < G.nodes.length → p ≤ W.length → Post G.rules.length W.length p s (ev G W 20000 s n p) := fun s n p h1 h2 h3 => ev_ok hG 20000 s n p h1 h2 h3
  have H := callR_ok hE hG rule p ⟨[], false, 20000, false⟩ ⟨fun c hc => (by cases hc), by simp⟩ rfl hr hp
  have K := callR_p2 (E := ev G W 20000) (fun s n p h => ev_p2 G W 20000 s n p h) G rule p ⟨[], false, 20000, false⟩ (fun c hc => (by cases hc))
  obtain ⟨m, hm, hmp⟩ := K.pre
  have hone : 1 ≤ (callR (ev G W 20000) G rule p ⟨[], false, 20000, false⟩).2.cells.length ∧ ∃ r, (callR (ev G W 20000) G rule p ⟨[], false, 20000, false⟩).1 = ownR rule p r := by
    unfold callR
    have hf : ([] : List Ce).find? (keyB rule p) = none := rfl
    rw [hf]
    simp only []
    rw [List.getElem?_eq_getElem hr]
    simp only []
    generalize (G.rules[rule]'hr).body.toNat = n
    refine ⟨?_, _, rfl⟩
    obtain ⟨m', hm', _⟩ := (ev_p2 G W 20000 (open0 rule p ⟨[], false, 20000, false⟩) n p (by
      intro c hc
      simp only [open0, List.nil_append, List.mem_singleton] at hc
      subst hc; exact ⟨by simp [failR], by simp [failR]⟩)).pre
    simp only [shut, List.length_set]
    rw [hm']
    simp [open0]
  refine ⟨H.st.nd, fun c hc => ?_, hone.1, K.tr, H.rs, fun hi => ?_⟩
  · have h1 := H.st.ce c hc
    rw [hm] at hc
    exact ⟨h1.rule, hmp c (by simpa using hc), h1.place⟩
  · obtain ⟨r, hr'⟩ := hone.2
    rw [hr'] at hi ⊢
    unfold ownR at hi ⊢
    by_cases h : r.is = true
    · rw [if_pos h]; exact ⟨r.tree, r.roots, rfl, rfl⟩
    · rw [if_neg h] at hi; exact absurd hi h

def sameK (x y : Tw) : Bool := x.rule == y.rule && x.fr == y.fr
def isFst (t : List Tw) (i : Nat) : Bool := match t[i]? with | some x => (t.take i).all (fun y => !sameK y x) | none => false
def fsts (t : List Tw) (m : Nat) : Nat := ((List.range m).filter (isFst t)).length
theorem fsts_succ (t : List Tw) (m : Nat) : fsts t (m + 1) = fsts t m + if isFst t m then 1 else 0 := by
  unfold fsts
  rw [List.range_succ, List.filter_append, List.length_append]
  congr 1
  by_cases h : isFst t m = true
  · simp [h]
  · simp [h]

section
variable {R L rule p : Nat} {o : Rs × St} (h : Fine R L rule p o)
include h
theorem Fine.cnt (hp : p ≤ L) : o.2.cells.length ≤ R * (L - p + 1) := by
  have hl : ((List.range R).flatMap fun r => (List.range (L + 1 - p)).map fun q => (r, p + q)).length = R * (L + 1 - p) := by
    rw [List.length_flatMap]
    simp only [List.length_map, List.length_range]
    rw [List.map_const', List.sum_replicate_nat, List.length_range]
  have hs := List.Nodup.length_le_of_subset h.nodup (l₂ := (List.range R).flatMap fun r => (List.range (L + 1 - p)).map fun q => (r, p + q)) (fun k hk => by
    obtain ⟨c, hc, rfl⟩ := List.mem_map.1 hk
    obtain ⟨h1, h2, h3⟩ := h.cell c hc
    refine List.mem_flatMap.2 ⟨c.rule, List.mem_range.2 h1, List.mem_map.2 ⟨c.place - p, List.mem_range.2 (by omega), ?_⟩⟩
    unfold key
    rw [show p + (c.place - p) = c.place by omega])
  rw [hl, List.length_map] at hs
  rw [show L - p + 1 = L + 1 - p by omega]; exact hs
theorem Fine.lev {x : Tw} (hx : x ∈ o.1.tree) : x.lev = 0 := by obtain ⟨c, _, _, _, _, h5, _⟩ := h.tr x hx; exact h5
theorem Fine.uniq {x y : Tw} (hx : x ∈ o.1.tree) (hy : y ∈ o.1.tree) (h1 : x.rule = y.rule) (h2 : x.fr = y.fr) : x = y := by
  obtain ⟨c, c1, _, c3, c4, _, c6⟩ := h.tr x hx
  obtain ⟨d, d1, _, d3, d4, _, d6⟩ := h.tr y hy
  have hk : key c = key d := by unfold key; rw [Prod.mk.injEq]; omega
  have hcd : c = d := by
    obtain ⟨i, hi, ei⟩ := List.getElem_of_mem c1
    obtain ⟨j, hj, ej⟩ := List.getElem_of_mem d1
    have hij : i = j := by
      have hn := List.pairwise_iff_getElem.1 h.nodup
      rcases Nat.lt_trichotomy i j with hlt | heq | hlt
      · exact (hn i j (by simpa using hi) (by simpa using hj) hlt (by rw [List.getElem_map, List.getElem_map, ei, ej]; exact hk)).elim
      · exact heq
      · exact (hn j i (by simpa using hj) (by simpa using hi) hlt (by rw [List.getElem_map, List.getElem_map, ei, ej]; exact hk.symm)).elim
    subst hij; rw [← ei, ← ej]
  subst hcd
  rw [c6] at d6
  exact Option.some.inj d6
theorem Fine.fsts : Go.Proofs.Ytdnkffplkleolaa.fsts o.1.tree o.1.tree.length ≤ o.2.cells.length := by
  have hn : (((List.range o.1.tree.length).filter (isFst o.1.tree)).map fun i => ((o.1.tree.getD i ⟨0, 0, 0, 0, 0⟩).rule, (o.1.tree.getD i ⟨0, 0, 0, 0, 0⟩).fr)).Nodup := by
    refine List.pairwise_map.2 (List.Pairwise.imp_of_mem ?_ (List.Pairwise.filter _ List.pairwise_lt_range))
    intro i j hi hj hlt heq
    have hjl := List.mem_range.1 (List.mem_filter.1 hj).1
    have hil := List.mem_range.1 (List.mem_filter.1 hi).1
    have hf := (List.mem_filter.1 hj).2
    unfold isFst at hf
    rw [List.getElem?_eq_getElem hjl] at hf
    simp only [List.all_eq_true] at hf
    have hm := hf o.1.tree[i] (List.mem_take_iff_getElem.2 ⟨i, by omega, rfl⟩)
    simp only [Prod.mk.injEq, List.getD_eq_getElem?_getD, List.getElem?_eq_getElem hil, List.getElem?_eq_getElem hjl, Option.getD_some] at heq
    simp [sameK, heq.1, heq.2] at hm
  have hs := List.Nodup.length_le_of_subset hn (l₂ := o.2.cells.map fun c => ((c.rule : Int), (c.place : Int))) (fun k hk => by
    obtain ⟨i, hi, rfl⟩ := List.mem_map.1 hk
    have hi := List.mem_range.1 (List.mem_filter.1 hi).1
    obtain ⟨c, c1, _, c3, c4, _⟩ := h.tr _ (List.getElem_mem hi)
    refine List.mem_map.2 ⟨c, c1, ?_⟩
    simp [List.getD_eq_getElem?_getD, hi, c3, c4])
  simpa [Go.Proofs.Ytdnkffplkleolaa.fsts] using hs
end
end Go.Proofs.Ytdnkffplkleolaa
namespace Go.Proofs.Ytdnkffplkleolaa
open Go.RowKit

set_option maxRecDepth 100000 in
set_option maxHeartbeats 1000000 in
theorem hasTw_any (w : World) (ao : Option Addr) (cap n : Nat) (t : List Tw) (hs : Sv w ao n cap 5 (t.flatMap twc)) (hn : n ≤ 1000000) (hk : ∀ x ∈ t, 0 ≤ x.kids ∧ x.kids ≤ 1000000) (hf : forestB t = true) (p : Nat) (hp : p < n) :
    Calls Try.prog 24 #[.slice ao n cap, .int .i64 p] w fun r w' => r = .returned (.bool true) ∧ Below w.heap.size w w' := by
  have HF := Lib.hid (forest_any w ao cap n t hs hn (fun x hx => (hk x hx).2))
  rw [hf] at HF
  clear hs hk hf
  have hp0 : (p : Int) < n := by omega
  go_enter Try.func24, Try.ntmps24
  go_wp2_with fail
  refine HF.out.mono ?_
  rintro e w2 ⟨rfl, hb2⟩
  have HB2 := Lib.hid hb2; clear hb2
  go_wp2_with fail
  go_ret
  exact ⟨rfl, HB2.out⟩

set_option maxRecDepth 100000 in
set_option maxHeartbeats 1000000 in
theorem sizeTw_any (w : World) (ao : Option Addr) (cap n : Nat) (t : List Tw) (hs : Sv w ao n cap 5 (t.flatMap twc)) (hn : n ≤ 1000000) (hk : ∀ x ∈ t, 0 ≤ x.kids ∧ x.kids ≤ 1000000) (hf : forestB t = true) (p d : Nat) (hp : p < n) (hd : afT 1 (t.drop p) = some d) (hd1 : d ≤ 1000000) :
    Calls Try.prog 10 #[.slice ao n cap, .int .i64 p] w fun r w' => r = .returned (.int .i64 d) ∧ Below w.heap.size w w' := by
  have HH := Lib.hid (hasTw_any w ao cap n t hs hn hk hf p hp)
  have HA := Lib.hid (fun w' (hb : Below w.heap.size w w') => after_any w' ao cap n t (hs.below hb) hn hk p d hd (Nat.le_of_lt hp))
  clear hs hk hf hd
  go_enter Try.func10, Try.ntmps10
  go_wp2_with fail
  refine HH.out.mono ?_
  rintro e w2 ⟨rfl, hb2⟩
  have HB2 := Lib.hid hb2; clear hb2
  go_wp2_with fail
  refine (HA.out _ HB2.out).mono ?_
  rintro e w3 ⟨rfl, rfl⟩
  go_wp2_with fail
  go_ret
  exact ⟨ret_int (by omega), HB2.out⟩
end Go.Proofs.Ytdnkffplkleolaa
