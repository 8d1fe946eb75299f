/- Walks and plain laws: Pe W1 W2 Ra C9. -/
import Derived.Test.YtdnkffplkleolaaM02
import Derived.Test.YtdnkffplkleolaaM01
import Derived.Test.YtdnkffplkleolaaProg
import Derived.ChangeKeysEq
import Derived.Lib.Strings
import Derived.WalkLawsBesides
import Derived.WalkSpells
import Derived.BigRegion
import Derived.BigQuiet
namespace Go.Proofs.Ytdnkffplkleolaa

theorem RsOk.fail {L p : Nat} {far : Int} (h1 : -1 ≤ far) (h2 : far ≤ L) : RsOk L p (failR far) := ⟨h1, h2, fun h => (nomatch h), fun _ => ⟨rfl, rfl, rfl⟩⟩
theorem RsOk.at {L p : Nat} {far : Int} (h1 : -1 ≤ far) (h2 : far ≤ L) {e : Nat} (hp : p ≤ e) (he : e ≤ L) : RsOk L p ⟨true, e, far, [], 0⟩ := ⟨h1, h2, fun _ => ⟨he, .nil hp⟩, fun h => (nomatch h)⟩
theorem RsOk.be {L p : Nat} {a b : Rs} (ha : RsOk L p a) (hia : a.is = true) (hb : RsOk L a.en b) (hib : b.is = true) : RsOk L p (beR a b) :=
 ⟨by have := ha.lo; simp only [beR]; omega, by have := ha.hi; have := hb.hi; simp only [beR]; omega, fun _ => ⟨(hb.yes hib).1, (ha.yes hia).2.app (hb.yes hib).2⟩, fun h => (nomatch h)⟩
theorem RsOk.tri {L p : Nat} {a : Rs} {far : Int} (ha : RsOk L p a) (h2 : far ≤ L) : RsOk L p (triR a far) :=
 ⟨by have := ha.lo; simp only [triR]; omega, by have := ha.hi; simp only [triR]; omega, ha.yes, ha.no⟩
theorem RsOk.far {L p : Nat} {a : Rs} {far : Int} (ha : RsOk L p a) (h2 : far ≤ L) : RsOk L p { a with far := max far a.far } :=
 ⟨by have := ha.lo; simp only []; omega, by have := ha.hi; simp only []; omega, ha.yes, ha.no⟩

/-- The same, from what stood. -/
structure PostR (R L p k c : Nat) (s : St) (o : Rs × St) : Prop where
 st : StOk R L o.2
 left : o.2.left ≤ s.left
 over : s.over = true → o.2.over = true
 round : s.round = true → o.2.round = true
 keys : ∃ m, o.2.cells.map key = s.cells.map key ++ m
 cnt : o.2.cells.length + o.2.left ≤ s.cells.length + s.left + c
 rs : RsOk L p o.1
 len : o.1.tree.length + 2001 * o.2.left ≤ 2001 * s.left + k
theorem PostR.step {R L p k : Nat} {s : St} {o : Rs × St} (h : PostR R L p k 0 s o) : Step s o.2 := ⟨h.left, h.over, h.round, h.keys, by have := h.cnt; omega⟩

section
variable {R L N : Nat} {E : St → Nat → Nat → Rs × St} (hE : ∀ s n p, StOk R L s → n < N → p ≤ L → Post R L p s (E s n p))
include hE

theorem seqR_ok : ∀ (ks : List Int) (p : Nat) (r : Rs) (s : St), StOk R L s → (∀ k ∈ ks, 0 ≤ k ∧ k < N) → RsOk L p r → r.is = true → PostR R L p r.tree.length 0 s (seqR E ks r s)
 | [], p, r, s, hs, _, hr, _ => ⟨hs, Nat.le_refl _, id, id, ⟨[], by simp [seqR]⟩, Nat.le_refl _, hr, by simp only [seqR]; omega⟩
 | k :: ks, p, r, s, hs, hk, hr, hi => by
  have hk0 := hk k (by simp)
  have H := hE s k.toNat r.en hs (by omega) (hr.yes hi).1
  rw [seqR]
  by_cases hx : (E s k.toNat r.en).1.is = true
  ·rw [if_pos hx]
   have ih := seqR_ok ks p (beR r (E s k.toNat r.en).1) (E s k.toNat r.en).2 H.st (fun j hj => hk j (by simp [hj])) (hr.be hi H.rs hx) rfl
   have st := H.step.trans ih.step
   exact ⟨ih.st, st.left, st.over, st.round, st.keys, st.cnt, ih.rs, by have := ih.len; have := H.len; simp only [beR, List.length_append] at *; omega⟩
  ·rw [if_neg hx]
   exact ⟨H.st, H.step.left, H.step.over, H.step.round, H.step.keys, H.step.cnt, .fail (by have := hr.lo; omega) (by have := hr.hi; have := H.rs.hi; omega), by have := H.step.left; simp only [failR, List.length_nil]; omega⟩
theorem altR_ok (p : Nat) (hp : p ≤ L) : ∀ (ks : List Int) (far : Int) (s : St), StOk R L s → (∀ k ∈ ks, 0 ≤ k ∧ k < N) → -1 ≤ far → far ≤ L → PostR R L p 0 0 s (altR E p ks far s)
 | [], far, s, hs, _, h1, h2 => ⟨hs, Nat.le_refl _, id, id, ⟨[], by simp [altR]⟩, Nat.le_refl _, .fail h1 h2, by simp [altR, failR]⟩
 | k :: ks, far, s, hs, hk, h1, h2 => by
  have hk0 := hk k (by simp)
  have H := hE s k.toNat p hs (by omega) hp
  have hh := H.rs.hi
  rw [altR]
  by_cases hx : (E s k.toNat p).1.is = true
  ·rw [if_pos hx]
   exact ⟨H.st, H.step.left, H.step.over, H.step.round, H.step.keys, H.step.cnt, H.rs.far h2, H.len⟩
  ·rw [if_neg hx]
   have ih := altR_ok p hp ks (max far (E s k.toNat p).1.far) (E s k.toNat p).2 H.st (fun j hj => hk j (by simp [hj])) (by omega) (by omega)
   have st := H.step.trans ih.step
   exact ⟨ih.st, st.left, st.over, st.round, st.keys, st.cnt, ih.rs, by have := ih.len; have := H.step.left; omega⟩
theorem starR_ok (k : Nat) (hk : k < N) : ∀ (f p : Nat) (r : Rs) (s : St), StOk R L s → RsOk L p r → r.is = true → PostR R L p r.tree.length 0 s (starR E k f r s)
 | 0, p, r, s, hs, hr, _ => ⟨hs, Nat.le_refl _, id, id, ⟨[], by simp [starR]⟩, Nat.le_refl _, hr, by simp only [starR]; omega⟩
 | f + 1, p, r, s, hs, hr, hi => by
  have H := hE s k r.en hs hk (hr.yes hi).1
  rw [starR]
  by_cases hx : (E s k r.en).1.is = true ∧ (E s k r.en).1.en ≠ r.en
  ·rw [if_pos hx]
   have ih := starR_ok k hk f p (beR r (E s k r.en).1) (E s k r.en).2 H.st (hr.be hi H.rs hx.1) rfl
   have st := H.step.trans ih.step
   exact ⟨ih.st, st.left, st.over, st.round, st.keys, st.cnt, ih.rs, by have := ih.len; have := H.len; simp only [beR, List.length_append] at *; omega⟩
  ·rw [if_neg hx]
   exact ⟨H.st, H.step.left, H.step.over, H.step.round, H.step.keys, H.step.cnt, hr.tri H.rs.hi, by have := H.step.left; simp only [triR]; omega⟩
end

theorem find_none {cells : List Ce} {rule p : Nat} (h : cells.find? (keyB rule p) = none) : (rule, p) ∉ cells.map key := by
 intro hm
 obtain ⟨c, hc, e⟩ := List.mem_map.1 hm
 have := List.find?_eq_none.1 h c hc
 simp only [key, Prod.mk.injEq] at e
 simp [keyB, e.1, e.2] at this
theorem find_some {cells : List Ce} {rule p : Nat} {c : Ce} (h : cells.find? (keyB rule p) = some c) : c ∈ cells ∧ c.rule = rule ∧ c.place = p := by
 have h1 := List.mem_of_find?_eq_some h
 have h2 := List.find?_some h
 simp only [keyB, Bool.and_eq_true, beq_iff_eq] at h2
 exact ⟨h1, h2⟩

theorem RsOk.own {L p ru : Nat} {x : Rs} (h : RsOk L p x) : RsOk L p (ownR ru p x) := by
 unfold ownR
 cases hx : x.is
 ·simpa using h
 ·have := h.yes hx
  exact ⟨h.lo, h.hi, fun _ => ⟨this.1, this.2.twig ru⟩, fun h => (nomatch h)⟩
theorem ownR_len {p ru : Nat} {x : Rs} : (ownR ru p x).tree.length ≤ x.tree.length + 1 := by
 unfold ownR
 split <;> simp

section
variable {G : Gr} {L : Nat} {E : St → Nat → Nat → Rs × St} (hE : ∀ s n p, StOk G.rules.length L s → n < G.nodes.length → p ≤ L → Post G.rules.length L p s (E s n p))

theorem open0_ok {R L rule p : Nat} {s : St} (hs : StOk R L s) (hr : rule < R) (hp : p ≤ L) (hf : s.cells.find? (keyB rule p) = none) : StOk R L (open0 rule p s) := by
 refine ⟨fun c hc => ?_, ?_⟩
 ·rcases List.mem_append.1 hc with hc | hc
  ·exact hs.ce c hc
  ·simp only [List.mem_singleton] at hc
   subst hc
   exact ⟨hr, hp, .fail (by decide) (by omega), fun _ => rfl, .inr (by simp [failR])⟩
 ·simp only [open0, List.map_append, List.map_cons, List.map_nil]
  rw [List.nodup_append]
  refine ⟨hs.nd, by simp, ?_⟩
  intro a ha b hb e
  simp only [List.mem_singleton] at hb
  subst hb; subst e
  exact find_none hf ha
theorem key_at {s s' : St} {rule p : Nat} (h : ∃ m, s'.cells.map key = (open0 rule p s).cells.map key ++ m) : s.cells.length < s'.cells.length ∧ (s'.cells.map key)[s.cells.length]? = some (rule, p) := by
 obtain ⟨m, hm⟩ := h
 have hl := congrArg List.length hm
 simp only [List.length_map, open0, List.length_append, List.length_cons, List.length_nil] at hl
 refine ⟨by omega, ?_⟩
 rw [hm]
 simp [open0, key]
theorem map_key_set {cells : List Ce} {k rule p : Nat} {d : Bool} {r : Rs} (h : (cells.map key)[k]? = some (rule, p)) : (cells.set k ⟨rule, p, d, r⟩).map key = cells.map key := by
 rw [List.map_set]
 apply List.ext_getElem?
 intro i
 by_cases hi : k = i
 ·subst hi
  rw [h, List.getElem?_set_self (by have := (List.getElem?_eq_some_iff.1 h).1; exact this)]
  rfl
 ·rw [List.getElem?_set_ne hi]
theorem shut_ok {R L rule p : Nat} {s s' : St} {x : Rs} (hs' : StOk R L s') (hr : rule < R) (hp : p ≤ L) (hx : RsOk L p x) (hk : (s'.cells.map key)[s.cells.length]? = some (rule, p)) : StOk R L (shut rule p s.cells.length x s') := by
 refine ⟨fun c hc => ?_, ?_⟩
 ·have hc' : c ∈ s'.cells.set s.cells.length ⟨rule, p, true, ownR rule p x⟩ := hc
  rcases List.mem_or_eq_of_mem_set hc' with hc | rfl
  ·have := hs'.ce c hc
   refine ⟨this.rule, this.place, this.res, this.undone, ?_⟩
   rcases this.len with h | h
   ·exact .inl (by simp [shut, h])
   ·exact .inr h
  ·refine ⟨hr, hp, hx.own, fun h => (nomatch h), ?_⟩
   by_cases h : (ownR rule p x).tree.length ≤ 2000
   ·exact .inr h
   ·exact .inl (by simp [shut]; right; omega)
 ·show ((s'.cells.set s.cells.length ⟨rule, p, true, ownR rule p x⟩).map key).Nodup
  rw [map_key_set hk]
  exact hs'.nd
include hE
theorem callR_ok (hG : GOk G) (rule p : Nat) (s : St) (hs : StOk G.rules.length L s) (ho : s.over = false) (hr : rule < G.rules.length) (hp : p ≤ L) : PostR G.rules.length L p 2000 1 s (callR E G rule p s) := by
 unfold callR
 cases hf : s.cells.find? (keyB rule p) with
 | some c =>
  obtain ⟨h1, h2, h3⟩ := find_some hf
  have hc := hs.ce c h1
  refine ⟨⟨hs.ce, hs.nd⟩, Nat.le_refl _, id, fun h => by simp [h], ⟨[], by simp⟩, by simp, h3 ▸ hc.res, ?_⟩
  rcases hc.len with h | h
  ·rw [ho] at h; cases h
  ·simp only []; omega
 | none =>
  simp only []
  rw [List.getElem?_eq_getElem hr]
  have hb := hG.bod _ (List.getElem_mem hr)
  simp only []
  generalize hn : (G.rules[rule]'hr).body.toNat = n
  have H := hE (open0 rule p s) n p (open0_ok hs hr hp hf) (by omega) hp
  have hk := key_at H.step.keys
  have hstep := H.step
  refine ⟨shut_ok H.st hr hp H.rs hk.2, H.step.left, fun h => ?_, fun h => H.step.round h, ?_, ?_, H.rs.own, ?_⟩
  ·have := H.step.over h
   simp [shut, this]
  ·show ∃ m, ((E (open0 rule p s) n p).2.cells.set s.cells.length _).map key = _
   rw [map_key_set hk.2]
   obtain ⟨m, hm⟩ := hstep.keys
   exact ⟨(rule, p) :: m, by rw [hm]; simp [open0, key]⟩
  ·have := H.step.cnt
   have h3 : (open0 rule p s).left = s.left := rfl
   have h4 : (open0 rule p s).cells.length = s.cells.length + 1 := by simp [open0]
   rw [h3, h4] at this
   simp only [shut, List.length_set]
   omega
  ·have := H.len
   have h2 := @ownR_len p rule (E (open0 rule p s) n p).1
   have h3 : (open0 rule p s).left = s.left := rfl
   show (ownR rule p (E (open0 rule p s) n p).1).tree.length + 2001 * (E (open0 rule p s) n p).2.left ≤ 2001 * s.left + 2000
   rw [h3] at this
   omega
end

theorem txtR_ok {W : List Nat} {s : ByteArray} {p : Nat} (hp : p ≤ W.length) : RsOk W.length p (txtR W s p) ∧ (txtR W s p).tree = [] := by
 unfold txtR
 have key : ∀ i, (∀ j, j < i → txtAt W s p j = true) → p + i ≤ W.length := by
  intro i
  cases i with
  | zero => intro _; omega
  | succ i =>
   intro h
   have := h i (by omega)
   unfold txtAt at this
   by_cases hl : p + i < W.length
   ·omega
   ·rw [List.getElem?_eq_none (by omega)] at this
    simp at this
 cases hf : (List.range s.size).find? (fun i => !txtAt W s p i) with
 | none =>
  have h := List.find?_range_eq_none.1 hf
  simp only []
  exact ⟨.at (by decide) (by omega) (by omega) (key s.size (fun j hj => by have := h j hj; simpa using this)), rfl⟩
 | some i =>
  have h := List.find?_range_eq_some.1 hf
  simp only []
  have := key i (fun j hj => by have := h.2.2 j hj; simpa using this)
  exact ⟨.fail (by omega) (by omega), rfl⟩
theorem anyR_ok {W : List Nat} {p : Nat} (hp : p ≤ W.length) : RsOk W.length p (anyR W p) ∧ (anyR W p).tree = [] := by
 unfold anyR
 by_cases h : p < W.length
 ·rw [if_pos h]; exact ⟨.at (by decide) (by omega) (by omega) (by omega), rfl⟩
 ·rw [if_neg h]; exact ⟨.fail (by omega) (by omega), rfl⟩
theorem setR_ok {W : List Nat} {x : Nd} {p : Nat} (hp : p ≤ W.length) : RsOk W.length p (setR W x p) ∧ (setR W x p).tree = [] := by
 unfold setR
 cases h : W[p]? with
 | none => exact ⟨.fail (by omega) (by omega), rfl⟩
 | some b =>
  have := (List.getElem?_eq_some_iff.1 h).1
  simp only []
  by_cases hh : hasB x b
  ·rw [if_pos hh]; exact ⟨.at (by decide) (by omega) (by omega) (by omega), rfl⟩
  ·rw [if_neg hh]; exact ⟨.fail (by omega) (by omega), rfl⟩

/-- What a node's kind tells of it. -/
theorem node_call {R : Nat} {x : Nd} (h : nodeB R x = true) (hk : x.kind = 5) : 0 ≤ x.rule ∧ x.rule < R := by
 unfold nodeB at h
 rw [hk] at h
 simp at h
 omega
theorem node_one {R : Nat} {x : Nd} (h : nodeB R x = true) (hk : 8 ≤ x.kind) : ∃ k, x.kids = [k] ∧ x.kind ≤ 12 := by
 unfold nodeB at h
 rw [if_neg (by omega), if_neg (by omega), if_neg (by omega), if_neg (by omega), if_neg (by omega)] at h
 by_cases h12 : x.kind ≤ 12
 ·rw [if_pos ⟨hk, h12⟩] at h
  simp only [Bool.and_eq_true, beq_iff_eq] at h
  obtain ⟨k, e⟩ := List.length_eq_one_iff.1 h.2
  exact ⟨k, e, h12⟩
 ·rw [if_neg (by omega)] at h; cases h
theorem node_kind {R : Nat} {x : Nd} (h : nodeB R x = true) : 1 ≤ x.kind ∧ x.kind ≤ 12 := by
 unfold nodeB at h
 split at h
 ·omega
 split at h
 ·omega
 split at h
 ·omega
 split at h
 ·omega
 split at h
 ·omega
 split at h
 ·omega
 ·cases h

theorem PostR.mk0 {L R p k : Nat} {s : St} {r : Rs} (hs : StOk R L s) (h : RsOk L p r) (ht : r.tree = []) : PostR R L p k 1 s (r, s) := ⟨hs, Nat.le_refl _, id, id, ⟨[], by simp⟩, by simp, h, by simp [ht]⟩
theorem PostR.weak {L R p k k' c c' : Nat} {s : St} {o : Rs × St} (h : PostR R L p k c s o) (hk : k ≤ k') (hc : c ≤ c') : PostR R L p k' c' s o := ⟨h.st, h.left, h.over, h.round, h.keys, by have := h.cnt; omega, h.rs, by have := h.len; omega⟩
theorem Post.rel {L R p : Nat} {s : St} {o : Rs × St} (H : Post R L p s o) : PostR R L p 0 0 s o := ⟨H.st, H.step.left, H.step.over, H.step.round, H.step.keys, H.step.cnt, H.rs, H.len⟩
section
variable {G : Gr} {W : List Nat} {E : St → Nat → Nat → Rs × St} (hE : ∀ s n p, StOk G.rules.length W.length s → n < G.nodes.length → p ≤ W.length → Post G.rules.length W.length p s (E s n p))
include hE
theorem kindR_ok (hG : GOk G) (x : Nd) (hx : nodeB G.rules.length x = true) (hk : ∀ k ∈ x.kids, 0 ≤ k ∧ k < G.nodes.length) (p : Nat) (hp : p ≤ W.length) (s : St) (hs : StOk G.rules.length W.length s) (ho : s.over = false) :
  PostR G.rules.length W.length p 2000 1 s (kindR E G W x p s) := by
 have hkd := node_kind hx
 unfold kindR
 by_cases h1 : x.kind = 1
 ·rw [if_pos h1]
  exact .mk0 hs (.at (by decide) (by omega) (Nat.le_refl _) hp) rfl
 rw [if_neg h1]
 by_cases h2 : x.kind = 2
 ·rw [if_pos h2]
  exact .mk0 hs (anyR_ok hp).1 (anyR_ok hp).2
 rw [if_neg h2]
 by_cases h3 : x.kind = 3
 ·rw [if_pos h3]
  exact .mk0 hs (setR_ok hp).1 (setR_ok hp).2
 rw [if_neg h3]
 by_cases h4 : x.kind = 4
 ·rw [if_pos h4]
  exact .mk0 hs (txtR_ok hp).1 (txtR_ok hp).2
 rw [if_neg h4]
 by_cases h5 : x.kind = 5
 ·rw [if_pos h5]
  have := node_call hx h5
  exact callR_ok hE hG _ p s hs ho (by omega) hp
 rw [if_neg h5]
 by_cases h6 : x.kind = 6
 ·rw [if_pos h6]
  exact (seqR_ok hE x.kids p (toR p) s hs hk (.at (by decide) (by omega) (Nat.le_refl _) hp) rfl).weak (by simp [toR]) (by omega)
 rw [if_neg h6]
 by_cases h7 : x.kind = 7
 ·rw [if_pos h7]
  exact (altR_ok hE p hp x.kids (-1) s hs hk (by decide) (by omega)).weak (by omega) (by omega)
 rw [if_neg h7]
 obtain ⟨k, e, h12⟩ := node_one hx (by omega)
 have hk0 := hk k (by simp [e])
 have hkk : (x.kids.headD 0).toNat < G.nodes.length := by rw [e, List.headD_cons]; omega
 generalize (x.kids.headD 0).toNat = kk at hkk ⊢
 have H := hE s kk p hs hkk hp
 by_cases h8 : x.kind = 8
 ·rw [if_pos h8]
  exact (starR_ok hE kk hkk _ p (toR p) s hs (.at (by decide) (by omega) (Nat.le_refl _) hp) rfl).weak (by simp [toR]) (by omega)
 rw [if_neg h8]
 by_cases h9 : x.kind = 9
 ·rw [if_pos h9]
  by_cases hi : (E s kk p).1.is = true
  ·rw [if_pos hi]
   have h2 := starR_ok hE kk hkk ((E s kk p).2.left + 1) p (E s kk p).1 (E s kk p).2 H.st H.rs hi
   have st := H.step.trans h2.step
   exact ⟨h2.st, st.left, st.over, st.round, st.keys, by have := st.cnt; omega, h2.rs, by have := h2.len; have := H.len; omega⟩
  ·rw [if_neg hi]
   exact H.rel.weak (by omega) (by omega)
 rw [if_neg h9]
 by_cases h10 : x.kind = 10
 ·rw [if_pos h10]
  by_cases hi : (E s kk p).1.is = true
  ·rw [if_pos hi]
   exact H.rel.weak (by omega) (by omega)
  ·rw [if_neg hi]
   exact ⟨H.st, H.step.left, H.step.over, H.step.round, H.step.keys, by have := H.step.cnt; simp only []; omega, .at H.rs.lo H.rs.hi (Nat.le_refl _) hp, by have := H.step.left; simp only [List.length_nil]; omega⟩
 rw [if_neg h10]
 by_cases h11 : (E s kk p).1.is = decide (x.kind = 12)
 ·rw [if_pos h11]
  exact ⟨H.st, H.step.left, H.step.over, H.step.round, H.step.keys, by have := H.step.cnt; simp only []; omega, .at H.rs.lo H.rs.hi (Nat.le_refl _) hp, by have := H.step.left; simp only [List.length_nil]; omega⟩
 ·rw [if_neg h11]
  exact ⟨H.st, H.step.left, H.step.over, H.step.round, H.step.keys, by have := H.step.cnt; simp only []; omega, .fail H.rs.lo H.rs.hi, by have := H.step.left; simp only [failR, List.length_nil]; omega⟩
end
theorem StOk.up {R L : Nat} {s s' : St} (h : StOk R L s) (hc : s'.cells = s.cells) (ho : s.over = true → s'.over = true) : StOk R L s' := by
 refine ⟨fun c hm => ?_, by rw [hc]; exact h.nd⟩
 have := h.ce c (hc ▸ hm)
 exact ⟨this.rule, this.place, this.res, this.undone, this.len.imp ho id⟩
theorem ev_ok {G : Gr} {W : List Nat} (hG : GOk G) : ∀ (f : Nat) (s : St) (n p : Nat), StOk G.rules.length W.length s → n < G.nodes.length → p ≤ W.length → Post G.rules.length W.length p s (ev G W f s n p)
 | 0, s, n, p, hs, _, _ => ⟨hs.up rfl (fun _ => rfl), ⟨Nat.le_refl _, fun _ => rfl, id, ⟨[], by simp [ev]⟩, Nat.le_refl _⟩, .fail (by decide) (by omega), by simp [ev, failR], fun h => (nomatch h)⟩
 | f + 1, s, n, p, hs, hn, hp => by
  have hs1 : StOk G.rules.length W.length (over1 s) := hs.up rfl (fun h => by simp [over1, h])
  have e1 : Step s (over1 s) := ⟨Nat.le_refl _, fun h => by simp [over1, h], id, ⟨[], by simp [over1]⟩, Nat.le_refl _⟩
  rw [ev]
  by_cases hc : s.round = true ∨ (over1 s).over = true
  ·rw [if_pos hc]
   exact ⟨hs1, e1, .fail (by decide) (by omega), by simp [failR, over1], fun h => (nomatch h)⟩
  ·rw [if_neg hc, List.getElem?_eq_getElem hn]
   simp only []
   have hno : (over1 s).over = false := by cases h : (over1 s).over <;> simp_all
   have hl : s.left ≠ 0 := by intro h; simp [over1, h] at hno
   have hx := List.getElem?_eq_getElem hn
   have H := kindR_ok (E := ev G W f) (fun s n p => ev_ok hG f s n p) hG G.nodes[n] (hG.nod n _ hx) (hG.kid n _ hx) p hp (less1 (over1 s)) (hs1.up rfl id) hno
   have hll : (less1 (over1 s)).left = s.left - 1 := rfl
   have h1 := H.left
   refine ⟨H.st, ⟨by omega, fun h => H.over (e1.over h), fun h => H.round h, H.keys, ?_⟩, H.rs, ?_, fun _ => by omega⟩
   ·have := H.cnt
    have : (less1 (over1 s)).cells.length = s.cells.length := rfl
    omega
   ·have := H.len
    omega
end Go.Proofs.Ytdnkffplkleolaa
namespace Go.Proofs.Ytdnkffplkleolaa
open Go.RowKit
set_option maxRecDepth 100000
set_option maxHeartbeats 1000000

section
theorem u64_und : Try.prog.underlying 52 = some (.int .u64) := by kernel_rfl
theorem part_u64 (w : World) (cs : Array Value) (o : Nat) (v : Value) (h : cs[o]? = some v) : (part 52 cs o).run Try.prog w = .ok v w := by
 have ha : (isAgg 52).run Try.prog w = .ok false w := by simp [isAgg, run_underlying u64_und]
 unfold part
 simp [ha, h]
theorem eq_u64 (w : World) (d : Nat) (x y : Int) : (Op.equalIn (d + 1) 52 (.int .u64 x) (.int .u64 y)).run Try.prog w = .ok (x == y) w := by
 simp [Op.equalIn, run_underlying u64_und]
theorem items_step (w : World) (d : Nat) (xs ys : Array Value) (i : Nat) (is : List Nat) (x y : Int) (hx : xs[i * 1]? = some (.int .u64 x)) (hy : ys[i * 1]? = some (.int .u64 y)) :
  (Op.eqItems (d + 1) 52 1 xs ys (i :: is)).run Try.prog w = if (x == y) = true then (Op.eqItems (d + 1) 52 1 xs ys is).run Try.prog w else .ok false w := by
 simp only [Op.eqItems, Sem.run_bind, part_u64 w _ _ _ hx, part_u64 w _ _ _ hy, Result.andThen_ok, eq_u64]
 cases x == y <;> rfl
theorem cls_eqd (d : Nat) (w : World) (a b c e a' b' c' e' : Int) : (Op.equalIn (d + 2) 54 (.agg #[.int .u64 a, .int .u64 b, .int .u64 c, .int .u64 e]) (.agg #[.int .u64 a', .int .u64 b', .int .u64 c', .int .u64 e'])).run Try.prog w = .ok (a == a' && b == b' && c == c' && e == e') w := by
 obtain ⟨i, hi⟩ := Option.isSome_iff_exists.1 (show (Try.prog.info? 52).isSome = true by kernel_rfl)
 rw [run_equalIn_array (P := Try.prog) w (d + 1) (e := 52) (n := 4) (i := i) _ _ Try.underlying54 hi]
 rw [show Try.prog.cellsOf 52 = 1 by kernel_rfl, show List.range 4 = [0, 1, 2, 3] from rfl]
 rw [items_step w d _ _ 0 _ a a' rfl rfl, items_step w d _ _ 1 _ b b' rfl rfl, items_step w d _ _ 2 _ c c' rfl rfl, items_step w d _ _ 3 _ e e' rfl rfl]
 have h0 : (Op.eqItems (d + 1) 52 1 #[.int .u64 a, .int .u64 b, .int .u64 c, .int .u64 e] #[.int .u64 a', .int .u64 b', .int .u64 c', .int .u64 e'] []).run Try.prog w = .ok true w := by simp [Op.eqItems]
 rw [h0]
 cases a == a' <;> cases b == b' <;> cases c == c' <;> cases e == e' <;> rfl
/-- Two classes are compared word by word. -/
theorem cls_eq (w : World) (a b c d a' b' c' d' : Int) : (Op.equalIn 10000 54 (.agg #[.int .u64 a, .int .u64 b, .int .u64 c, .int .u64 d]) (.agg #[.int .u64 a', .int .u64 b', .int .u64 c', .int .u64 d'])).run Try.prog w = .ok (a == a' && b == b' && c == c' && d == d') w := by
 rw [show (10000 : Nat) = 9998 + 2 from rfl]
 exact cls_eqd 9998 w a b c d a' b' c' d'
end

theorem str_nil {t : ByteArray} : t.toList = [] ↔ t.size = 0 := by
 rw [Lib.toList_data]
 constructor
 ·intro h
  have : t.data.toList.length = 0 := by rw [h]; rfl
  simpa using this
 ·intro h
  exact List.eq_nil_of_length_eq_zero (by simpa using h)
/-- A node with how many rules there are, as a value. -/
def shv (k a b c d : Int) (t : ByteArray) (r l : Int) (v : Value) (n : Int) : Value := .agg #[.int .i64 k, .int .u64 a, .int .u64 b, .int .u64 c, .int .u64 d, .string t, .int .i64 r, .int .i64 l, v, .int .i64 n]
def plainB (a b c d : Int) (t : ByteArray) (r l : Int) : Bool := a == 0 && b == 0 && c == 0 && d == 0 && t.size == 0 && r == 0 && l == 0

theorem plain_any (w : World) (k a b c d : Int) (t : ByteArray) (r l : Int) (v : Value) (n : Int) :
  Calls Try.prog 98 #[shv k a b c d t r l v n] w fun e w' => e = .returned (.bool (plainB a b c d t r l)) ∧ Below w.heap.size w w' := by
 have hce := cls_eq
 unfold shv
 go_enter Try.func98, Try.ntmps98
 go_wp2_with fail
 all_goals
  go_ret
  refine ⟨?_, (Below.refl _ _).alloc (Nat.le_refl _) _⟩
  congr 1
  unfold plainB
  simp_all [str_nil]

theorem bare_any (w : World) (k a b c d : Int) (t : ByteArray) (r l : Int) (ka : Option Addr) (kn kc : Nat) (n : Int) :
  Calls Try.prog 87 #[shv k a b c d t r l (.slice ka kn kc) n] w fun e w' => e = .returned (.bool (plainB a b c d t r l && kn == 0)) ∧ Below w.heap.size w w' := by
 have HB0 := Lib.hid ((Below.refl w.heap.size w).alloc (Nat.le_refl _) (.cells #[.int .i64 k, .int .u64 a, .int .u64 b, .int .u64 c, .int .u64 d, .string t, .int .i64 r, .int .i64 l, .slice ka kn kc, .int .i64 n] 140))
 have HR0 := Lib.hid (hrow.new w #[.int .i64 k, .int .u64 a, .int .u64 b, .int .u64 c, .int .u64 d, .string t, .int .i64 r, .int .i64 l, .slice ka kn kc, .int .i64 n] 140)
 unfold shv
 go_enter Try.func87, Try.ntmps87
 go_wp2_with fail
 refine (plain_any _ k a b c d t r l (.slice ka kn kc) n).mono ?_
 rintro e w2 ⟨rfl, hb⟩
 have HB2 := Lib.hid (HB0.out.trans (hb.mono HB0.out.size))
 have hc : w2.cell? ⟨w.heap.size, 8, none⟩ = some (.slice ka kn kc) := (HR0.out.below hb).cell 8
 clear hb HB0 HR0
 cases hx : plainB a b c d t r l
 all_goals
  have HX := Lib.hid hx; clear hx
  go_wp2_with fail
  go_ret
  exact ⟨ret_bool (by rw [HX.out, Bool.eq_iff_iff]; simp; try omega), HB2.out⟩

theorem one_any (w : World) (k a b c d : Int) (t : ByteArray) (r l : Int) (ka : Option Addr) (kn kc : Nat) (n : Int) :
  Calls Try.prog 92 #[shv k a b c d t r l (.slice ka kn kc) n] w fun e w' => e = .returned (.bool (plainB a b c d t r l && kn == 1)) ∧ Below w.heap.size w w' := by
 have HB0 := Lib.hid ((Below.refl w.heap.size w).alloc (Nat.le_refl _) (.cells #[.int .i64 k, .int .u64 a, .int .u64 b, .int .u64 c, .int .u64 d, .string t, .int .i64 r, .int .i64 l, .slice ka kn kc, .int .i64 n] 140))
 have HR0 := Lib.hid (hrow.new w #[.int .i64 k, .int .u64 a, .int .u64 b, .int .u64 c, .int .u64 d, .string t, .int .i64 r, .int .i64 l, .slice ka kn kc, .int .i64 n] 140)
 unfold shv
 go_enter Try.func92, Try.ntmps92
 go_wp2_with fail
 refine (plain_any _ k a b c d t r l (.slice ka kn kc) n).mono ?_
 rintro e w2 ⟨rfl, hb⟩
 have HB2 := Lib.hid (HB0.out.trans (hb.mono HB0.out.size))
 have hc : w2.cell? ⟨w.heap.size, 8, none⟩ = some (.slice ka kn kc) := (HR0.out.below hb).cell 8
 clear hb HB0 HR0
 cases hx : plainB a b c d t r l
 all_goals
  have HX := Lib.hid hx; clear hx
  go_wp2_with fail
  go_ret
  exact ⟨ret_bool (by rw [HX.out, Bool.eq_iff_iff]; simp; try omega), HB2.out⟩

theorem many_any (w : World) (k a b c d : Int) (t : ByteArray) (r l : Int) (ka : Option Addr) (kn kc : Nat) (n : Int) :
  Calls Try.prog 91 #[shv k a b c d t r l (.slice ka kn kc) n] w fun e w' => e = .returned (.bool (plainB a b c d t r l && decide (2 ≤ kn) && decide (kn ≤ 64))) ∧ Below w.heap.size w w' := by
 have HB0 := Lib.hid ((Below.refl w.heap.size w).alloc (Nat.le_refl _) (.cells #[.int .i64 k, .int .u64 a, .int .u64 b, .int .u64 c, .int .u64 d, .string t, .int .i64 r, .int .i64 l, .slice ka kn kc, .int .i64 n] 140))
 have HR0 := Lib.hid (hrow.new w #[.int .i64 k, .int .u64 a, .int .u64 b, .int .u64 c, .int .u64 d, .string t, .int .i64 r, .int .i64 l, .slice ka kn kc, .int .i64 n] 140)
 unfold shv
 go_enter Try.func91, Try.ntmps91
 go_wp2_with fail
 refine (plain_any _ k a b c d t r l (.slice ka kn kc) n).mono ?_
 rintro e w2 ⟨rfl, hb⟩
 have HB2 := Lib.hid (HB0.out.trans (hb.mono HB0.out.size))
 have hc : w2.cell? ⟨w.heap.size, 8, none⟩ = some (.slice ka kn kc) := (HR0.out.below hb).cell 8
 clear hb HB0 HR0
 cases hx : plainB a b c d t r l
 all_goals
  have HX := Lib.hid hx; clear hx
  go_wp2_with fail
  all_goals
   go_ret
   exact ⟨ret_bool (by rw [HX.out, Bool.eq_iff_iff]; simp; try omega), HB2.out⟩
end Go.Proofs.Ytdnkffplkleolaa
namespace Go.Proofs.Ytdnkffplkleolaa
open Go.RowKit
set_option maxRecDepth 100000
set_option maxHeartbeats 1000000

theorem al1 {a w : World} (h : Below a.heap.size a w) (o : Obj) : Below a.heap.size a (w.alloc o) := h.alloc h.size o
theorem al2 {a w : World} (h : Below a.heap.size a w) (o o' : Obj) : Below a.heap.size a ((w.alloc o).alloc o') := al1 (al1 h o) o'

theorem setS_any (w : World) (k a b c d : Int) (t : ByteArray) (r l : Int) (ka : Option Addr) (kn kc : Nat) (n : Int) :
    Calls Try.prog 88 #[shv k a b c d t r l (.slice ka kn kc) n] w fun e w' => e = .returned (.bool (!(a == 0 && b == 0 && c == 0 && d == 0) && (plainB 0 0 0 0 t r l && kn == 0))) ∧ Below w.heap.size w w' := by
  have hce := cls_eq
  unfold shv
  go_enter Try.func88, Try.ntmps88
  go_wp2_with fail
  all_goals first
    | (go_ret; exact ⟨ret_bool (by simp_all [plainB]; try omega), al2 (Below.refl w.heap.size w) _ _⟩)
    | (refine (bare_any _ k 0 0 0 0 t r l ka kn kc n).mono ?_
       rintro e w2 ⟨rfl, hb⟩
       have HB2 := Lib.hid ((al2 (Below.refl w.heap.size w) _ _).trans (hb.mono (al2 (Below.refl w.heap.size w) _ _).size))
       clear hb
       go_wp2_with fail
       go_ret
       exact ⟨ret_bool (by simp_all [plainB]; try omega), HB2.out⟩)

theorem textS_any (w : World) (k a b c d : Int) (t : ByteArray) (r l : Int) (ka : Option Addr) (kn kc : Nat) (n : Int) (ht : t.size ≤ 9223372036854775807) :
    Calls Try.prog 89 #[shv k a b c d t r l (.slice ka kn kc) n] w fun e w' => e = .returned (.bool (decide (0 < t.size) && decide (t.size ≤ 64) && (plainB a b c d ⟨#[]⟩ r l && kn == 0))) ∧ Below w.heap.size w w' := by
  have hce := cls_eq
  unfold shv
  go_enter Try.func89, Try.ntmps89
  go_wp2_with fail
  all_goals first
    | (go_ret; exact ⟨ret_bool (by simp_all [plainB]; try omega), al1 (Below.refl w.heap.size w) _⟩)
    | (refine (bare_any _ k a b c d ⟨#[]⟩ r l ka kn kc n).mono ?_
       rintro e w2 ⟨rfl, hb⟩
       have HB2 := Lib.hid ((al1 (Below.refl w.heap.size w) _).trans (hb.mono (al1 (Below.refl w.heap.size w) _).size))
       clear hb
       go_wp2_with fail
       go_ret
       exact ⟨ret_bool (by simp_all [plainB]; try omega), HB2.out⟩)

theorem callS_any (w : World) (k a b c d : Int) (t : ByteArray) (r l : Int) (ka : Option Addr) (kn kc : Nat) (n : Int) :
    Calls Try.prog 90 #[shv k a b c d t r l (.slice ka kn kc) n] w fun e w' => e = .returned (.bool (decide (0 ≤ r) && decide (r < n) && decide (0 ≤ l) && decide (l ≤ 99) && (plainB a b c d t 0 0 && kn == 0))) ∧ Below w.heap.size w w' := by
  have hce := cls_eq
  unfold shv
  go_enter Try.func90, Try.ntmps90
  go_wp2_with fail
  all_goals first
    | (go_ret; exact ⟨ret_bool (by simp_all [plainB]; try omega), al1 (Below.refl w.heap.size w) _⟩)
    | (refine (bare_any _ k a b c d t 0 0 ka kn kc n).mono ?_
       rintro e w2 ⟨rfl, hb⟩
       have HB2 := Lib.hid ((al1 (Below.refl w.heap.size w) _).trans (hb.mono (al1 (Below.refl w.heap.size w) _).size))
       clear hb
       go_wp2_with fail
       go_ret
       exact ⟨ret_bool (by simp_all [plainB]; try omega), HB2.out⟩)
end Go.Proofs.Ytdnkffplkleolaa
namespace Go.Proofs.Ytdnkffplkleolaa
open Go.RowKit

def bys (W : List Nat) : List Value := W.map fun (b : Nat) => Value.int .u8 (b : Int)
def twv (x : Tw) : Array Value := #[.int .i64 x.rule, .int .i64 x.lev, .int .i64 x.fr, .int .i64 x.to, .int .i64 x.kids]
def twc (x : Tw) : List Value := (twv x).toList
theorem twc_len (x : Tw) : (twc x).length = 5 := rfl
theorem twc_one (t : List Tw) : ∀ u ∈ t.flatMap twc, u.oneCell' = true := by
 intro u hu
 simp only [List.mem_flatMap, twc, twv] at hu
 obtain ⟨x, _, hx⟩ := hu
 simp at hx
 rcases hx with rfl | rfl | rfl | rfl | rfl <;> rfl
def rcs (r : Rs) (ao : Option Addr) (cap : Nat) : Array Value := #[.bool r.is, .int .i64 r.en, .int .i64 r.far, .slice ao r.tree.length cap, .int .i64 r.roots]
def rsv (r : Rs) (ao : Option Addr) (cap : Nat) : Value := .agg (rcs r ao cap)
def cec (q : Ce × (Option Addr × Nat)) : List Value := [.int .i64 q.1.rule, .int .i64 q.1.place, .bool q.1.done, .bool q.1.res.is, .int .i64 q.1.res.en, .int .i64 q.1.res.far, .slice q.2.1 q.1.res.tree.length q.2.2, .int .i64 q.1.res.roots]
theorem cec_len (q : Ce × (Option Addr × Nat)) : (cec q).length = 8 := rfl
theorem cec_one (t : List (Ce × (Option Addr × Nat))) : ∀ u ∈ t.flatMap cec, u.oneCell' = true := by
 intro u hu
 simp only [List.mem_flatMap, cec] at hu
 obtain ⟨x, _, hx⟩ := hu
 simp at hx
 rcases hx with rfl | rfl | rfl | rfl | rfl | rfl | rfl | rfl <;> rfl

/-- A block that is neither a work nor a row of cells. -/
def KeepB (w : World) (k : Nat) : Prop := ∀ cs t m, w.heap[k]? = some (.cells cs t m) → t ≠ 62 ∧ t ≠ 98
/-- A tree, in a block of twigs. -/
structure TrW (w : World) (ao : Option Addr) (cap : Nat) (t : List Tw) : Prop where
 sv : Sv w ao t.length cap 5 (t.flatMap twc)
 ty : ∀ a, ao = some a → 0 < t.length → ∃ cs, hrow w a.block cs 43
/-- From one world to another one: works and rows of cells alone were written. -/
structure RF (w w' : World) : Prop where
 os : w'.os = w.os
 tape : w'.tape = w.tape
 output : w'.output = w.output
 size : w.heap.size ≤ w'.heap.size
 block : ∀ k, k < w.heap.size → KeepB w k → w'.heap[k]? = w.heap[k]?
section
variable {w w' w'' : World} {ao : Option Addr} {cap : Nat} {t : List Tw}
theorem hrow.keepB {k : Nat} {cs : Array Value} {ty : TypeId} (h : hrow w k cs ty) (h1 : ty ≠ 62) (h2 : ty ≠ 98) : KeepB w k := by
 intro cs' t m e
 have := h.h.symm.trans e
 simp only [Option.some.injEq, Obj.cells.injEq] at this
 rw [← this.2.1]; exact ⟨h1, h2⟩
theorem RF.refl (w : World) : RF w w := ⟨rfl, rfl, rfl, Nat.le_refl _, fun _ _ _ => rfl⟩
theorem RF.trans (h : RF w w') (k : RF w' w'') : RF w w'' :=
 ⟨k.os.trans h.os, k.tape.trans h.tape, k.output.trans h.output, Nat.le_trans h.size k.size, fun i hi hF => by
  have e := h.block i hi hF
  refine (k.block i (Nat.lt_of_lt_of_le hi h.size) (fun cs t m hx => hF cs t m (e ▸ hx))).trans e⟩
theorem RF.below (hb : Below w.heap.size w w') : RF w w' := ⟨hb.os, hb.tape, hb.output, hb.size, fun k hk _ => hb.block k hk⟩
theorem RF.of_fr {F : Nat → Prop} (hf : Fr F w w') (h : ∀ k, F k → ∃ cs t m, w.heap[k]? = some (.cells cs t m) ∧ (t = 62 ∨ t = 98)) : RF w w' :=
 ⟨hf.os, hf.tape, hf.output, hf.size, fun k hk hF => hf.block k hk (fun hx => by
  obtain ⟨cs, t, m, e, ht⟩ := h k hx
  have := hF cs t m e
  exact ht.elim this.1 this.2)⟩
theorem hrow.rf {k : Nat} {cs : Array Value} {ty : TypeId} (h : hrow w k cs ty) (hf : RF w w') (h1 : ty ≠ 62) (h2 : ty ≠ 98) : hrow w' k cs ty :=
 (hf.block k h.lt (h.keepB h1 h2)).trans h
theorem sv_fr2 {F : Nat → Prop} (h : TrW w ao cap t) (hf : Fr F w w') (hF : ∀ k cs, F k → ¬ hrow w k cs 43) : TrW w' ao cap t := by
 refine ⟨h.sv.fr hf (fun a ha h0 hx => ?_), fun a ha h0 => ?_⟩
 ·obtain ⟨cs, hr⟩ := h.ty a ha (by simpa using h0)
  exact hF _ cs hx hr
 ·obtain ⟨cs, hr⟩ := h.ty a ha h0
  exact ⟨cs, hr.fr hf (fun hx => hF _ cs hx hr)⟩
theorem TrW.step (h : TrW w ao cap t) (k : RF w w') : TrW w' ao cap t := by
 refine sv_fr2 (F := fun i => ¬ KeepB w i) h ⟨k.os, k.tape, k.output, k.size, fun i hi hn => k.block i hi (Classical.not_not.1 hn)⟩ (fun i cs hn hr => hn (hr.keepB (by decide) (by decide)))
theorem TrW.nil (w : World) : TrW w none 0 [] := ⟨Sv.nil w 5, fun _ h => nomatch h⟩
theorem owns_ne {B s n k : Nat} {e : TypeId} {v : Value} {xs : List Value} {cs : Array Value} {ty : TypeId} (ho : w.ownsRow B e s v n xs) (h : hrow w k cs ty) (ht : ty ≠ e) : v.ownBlock ≠ some k := by
 intro hv
 rcases ho.2 with ⟨h0, _⟩ | ⟨q, c, cur, h0, _, h1, _⟩
 ·rw [h0] at hv; cases hv
 ·rw [h0] at hv
  cases hv
  have := h.h.symm.trans h1
  simp only [Option.some.injEq, Obj.cells.injEq] at this
  exact ht this.2.1
theorem row_ne {k i : Nat} {cs cs' : Array Value} {ty ty' : TypeId} (h : hrow w k cs ty) (h' : hrow w i cs' ty') (ht : ty ≠ ty') : k ≠ i := by
 rintro rfl
 have := h.h.symm.trans h'.h
 simp only [Option.some.injEq, Obj.cells.injEq] at this
 exact ht this.2.1
end

/-- What a work has that stays. -/
structure Env where
 base : World
 g : Nat
 ro : Option Addr
 rn : Nat
 rc : Nat
 no : Option Addr
 nn : Nat
 nc : Nat
 NK : List (Nd × (Option Addr × Nat))
 G : Gr
 wo : Option Addr
 wn : Nat
 wc : Nat
 W : List Nat
structure EnvOk (K : Env) : Prop where
 gr : GrW K.base K.ro K.rn K.rc K.no K.nn K.nc K.NK K.G
 inp : Sv K.base K.wo K.wn K.wc 1 (bys K.W)
 ok : GOk K.G
 hg : K.base.heap.size ≤ K.g
 wl : K.W.length = K.wn
 w2 : K.wn ≤ 2048
 byt : ∀ b ∈ K.W, b < 256
/-- The work. -/
structure RW (K : Env) (w : World) (s : St) (v : Value) (KS : List (Ce × (Option Addr × Nat))) : Prop where
 obj : hrow w K.g #[.slice K.ro K.rn K.rc, .slice K.no K.nn K.nc, .slice K.wo K.wn K.wc, v, .bool s.round, .int .i64 s.left, .bool s.over] 62
 low : Below K.base.heap.size K.base w
 eq : KS.map (·.1) = s.cells
 row : w.ownsRow K.base.heap.size 98 8 v KS.length (KS.flatMap cec)
 trees : ∀ c ∈ KS, TrW w c.2.1 c.2.2 c.1.res.tree
section
variable {K : Env} {w w' : World} {s : St} {v : Value} {KS : List (Ce × (Option Addr × Nat))}
theorem RW.ne (h : RW K w s v KS) : v.ownBlock ≠ some K.g := owns_ne h.row h.obj (by decide)
theorem RW.below (h : RW K w s v KS) (hb : Below w.heap.size w w') : RW K w' s v KS :=
 ⟨h.obj.below hb, h.low.trans (hb.mono h.low.size), h.eq, owns_fr h.row (Fr.of_below (F := fun _ => False) hb) (fun _ _ h => h), fun c hc => (h.trees c hc).step (.below hb)⟩
theorem RW.fr (h : RW K w s v KS) {F : Nat → Prop} (hf : Fr F w w') (hF : ∀ k, F k → K.base.heap.size ≤ k ∧ ∃ cs ty, hrow w k cs ty ∧ ty ≠ 62 ∧ ty ≠ 98 ∧ ty ≠ 43) : RW K w' s v KS := by
 refine ⟨h.obj.fr hf (fun hx => ?_), h.low.trans (hf.below h.low.size (fun k hk hx => by have := (hF k hx).1; omega)), h.eq, owns_fr h.row hf (fun k hk hx => ?_), fun c hc => sv_fr2 (h.trees c hc) hf (fun k cs hx hr => ?_)⟩
 ·obtain ⟨_, cs, ty, hr, h1, _⟩ := hF _ hx
  exact row_ne hr h.obj h1 rfl
 ·obtain ⟨_, cs, ty, hr, _, h1, _⟩ := hF _ hx
  exact owns_ne h.row hr h1 hk
 ·obtain ⟨_, cs', ty, hr', _, _, h1⟩ := hF _ hx
  exact row_ne hr' hr h1 rfl
theorem RW.setObj (hK : K.base.heap.size ≤ K.g) (h : RW K w s v KS) {o : Nat} {x : Value} {s' : St} (hc : s'.cells = s.cells)
  (he : (#[.slice K.ro K.rn K.rc, .slice K.no K.nn K.nc, .slice K.wo K.wn K.wc, v, .bool s.round, .int .i64 s.left, .bool s.over] : Array Value).setIfInBounds o x = #[.slice K.ro K.rn K.rc, .slice K.no K.nn K.nc, .slice K.wo K.wn K.wc, v, .bool s'.round, .int .i64 s'.left, .bool s'.over]) :
  RW K (w.setCell ⟨K.g, o, none⟩ x) s' v KS ∧ RF w (w.setCell ⟨K.g, o, none⟩ x) := by
 have hf := Fr.setCell w ⟨K.g, o, none⟩ x
 refine ⟨⟨?_, h.low.setCell (p := ⟨K.g, o, none⟩) hK x, by rw [hc]; exact h.eq, owns_fr h.row hf (fun k hk e => ?_), fun c hc => sv_fr2 (h.trees c hc) hf (fun k cs e hr => ?_)⟩, RF.of_fr hf (fun k e => ⟨_, _, _, (by have e' : k = K.g := e; subst e'; exact h.obj.h), .inl rfl⟩)⟩
 ·unfold hrow
  rw [heap_setCell_same _ _ _ _ _ _ h.obj.h, he]
 ·have e' : k = K.g := e
  subst e'
  exact h.ne hk
 ·have e' : k = K.g := e
  subst e'
  exact row_ne hr h.obj (by decide) rfl
theorem RW.setOver (hK : K.base.heap.size ≤ K.g) (h : RW K w s v KS) (b : Bool) : RW K (w.setCell ⟨K.g, 6, none⟩ (.bool b)) { s with over := b } v KS ∧ RF w (w.setCell ⟨K.g, 6, none⟩ (.bool b)) := h.setObj hK rfl rfl
theorem RW.setLeft (hK : K.base.heap.size ≤ K.g) (h : RW K w s v KS) (n : Nat) : RW K (w.setCell ⟨K.g, 5, none⟩ (.int .i64 n)) { s with left := n } v KS ∧ RF w (w.setCell ⟨K.g, 5, none⟩ (.int .i64 n)) := h.setObj hK rfl rfl
theorem RW.setRound (hK : K.base.heap.size ≤ K.g) (h : RW K w s v KS) (b : Bool) : RW K (w.setCell ⟨K.g, 4, none⟩ (.bool b)) { s with round := b } v KS ∧ RF w (w.setCell ⟨K.g, 4, none⟩ (.bool b)) := h.setObj hK rfl rfl
end

/-- What a match ends in. -/
def REnd (K : Env) (w : World) (o : Rs × St) (e : Ending) (w' : World) : Prop :=
 ∃ v' KS ao cap, e = .returned (rsv o.1 ao cap) ∧ RW K w' o.2 v' KS ∧ TrW w' ao cap o.1.tree ∧ RF w w'
/-- How much there may be. -/
structure Cap (f : Nat) (s : St) : Prop where
 left : s.left ≤ f
 top : f ≤ 20000
 cnt : s.cells.length + s.left ≤ 20001
def EvC (K : Env) (f : Nat) : Prop := ∀ (w : World) (s : St) (v : Value) (KS : List (Ce × (Option Addr × Nat))) (n p : Nat), RW K w s v KS → Cap f s → StOk K.G.rules.length K.W.length s → n < K.G.nodes.length → p ≤ K.W.length →
 Calls Try.prog 38 #[.pointer (some ⟨K.g, 0, none⟩), .int .i64 n, .int .i64 p] w (REnd K w (ev K.G K.W f s n p))
theorem Cap.of {f f' : Nat} {s s' : St} (h : Cap f s) (hs : Step s s') (h1 : f' ≤ 20000) (h2 : s.left ≤ f') : Cap f' s' := ⟨by have := hs.left; omega, h1, by have := hs.cnt; have := h.cnt; omega⟩

/-- A result's box is read. -/
theorem ret_box {w : World} {k : Nat} {r : Rs} {ao : Option Addr} {cap : Nat} {ty : TypeId} (h : hrow w k (rcs r ao cap) ty) :
  w.cell? ⟨k, 0, none⟩ = some (.bool r.is) ∧ w.cell? ⟨k, 1, none⟩ = some (.int .i64 r.en) ∧ w.cell? ⟨k, 2, none⟩ = some (.int .i64 r.far) ∧ w.cell? ⟨k, 3, none⟩ = some (.slice ao r.tree.length cap) ∧ w.cell? ⟨k, 4, none⟩ = some (.int .i64 r.roots) :=
 ⟨h.cell 0, h.cell 1, h.cell 2, h.cell 3, h.cell 4⟩
theorem rfail_any (w : World) (far : Int) : Calls Try.prog 46 #[.int .i64 far] w fun e w' => e = .returned (rsv (failR far) none 0) ∧ Below w.heap.size w w' := by
 have HB := Lib.hid (fun x => al1 (Below.refl w.heap.size w) (.cells x 64))
 have hr := hrow.new w #[.bool false, .int .i64 0, .int .i64 far, .slice none 0 0, .int .i64 0] 64
 obtain ⟨b0, b1, b2, b3, b4⟩ := ret_box (r := failR far) (ao := none) (cap := 0) hr
 clear hr
 simp only [failR, List.length_nil] at b0 b1 b2 b3 b4
 go_enter Try.func46, Try.ntmps46
 go_wp2_with fail
 exact bodyPost_ret (v := rsv (failR far) none 0) (by simp [results, Try.results46, go_sem, b0, b1, b2, b3, b4, rsv, rcs, failR]) rfl ⟨rfl, HB.out _⟩
theorem rto_any (w : World) (en : Nat) : Calls Try.prog 47 #[.int .i64 en] w fun e w' => e = .returned (rsv (toR en) none 0) ∧ Below w.heap.size w w' := by
 have HB := Lib.hid (fun x => al1 (Below.refl w.heap.size w) (.cells x 64))
 have hr := hrow.new w #[.bool true, .int .i64 en, .int .i64 (-1), .slice none 0 0, .int .i64 0] 64
 obtain ⟨b0, b1, b2, b3, b4⟩ := ret_box (r := toR en) (ao := none) (cap := 0) hr
 clear hr
 simp only [toR, List.length_nil] at b0 b1 b2 b3 b4
 go_enter Try.func47, Try.ntmps47
 go_wp2_with fail
 exact bodyPost_ret (v := rsv (toR en) none 0) (by simp [results, Try.results47, go_sem, b0, b1, b2, b3, b4, rsv, rcs, toR]) rfl ⟨rfl, HB.out _⟩
end Go.Proofs.Ytdnkffplkleolaa
namespace Go.Proofs.Ytdnkffplkleolaa
open Go.RowKit
set_option maxHeartbeats 1000000

abbrev spv (f t : Int) : Value := .agg #[.int .i64 f, .int .i64 t]

theorem line_any (w : World) (f t : Int) : Calls Try.prog 58 #[spv f t] w fun r w' => r = .returned (.bool (spanR f t)) ∧ Below w.heap.size w w' := by
 by_cases h1 : 0 ≤ f
 ·by_cases h2 : f ≤ t
  ·have e : spanR f t = true := by simp [spanR, h1, h2]
   rw [e]; clear e
   go_enter Try.func58, Try.ntmps58
   go_wp2
   go_ret
   exact ⟨by simp, (Below.refl _ _).alloc (Nat.le_refl _) _⟩
  ·have e : spanR f t = false := by simp [spanR, h2]
   rw [e]; clear e
   go_enter Try.func58, Try.ntmps58
   go_wp2
   go_ret
   exact ⟨by simp, (Below.refl _ _).alloc (Nat.le_refl _) _⟩
 ·have e : spanR f t = false := by simp [spanR, h1]
  rw [e]; clear e
  have hd : decide (0 ≤ f) = false := decide_eq_false h1
  go_enter Try.func58, Try.ntmps58
  go_wp2
  go_ret
  exact ⟨rfl, (Below.refl _ _).alloc (Nat.le_refl _) _⟩

theorem spanR_any (w : World) (f t : Int) : Calls Try.prog 42 #[spv f t] w fun r w' => r = .returned (.bool (spanR f t)) ∧ Below w.heap.size w w' := by
 generalize hx : spanR f t = x
 go_enter Try.func42, Try.ntmps42
 go_wp2_with (first | (go_at_call 58; refine (line_any _ _ _).mono ?_; rintro e w2 ⟨rfl, hb2⟩; rw [hx]; have HB2 := Lib.hid hb2; clear hb2))
 go_ret
 exact ⟨rfl, ((Below.refl _ _).alloc (Nat.le_refl _) _).trans (HB2.out.mono (by simp))⟩

theorem two_boxes (w : World) (c d : Array Value) (t u : TypeId) : hrow ((w.alloc (.cells c t)).alloc (.cells d u)) w.heap.size c t ∧ hrow ((w.alloc (.cells c t)).alloc (.cells d u)) (w.heap.size + 1) d u ∧ Below w.heap.size w ((w.alloc (.cells c t)).alloc (.cells d u)) := by
 refine ⟨(hrow.new w c t).below ((Below.refl _ _).alloc (Nat.le_refl _) _), ?_, (((Below.refl _ _).alloc (Nat.le_refl _) _).alloc (by simp) _)⟩
 have := hrow.new (w.alloc (.cells c t)) d u
 simpa using this

theorem both_any (w : World) (f t f' t' : Int) : Calls Try.prog 59 #[spv f t, spv f' t'] w fun r w' => r = .returned (.bool (spanR f t && spanR f' t')) ∧ Below w.heap.size w w' := by
 have HX := Lib.hid (two_boxes w #[.int .i64 f, .int .i64 t] #[.int .i64 f', .int .i64 t'] 41 41)
 generalize hx : spanR f t = x
 generalize hy : spanR f' t' = y
 go_enter Try.func59, Try.ntmps59
 go_wp2_with fail
 revert HX
 generalize (w.alloc (.cells #[.int .i64 f, .int .i64 t] 41)).alloc (.cells #[.int .i64 f', .int .i64 t'] 41) = wb
 intro HX
 refine (spanR_any _ f t).mono ?_
 rintro e w2 ⟨rfl, hb2⟩
 have HB2 := Lib.hid (HX.out.2.2.trans (hb2.mono HX.out.2.2.size))
 obtain ⟨c10, c11⟩ := ((HX.out.2.1.below hb2)).c2
 clear hb2
 cases x
 ·rw [hx]
  go_wp2_with fail
  go_ret
  exact ⟨rfl, HB2.out⟩
 ·rw [hx]
  go_wp2_with fail
  refine (spanR_any _ f' t').mono ?_
  rintro e w3 ⟨rfl, hb3⟩
  have HB3 := Lib.hid (HB2.out.trans (hb3.mono HB2.out.size))
  clear hb3
  rw [hy]
  go_wp2_with fail
  go_ret
  exact ⟨by simp, HB3.out⟩

theorem spanI_any (w : World) (f t f' t' : Int) : Calls Try.prog 43 #[spv f t, spv f' t'] w fun r w' => r = .returned (.bool (spanI f t f' t')) ∧ Below w.heap.size w w' := by
 have HX := Lib.hid (two_boxes w #[.int .i64 f, .int .i64 t] #[.int .i64 f', .int .i64 t'] 41 41)
 unfold spanI
 go_enter Try.func43, Try.ntmps43
 go_wp2_with fail
 revert HX
 generalize (w.alloc (.cells #[.int .i64 f, .int .i64 t] 41)).alloc (.cells #[.int .i64 f', .int .i64 t'] 41) = wb
 intro HX
 refine (both_any _ f t f' t').mono ?_
 rintro e w2 ⟨rfl, hb2⟩
 have HB2 := Lib.hid (HX.out.2.2.trans (hb2.mono HX.out.2.2.size))
 obtain ⟨c00, c01⟩ := ((HX.out.1.below hb2)).c2
 obtain ⟨c10, c11⟩ := ((HX.out.2.1.below hb2)).c2
 clear hb2
 generalize hx : (spanR f t && spanR f' t') = x
 cases x
 ·go_wp2_with fail
  go_ret
  exact ⟨by simp [hx], HB2.out⟩
 ·by_cases h1 : f' ≤ f
  ·by_cases h2 : t ≤ t'
   ·go_wp2_with fail
    go_ret
    exact ⟨by simp [hx, h1, h2], HB2.out⟩
   ·have hd : decide (t ≤ t') = false := decide_eq_false h2
    go_wp2_with fail
    go_ret
    exact ⟨by simp [hx, h1, h2], HB2.out⟩
  ·have hd : decide (f' ≤ f) = false := decide_eq_false h1
   go_wp2_with fail
   go_ret
   exact ⟨by rw [hx, hd]; rfl, HB2.out⟩

theorem done_any (w : World) (n f t u : Int) : Calls Try.prog 20 #[.agg #[.int .i64 n, .int .i64 f, .int .i64 t, .int .i64 u]] w fun r w' => r = .returned (.bool (n == 0)) ∧ Below w.heap.size w w' := by
 go_enter Try.func20, Try.ntmps20
 go_wp2
 go_ret
 exact ⟨rfl, (Below.refl _ _).alloc (Nat.le_refl _) _⟩

theorem takes_any (w : World) (n sf st u : Int) (x : Tw) : Calls Try.prog 21 #[.agg #[.int .i64 n, .int .i64 sf, .int .i64 st, .int .i64 u], .agg (twv x)] w fun r w' => r = .returned (.bool (takesB sf st u x)) ∧ Below w.heap.size w w' := by
 obtain ⟨a, b, f, t, k⟩ := x
 unfold takesB
 simp only [twv]
 have HX := Lib.hid (two_boxes w #[.int .i64 n, .int .i64 sf, .int .i64 st, .int .i64 u] #[.int .i64 a, .int .i64 b, .int .i64 f, .int .i64 t, .int .i64 k] 75 43)
 by_cases h1 : 0 ≤ a
 ·by_cases h2 : 0 ≤ b
  ·by_cases h3 : b ≤ 99
   ·by_cases h4 : 0 ≤ k
    ·go_enter Try.func21, Try.ntmps21
     go_wp2_with fail
     revert HX
     generalize (w.alloc _).alloc _ = wb
     intro HX
     have HB2 := Lib.hid HX.out.2.2
     refine (spanR_any _ f t).mono ?_
     rintro e w2 ⟨rfl, hb2⟩
     have HB2 := Lib.hid (HX.out.2.2.trans (hb2.mono HX.out.2.2.size))
     have HC := Lib.hid (HX.out.1.below hb2)
     have HD := Lib.hid (HX.out.2.1.below hb2)
     have c01 : w2.cell? ⟨w.heap.size, 1, none⟩ = some (.int .i64 sf) := HC.out.cell 1
     have c02 : w2.cell? ⟨w.heap.size, 2, none⟩ = some (.int .i64 st) := HC.out.cell 2
     have c12 : w2.cell? ⟨w.heap.size + 1, 2, none⟩ = some (.int .i64 f) := HD.out.cell 2
     have c13 : w2.cell? ⟨w.heap.size + 1, 3, none⟩ = some (.int .i64 t) := HD.out.cell 3
     clear hb2
     generalize hx : spanR f t = x
     cases x
     ·go_wp2_with fail
      go_ret
      exact ⟨by simp [hx], HB2.out⟩
     ·go_wp2_with fail
      refine (spanI_any _ f t sf st).mono ?_
      rintro e w3 ⟨rfl, hb3⟩
      have HB3 := Lib.hid (HB2.out.trans (hb3.mono HB2.out.size))
      have c03 : w3.cell? ⟨w.heap.size, 3, none⟩ = some (.int .i64 u) := (HC.out.below hb3).cell 3
      have c12 : w3.cell? ⟨w.heap.size + 1, 2, none⟩ = some (.int .i64 f) := (HD.out.below hb3).cell 2
      clear hb3
      generalize hy : spanI f t sf st = y
      cases y
      ·go_wp2_with fail
       go_ret
       exact ⟨by simp [hy], HB3.out⟩
      ·by_cases h5 : u ≤ f
       ·go_wp2_with fail
        go_ret
        exact ⟨by simp [h1, h2, h3, h4, h5, hx, hy], HB3.out⟩
       ·have hd : decide (u ≤ f) = false := decide_eq_false h5
        go_wp2_with fail
        go_ret
        exact ⟨by rw [hd, Bool.and_false]; rfl, HB3.out⟩
    ·have hd : decide (0 ≤ k) = false := decide_eq_false h4
     go_enter Try.func21, Try.ntmps21
     go_wp2_with fail
     go_ret
     exact ⟨by simp, HX.out.2.2⟩
   ·have hd : decide (b ≤ 99) = false := decide_eq_false h3
    go_enter Try.func21, Try.ntmps21
    go_wp2_with fail
    go_ret
    exact ⟨by simp, HX.out.2.2⟩
  ·have hd : decide (0 ≤ b) = false := decide_eq_false h2
   go_enter Try.func21, Try.ntmps21
   go_wp2_with fail
   go_ret
   exact ⟨by simp, HX.out.2.2⟩
 ·have hd : decide (0 ≤ a) = false := decide_eq_false h1
  go_enter Try.func21, Try.ntmps21
  go_wp2_with fail
  go_ret
  exact ⟨by simp, HX.out.2.2⟩
end Go.Proofs.Ytdnkffplkleolaa
