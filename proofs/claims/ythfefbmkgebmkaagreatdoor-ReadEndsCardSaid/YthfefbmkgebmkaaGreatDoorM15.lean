/- Walks and plain laws: Lb Perm La. -/
import Derived.Test.YthfefbmkgebmkaaGreatDoorM14
import Derived.Test.YthfefbmkgebmkaaGreatDoorM02
import Derived.OrdersHeld
import Derived.Deep.RegionHeld3
namespace Go.Proofs.YthfefbmkgebmkaaGreatDoor
open Go.RowKit
set_option maxRecDepth 100000
set_option maxHeartbeats 4000000

theorem elNode : Elem Tryz.prog 24 41 9 96 (.agg #[.int .i64 0, .int .u64 0, .int .u64 0, .int .u64 0, .int .u64 0, .string ⟨#[]⟩, .int .i64 0, .int .i64 0, .slice none 0 0]) := ⟨by kernel_rfl, by kernel_rfl, rfl, by decide⟩
theorem elRule : Elem Tryz.prog 23 48 2 24 (.agg #[.string ⟨#[]⟩, .int .i64 0]) := ⟨by kernel_rfl, by kernel_rfl, rfl, by decide⟩
theorem elIntS : Elem Tryz.prog 27 3 1 8 (.int .i64 0) := ⟨by kernel_rfl, by kernel_rfl, rfl, by decide⟩
theorem elStrS : Elem Tryz.prog 28 9 1 16 (.string ⟨#[]⟩) := ⟨by kernel_rfl, by kernel_rfl, rfl, by decide⟩
theorem nd_sz9 : (Tryz.prog.info? 41).map (·.size) = some 9 := by decide +kernel
/-- The first nine cells of a part are a node. -/
theorem part_node {z : World} {b : Nat} {x0 x1 x2 x3 x4 x5 x6 x7 x8 x9 xa xb : Value} {ty : TypeId} (h : hrow z b #[x0, x1, x2, x3, x4, x5, x6, x7, x8, x9, xa, xb] ty) : (loadVar 41 ⟨b, 0, none⟩).run Tryz.prog z = .ok (.agg #[x0, x1, x2, x3, x4, x5, x6, x7, x8]) z :=
 run_loadVar_part z ⟨b, 0, none⟩ _ _ _ (fun j v hj => by
  have e : (⟨b, 0, none⟩ : Addr).add j = ⟨b, j, none⟩ := by unfold Addr.add; split <;> simp_all
  rw [e, h.cell j]
  have hj9 : j < 9 := by have := (List.getElem?_eq_some_iff.1 hj).1; simpa using this
  rw [← hj]
  match j, hj9 with
  | 0, _ => rfl
  | 1, _ => rfl
  | 2, _ => rfl
  | 3, _ => rfl
  | 4, _ => rfl
  | 5, _ => rfl
  | 6, _ => rfl
  | 7, _ => rfl
  | 8, _ => rfl
  | j + 9, h => omega) Tryz.underlying41 rfl nd_sz9

theorem PtsW.at {w : World} {F : Nat → Prop} : ∀ {ps : List Pt} {bs : List Nat}, PtsW w F ps bs → ∀ (i : Nat) (h : i < ps.length), ∃ b, bs[i]? = some b ∧ PtW w F ps[i] b
 | [], _, _, i, h => by simp at h
 | p :: ps, bs, hp, i, h => by
  unfold PtsW at hp
  obtain ⟨b, r, rfl, h1, h2⟩ := hp
  cases i with
  | zero => exact ⟨b, rfl, h1⟩
  | succ i =>
   obtain ⟨c, hc, hq⟩ := PtsW.at h2 i (by simpa using h)
   exact ⟨c, by simpa using hc, hq⟩
/-- The tree's object and its rows. -/
structure PuI (w : World) (gt : Nat) (τ : Nat → Nat) (wr : World) (τ' : Nat → Nat) (cs : Array Value) (v1 v2 v3 v4 v5 : Value) (R : List Ru) (NK NL : List Nk) (RA NA : List Int) (NM : List ByteArray) : Prop where
 obj : hrow wr gt cs 30
 tr : TrR wr τ' v1 v2 v3 v4 v5 R NK NL RA NA NM
 tg : τ' gt = 1
 fr : Fr (fun k => τ k ≠ 0) w wr
 old : ∀ k, k < w.heap.size → τ' k = τ k
variable {w wr w' : World} {gt : Nat} {τ τ' : Nat → Nat} {cs : Array Value} {v1 v2 v3 v4 v5 v v' : Value} {R : List Ru} {NK NL : List Nk} {RA NA : List Int} {NM : List ByteArray}
theorem PuI.below (h : PuI w gt τ wr τ' cs v1 v2 v3 v4 v5 R NK NL RA NA NM) (hb : Below wr.heap.size wr w') : PuI w gt τ w' τ' cs v1 v2 v3 v4 v5 R NK NL RA NA NM where
 obj := h.obj.below hb
 tr := h.tr.below hb
 tg := h.tg
 fr := h.fr.trans (Fr.of_below (F := fun _ => False) hb) (fun _ _ e => e.elim)
 old := h.old
/-- A row's step. -/
theorem PuI.step {g : Nat} {w1 w2 w3 w4 w5 : Value} {R' : List Ru} {NK' NL' : List Nk} {RA' NA' : List Int} {NM' : List ByteArray} (h : PuI w gt τ wr τ' cs v1 v2 v3 v4 v5 R NK NL RA NA NM) (hg : wr.grownBy w' v.ownBlock) (hv : ∀ k, v.ownBlock = some k → τ' k = g) (hg2 : 2 ≤ g)
  (ht : TrR w' (tagN τ' wr.heap.size w'.heap.size g) w1 w2 w3 w4 w5 R' NK' NL' RA' NA' NM') : PuI w gt τ w' (tagN τ' wr.heap.size w'.heap.size g) cs w1 w2 w3 w4 w5 R' NK' NL' RA' NA' NM' where
 obj := h.obj.fr (Fr.grown hg) (fun e => by have := hv _ e; have := h.tg; omega)
 tr := ht
 tg := by rw [tagN_old h.obj.lt]; exact h.tg
 fr := h.fr.trans (Fr.grown hg) (fun k hk e => by have h1 := hv _ e; have h2 := h.old k hk; omega)
 old := fun k hk => by rw [tagN_old (Nat.lt_of_lt_of_le hk h.fr.size)]; exact h.old k hk
/-- A cell of the object is stored. -/
theorem PuI.put (h : PuI w gt τ wr τ' cs v1 v2 v3 v4 v5 R NK NL RA NA NM) (hτ : τ gt ≠ 0) (j : Nat) (u : Value) : PuI w gt τ (wr.setCell ⟨gt, j, none⟩ u) τ' (cs.setIfInBounds j u) v1 v2 v3 v4 v5 R NK NL RA NA NM where
 obj := h.obj.setCell j u
 tr := h.tr.fr (Fr.setCell wr ⟨gt, j, none⟩ u) (fun k _ hk e => by have e' : k = gt := e; have := h.tg; subst e'; omega)
 tg := h.tg
 fr := h.fr.trans (Fr.setCell wr ⟨gt, j, none⟩ u) (fun k _ e => by have e' : k = gt := e; rw [e']; exact hτ)
 old := h.old
/-- The kids' slice of a node, read. -/
theorem PuI.kidcell {g2 n3 e2 n : Nat} (h : PuI w gt τ wr τ' cs v1 (.slice (some ⟨g2, 0, none⟩) n3 e2) v3 v4 v5 R NK NL RA NA NM) (hn : n < NK.length) : wr.cell? ⟨g2, n * 9 + 8, none⟩ = some (.slice NK[n].2.1 NK[n].1.kids.length NK[n].2.2) := by
 have hx : (NK.flatMap ndc)[n * 9 + 8]? = some (.slice NK[n].2.1 NK[n].1.kids.length NK[n].2.2) := by
  rw [fl_at ndc_len NK n hn 8 (by decide)]; rfl
 have := h.tr.t3.1.cells (g := g2) rfl _ _ hx
 have e : (⟨g2, 0, none⟩ : Addr).add (n * 9 + 8) = ⟨g2, n * 9 + 8, none⟩ := by unfold Addr.add; split <;> simp_all
 rwa [e] at this
/-- The kids' slice is laid into its node. -/
theorem PuI.lay {g2 n3 e2 n : Nat} (h : PuI w gt τ wr τ' cs v1 (.slice (some ⟨g2, 0, none⟩) n3 e2) v3 v4 v5 R NK NL RA NA NM) (hl : NK.length = n3) (hn : n < NK.length) (k : Int) (q : Option Addr × Nat) :
  PuI w gt τ (wr.setCell ⟨g2, n * 9 + 8, none⟩ (.slice q.1 (NK[n].1.kids.length + 1) q.2)) τ' cs v1 (.slice (some ⟨g2, 0, none⟩) n3 e2) v3 v4 v5 R (NK.set n (kidP NK[n] k q)) NL RA NA NM := by
 have h3 : τ' g2 = 3 := h.tr.t3.2 g2 rfl
 have hf := Fr.setCell wr ⟨g2, n * 9 + 8, none⟩ (.slice q.1 (NK[n].1.kids.length + 1) q.2)
 refine ⟨h.obj.fr hf (fun e => ?_), h.tr.lay (by rw [hl]) hn k q, h.tg, h.fr.trans hf (fun j hj e => ?_), h.old⟩
 ·have e' : gt = g2 := e
  have := h.tg
  rw [e', h3] at this; cases this
 ·have e' : j = g2 := e
  have h4 := h.old j hj
  rw [e', h3] at h4
  rw [e']; omega
/-- What reads below is as it was. -/
theorem PuI.part {F : Nat → Prop} (h : PuI w gt τ wr τ' cs v1 v2 v3 v4 v5 R NK NL RA NA NM) {p : Pt} {b : Nat} (hp : PtW w (fun k => τ k = 0) p b) (hF : ∀ k, k < w.heap.size → τ k = 0 → F k) : PtW wr F p b :=
 PtW.fr h.fr (fun _ hk e => e hk.1) (fun _ hk => hF _ hk.2 hk.1) _ _ (PtW.bound _ _ hp)
/-- A tree, as it is known from outside. -/
theorem PuI.tree {R0 : List Rr} {N0 : List Rn} (h : PuI w gt τ wr τ' #[v1, v2, v3, v4, v5] v1 v2 v3 v4 v5 R NK NK RA NA NM) (h1 : R = R0.map Rr.ru) (h2 : RA = R0.map fun r => (r.at_ : Int)) (h3 : NA = N0.map fun x => (x.at_ : Int)) (h4 : NM = N0.map fun x => tx x.nm) (h5 : NK.map (·.1) = N0.map Rn.nd) : TrW wr gt τ' R0 N0 := by
 subst h1 h2 h3 h4
 exact ⟨⟨v1, v2, v3, v4, v5, NK, h.obj, h.tr, h5⟩, h.tg⟩
theorem len_szL : ∀ l : List Pt, l.length ≤ szL l
 | [] => Nat.le_refl _
 | p :: l => by have h1 := len_szL l; have h2 := sz_pos p; unfold szL; simp only [List.length_cons]; omega
theorem szL_take : ∀ (l : List Pt) (i : Nat) (h : i < l.length), szL (l.take i) + l[i].sz ≤ szL l
 | p :: l, 0, _ => by simp only [List.take_zero, List.getElem_cons_zero, szL]; omega
 | p :: l, i + 1, h => by have := szL_take l i (by simpa using h); simp only [List.take_succ_cons, List.getElem_cons_succ, szL]; omega
theorem owns_frozen {w : World} {base : Nat} {e : TypeId} {size n c g : Nat} {xs : List Value} (h : w.ownsRow base e size (.slice (some ⟨g, 0, none⟩) n c) n xs) (o : Nat) : w.frozen? ⟨g, o, none⟩ = false := by
 rcases h.2 with ⟨h1, _⟩ | ⟨g', cap, cur, h1, _, hh, _⟩
 ·cases h1
 ·cases h1; exact hrow.frozen (cs := cur) hh o
theorem setL_at {α : Type} (a c : List α) (b b' : α) : (a ++ [b] ++ c).set a.length b' = a ++ [b'] ++ c := by
 simp
theorem getL_at {α : Type} (a c : List α) (b : α) (h : a.length < (a ++ [b] ++ c).length) : (a ++ [b] ++ c)[a.length] = b := by
 simp
theorem TrW.start {R0 : List Rr} {N0 : List Rn} (h : TrW wr gt τ' R0 N0) (hf : Fr (fun k => τ k ≠ 0) w wr) (ho : ∀ k, k < w.heap.size → τ' k = τ k) :
  ∃ (a1 : Value) (a2 : Option Addr) (d2 : Nat) (a3 : Value) (a4 : Option Addr) (d4 : Nat) (a5 : Value) (NK : List Nk), NK.length = N0.length ∧ NK.map (·.1) = N0.map Rn.nd ∧
   PuI w gt τ wr τ' #[a1, .slice a2 N0.length d2, a3, .slice a4 N0.length d4, a5] a1 (.slice a2 N0.length d2) a3 (.slice a4 N0.length d4) a5 (R0.map Rr.ru) NK NK (R0.map fun r => (r.at_ : Int)) (N0.map fun x => (x.at_ : Int)) (N0.map fun x => tx x.nm) := by
 obtain ⟨⟨v1, v2, v3, v4, v5, NK, hg, hR, hNK⟩, htg⟩ := h
 have hl2 : NK.length = N0.length := by have := congrArg List.length hNK; simpa using this
 obtain ⟨ao4, c4, e4, _⟩ := hR.t5.sv
 obtain ⟨ao2, c2, e2, _⟩ := hR.t3.sv
 simp only [List.length_map, hl2] at e4 e2
 subst e4 e2
 exact ⟨v1, ao2, c2, v3, ao4, c4, v5, NK, hl2, hNK, hg, hR, htg, hf, ho⟩
/-- A part's cells and kids, wherever only the tree has turned. -/
theorem part_keep {k : Nat} {cl : List (UInt8 × UInt8)} {t : List UInt8} {lv : Int} {at0 : Nat} {nm : List UInt8} {ks : List Pt} {b : Nat} (hp : PtW w (fun k => τ k = 0) (.mk k cl t lv at0 nm ks) b) :
  ∃ (ao : Option Addr) (cap : Nat) (bs : List Nat), ∀ x, Fr (fun k => τ k ≠ 0) w x → hrow x b (ptC k cl t lv at0 nm ao ks.length cap) 135 ∧ Sv x ao ks.length cap 1 (bs.map ptr) ∧ PtsW x (fun k => τ k = 0 ∧ k < w.heap.size) ks bs := by
 have hp := PtW.bound _ _ hp
 unfold PtW at hp
 obtain ⟨h0, ao, cap, bs, h1, h2, h3, h4⟩ := hp
 refine ⟨ao, cap, bs, fun x hx => ⟨h1.fr hx (fun e => e h0.1), h2.fr hx (fun a ha hn e => e (h3 a ha (fun e0 => by subst e0; simp at hn)).1), PtsW.fr hx (fun k hk e => e hk.1) (fun _ h => h) _ _ h4⟩⟩
theorem PuI.cells {k : Nat} {cl : List (UInt8 × UInt8)} {t : List UInt8} {lv : Int} {at0 : Nat} {nm : List UInt8} {ks : List Pt} {b : Nat} (h : PuI w gt τ wr τ' cs v1 v2 v3 v4 v5 R NK NL RA NA NM) (hp : PtW w (fun k => τ k = 0) (.mk k cl t lv at0 nm ks) b) :
  ∃ ao cap bs, hrow wr b (ptC k cl t lv at0 nm ao ks.length cap) 135 ∧ Sv wr ao ks.length cap 1 (bs.map ptr) ∧ PtsW wr (fun k => τ k = 0 ∧ k < w.heap.size) ks bs := by
 have := h.part (F := fun k => τ k = 0 ∧ k < w.heap.size) hp (fun k h1 h2 => ⟨h2, h1⟩)
 unfold PtW at this
 obtain ⟨_, ao, cap, bs, h1, h2, _, h3⟩ := this
 exact ⟨ao, cap, bs, h1, h2, h3⟩
theorem PuI.node_ld {k : Nat} {cl : List (UInt8 × UInt8)} {t : List UInt8} {lv : Int} {at0 : Nat} {nm : List UInt8} {ks : List Pt} {b : Nat} (h : PuI w gt τ wr τ' cs v1 v2 v3 v4 v5 R NK NL RA NA NM) (hp : PtW w (fun k => τ k = 0) (.mk k cl t lv at0 nm ks) b) :
  (loadVar 41 ⟨b, 0, none⟩).run Tryz.prog wr = .ok (.agg #[.int .i64 k, .int .u64 (clsW cl 0), .int .u64 (clsW cl 1), .int .u64 (clsW cl 2), .int .u64 (clsW cl 3), .string (tx t), .int .i64 0, .int .i64 lv, .slice none 0 0]) wr := by
 obtain ⟨ao, cap, bs, h1, _⟩ := h.cells hp
 exact part_node h1
end Go.Proofs.YthfefbmkgebmkaaGreatDoor
namespace Go
open Go.RowKit

section
variable {P : Program} {ops : Array Oper} {md : Region.Mode} {C : World → Prop}

/-- Of each operation, the bits of all that it waits for, at first hand or through others. -/
def Region.ancs (md : Region.Mode) : List Oper → Array Nat → Array Nat
 | [], acc => acc
 | o :: r, acc => Region.ancs md r (acc.push (o.after.toList.foldr (fun e s => if Region.binds md e then 2 ^ e.on ||| acc.getD e.on 0 ||| s else s) 0))

/-- All that j waits for at first hand has come up. -/
def Region.Direct (md : Region.Mode) (ops : Array Oper) (listed : Array Bool) (j : Nat) : Prop :=
 ∀ oj, ops[j]? = some oj → ∀ e ∈ oj.after, Region.binds md e = true → listed.getD e.on false = true

theorem fold_bits {acc : Array Nat} {j : Nat} : ∀ (es : List Edge), (es.foldr (fun e s => if Region.binds md e then 2 ^ e.on ||| acc.getD e.on 0 ||| s else s) 0).testBit j = true →
  ∃ e ∈ es, Region.binds md e = true ∧ (e.on = j ∨ (acc.getD e.on 0).testBit j = true)
 | [], h => by simp at h
 | e :: r, h => by
  simp only [List.foldr_cons] at h
  split at h
  ·rename_i hb
   rw [Nat.testBit_or, Nat.testBit_or, Nat.testBit_two_pow] at h
   simp only [Bool.or_eq_true, decide_eq_true_eq] at h
   rcases h with (h | h) | h
   ·exact ⟨e, by simp, hb, .inl h⟩
   ·exact ⟨e, by simp, hb, .inr h⟩
   ·obtain ⟨e', h1, h2⟩ := fold_bits r h
    exact ⟨e', by simp [h1], h2⟩
  ·obtain ⟨e', h1, h2⟩ := fold_bits r h
   exact ⟨e', by simp [h1], h2⟩

theorem ancs_spec {listed : Array Bool} (hcl : ∀ j, listed.getD j false = true → Region.Direct md ops listed j) : ∀ (l : List Oper) (acc : Array Nat), (∀ k, l[k]? = ops[acc.size + k]?) →
  (∀ t, t < acc.size → Region.Direct md ops listed t → ∀ j, (acc.getD t 0).testBit j = true → listed.getD j false = true) →
  ∀ t, Region.Direct md ops listed t → ∀ j, ((Region.ancs md l acc).getD t 0).testBit j = true → listed.getD j false = true
 | [], acc, _, hacc => by
  intro t hd j hj
  simp only [Region.ancs] at hj
  rcases Nat.lt_or_ge t acc.size with h | h
  ·exact hacc t h hd j hj
  ·simp [Array.getD, Nat.not_lt.2 h] at hj
 | o :: r, acc, hl, hacc => by
  refine ancs_spec hcl r _ (fun k => ?_) ?_
  ·have := hl (k + 1)
   simp only [List.getElem?_cons_succ] at this
   rw [this]; congr 1; simp; omega
  ·intro t ht hd j hj
   simp only [Array.size_push] at ht
   rcases Nat.lt_or_ge t acc.size with h | h
   ·refine hacc t h hd j ?_
    simpa [Array.getD, h, Nat.lt_succ_of_lt h, Array.getElem_push_lt h] using hj
   ·have hte : t = acc.size := by omega
    subst hte
    have h0 : ops[acc.size]? = some o := by have := hl 0; simpa using this.symm
    have hj' : (o.after.toList.foldr (fun e s => if Region.binds md e then 2 ^ e.on ||| acc.getD e.on 0 ||| s else s) 0).testBit j = true := by
     simpa [Array.getD] using hj
    obtain ⟨e, he, hb, h1⟩ := fold_bits _ hj'
    have hon := hd o h0 e (by simpa using he) hb
    rcases h1 with h1 | h1
    ·rw [← h1]; exact hon
    ·rcases Nat.lt_or_ge e.on acc.size with h2 | h2
     ·exact hacc _ h2 (hcl _ hon) j h1
     ·simp [Array.getD, Nat.not_lt.2 h2] at h1

/-- While heads come up. -/
structure HeadInv2 (md : Region.Mode) (ops : Array Oper) (listed : Array Bool) : Prop where
 size : listed.size = ops.size
 closed : ∀ j, listed.getD j false = true → Region.Direct md ops listed j

def Region.closedB (md : Region.Mode) (ops : Array Oper) (listed : Array Bool) : Bool :=
 decide (listed.size = ops.size) && (List.range ops.size).all fun j => !listed.getD j false || ((ops[j]?).map (·.after.all fun e => !Region.binds md e || listed.getD e.on false)).getD true

theorem HeadInv2.of_closedB {listed : Array Bool} (h : Region.closedB md ops listed = true) : HeadInv2 md ops listed := by
 simp only [Region.closedB, Bool.and_eq_true, decide_eq_true_eq, List.all_eq_true] at h
 refine ⟨h.1, fun j hj oj ho e he hb => ?_⟩
 have hlt : j < ops.size := (Array.getElem?_eq_some_iff.1 ho).1
 have h2 := h.2 j (List.mem_range.2 hlt)
 simp only [hj, Bool.not_true, Bool.false_or, ho, Option.map_some, Option.getD_some, Array.all_eq_true_iff_forall_mem] at h2
 have h3 := h2 e he
 simpa [hb] using h3

/-- Whatever has not come up, and is none of all, waits for all of hs. -/
def Region.sink2 (md : Region.Mode) (ops : Array Oper) (all hs : List Nat) (listed : Array Bool) : Bool :=
 let b := Region.ancs md ops.toList #[]
 (List.range ops.size).all fun t => all.contains t || listed.getD t true || hs.all fun i => (b.getD t 0).testBit i

theorem HeadInv2.set {i : Nat} {listed : Array Bool} (inv : HeadInv2 md ops listed) (hi : i ∈ Region.ready md ops listed) : HeadInv2 md ops (listed.setIfInBounds i true) := by
 obtain ⟨_, oi, hoi, hall⟩ := mem_ready.1 hi
 refine ⟨by simp [inv.size], fun j hl oj hj e he hb => ?_⟩
 by_cases hij : i = j
 ·subst hij
  have : oj = oi := Option.some.inj (hj.symm.trans hoi)
  subst this
  exact getD_set_true (hall e he hb)
 ·rw [getD_set_ne false hij] at hl
  exact getD_set_true (inv.closed j hl oj hj e he hb)

theorem tail_waits2 {all hs : List Nat} {listed0 listed : Array Bool} (hk : Region.sink2 md ops all hs listed0 = true) (hmo : ∀ t, listed0.getD t true = true → listed.getD t true = true) (inv : HeadInv2 md ops listed) {i t : Nat} (hi : hs.contains i = true) (hun : listed.getD i true = false)
  (ht : t ∈ Region.ready md ops listed) : all.contains t = true := by
 obtain ⟨htu, ot, hot, hall⟩ := mem_ready.1 ht
 have htlt : t < ops.size := (Array.getElem?_eq_some_iff.1 hot).1
 have h1 := List.all_eq_true.1 hk t (List.mem_range.2 htlt)
 simp only [Bool.or_eq_true] at h1
 rcases h1 with (h1 | h1) | h1
 ·exact h1
 ·rw [hmo t h1] at htu; cases htu
 ·have h2 := List.all_eq_true.1 h1 i (by simpa using hi)
  have := ancs_spec (md := md) (ops := ops) inv.closed ops.toList #[] (fun k => by simp) (fun t ht => by simp at ht) t (fun oj hoj e he hb => by
   have : oj = ot := Option.some.inj (hoj.symm.trans hot)
   subst this; exact hall e he hb) i h2
  rw [getD_both hun] at this
  cases this

theorem mono_set {listed0 listed : Array Bool} {i : Nat} (h : ∀ t, listed0.getD t true = true → listed.getD t true = true) : ∀ t, listed0.getD t true = true → (listed.setIfInBounds i true).getD t true = true := by
 intro t ht
 by_cases hit : i = t
 ·subst hit
  rcases Nat.lt_or_ge i listed.size with h1 | h1
  ·simp [h1]
  ·simp [h1]
 ·rw [getD_set_ne true hit]; exact h t ht

/-- Heads (of all) are quiet in the class; whatever else comes up is shown from every world of the class. -/
def wpM (P : Program) (md : Region.Mode) (ops : Array Oper) (C : World → Prop) (Q : Exit → Act → World → Prop) (all : List Nat) : Nat → Array Bool → Act → Prop
 | 0, listed, a => Region.ready md ops listed = [] ∧ ∀ w, C w → Q .normal a w
 | f + 1, listed, a =>
  (Region.ready md ops listed = [] → ∀ w, C w → Q .normal a w) ∧ ∀ i ∈ Region.ready md ops listed,
   (all.contains i = true ∧ qOp P ops C i (wpM P md ops C Q all f (listed.setIfInBounds i true)) a) ∨
   (all.contains i = false ∧ ∀ w, C w → wpOp P ops Q i (wpAny P md ops Q f (listed.setIfInBounds i true)) a w)

theorem wpAny_of_M {all : List Nat} {Q : Exit → Act → World → Prop} : ∀ (f : Nat) (listed : Array Bool) (a : Act) (w : World), C w → wpM P md ops C Q all f listed a → wpAny P md ops Q f listed a w
 | 0, _, _, _, hw, h => ⟨h.1, h.2 _ hw⟩
 | f + 1, listed, a, w, hw, h => ⟨fun h0 => h.1 h0 _ hw, fun i hi => by
   rcases h.2 i hi with h1 | h1
   ·exact wpOp_of_qOp hw (fun a' w' hw' h' => wpAny_of_M f _ a' w' hw' h') h1.2
   ·exact h1.2 w hw⟩

theorem wpM_rest {all : List Nat} {Q : Exit → Act → World → Prop} {f : Nat} {listed : Array Bool} {a : Act} (hd : all.all (fun i => listed.getD i true) = true) (h : ∀ w, C w → wpAny P md ops Q f listed a w) (hne : ∃ w, C w) : wpM P md ops C Q all f listed a := by
 have hno : ∀ i ∈ Region.ready md ops listed, all.contains i = false := fun i hi => by
  cases hc : all.contains i with
  | false => rfl
  | true =>
   have h2 := List.all_eq_true.1 hd i (by simpa using hc)
   rw [(mem_ready.1 hi).1] at h2; cases h2
 cases f with
 | zero => obtain ⟨w, hw⟩ := hne; exact ⟨(h w hw).1, fun w hw => (h w hw).2⟩
 | succ f => exact ⟨fun h0 w hw => (h w hw).1 h0, fun i hi => .inr ⟨hno i hi, fun w hw => (h w hw).2 i hi⟩⟩

theorem wpM_first {all hs : List Nat} {listed0 : Array Bool} {Q : Exit → Act → World → Prop} {i : Nat} {oi : Oper} {v : Value} (hi : ops[i]? = some oi) (hsel : ∀ (j : Nat) (o : Oper) cs b, ops[j]? = some o → o.op ≠ .select cs b)
  (hin : all.contains i = true) :
  ∀ (f : Nat) (listed : Array Bool) (a : Act), HeadInv2 md ops listed → (∀ t, listed0.getD t true = true → listed.getD t true = true) →
   (∀ j oj, ops[j]? = some oj → j ≠ i → listed.getD j true = false → (∀ e ∈ oj.after, Region.binds md e = true → e.on ≠ i) → oi.apart ops oj = true) →
   i ∈ Region.ready md ops listed → YieldsIn P ops C oi v a → ((Yields P ops oi v a ∧ ∀ c a w, Q (.panic c) (a.put oi.dst v) w → Q (.panic c) a w) ∨ (hs.contains i = true ∧ Region.sink2 md ops all hs listed0 = true)) →
   wpM P md ops C Q all f (listed.setIfInBounds i true) (a.put oi.dst v) → wpM P md ops C Q all (f + 1) listed a := by
 intro f
 induction f with
 | zero =>
  intro listed a inv hmo _ hr hy hp H
  refine ⟨fun h => (by rw [h] at hr; cases hr), fun j hj => ?_⟩
  by_cases hji : j = i
  ·subst hji; exact .inl ⟨hin, hy.qOp hi H⟩
  ·have := ready_mono hj hji
   rw [H.1] at this; cases this
 | succ f ih =>
  intro listed a inv hmo hfree hr hy hp H
  have hun := (mem_ready.1 hr).1
  refine ⟨fun h => (by rw [h] at hr; cases hr), fun j hj => ?_⟩
  by_cases hji : j = i
  ·subst hji; exact .inl ⟨hin, hy.qOp hi H⟩
  ·have h1 := H.2 j (ready_mono hj hji)
   obtain ⟨hjun, oj, hoj, hall⟩ := mem_ready.1 hj
   have hnot : ∀ e ∈ oj.after, Region.binds md e = true → e.on ≠ i := fun e he hb heq => by
    have h1 := hall e he hb
    rw [heq, getD_both hun] at h1
    cases h1
   have hap := hfree j oj hoj hji hjun hnot
   have hfree' : ∀ k ok, ops[k]? = some ok → k ≠ i → (listed.setIfInBounds j true).getD k true = false →
     (∀ e ∈ ok.after, Region.binds md e = true → e.on ≠ i) → oi.apart ops ok = true := fun k ok hk hki hun hno => by
    refine hfree k ok hk hki ?_ hno
    by_cases hjk : j = k
    ·subst hjk; exact hjun
    ·rw [getD_set_ne true hjk] at hun; exact hun
   rcases h1 with ⟨hc, h1⟩ | ⟨hc, h1⟩
   ·have h2 := qOp_put hoj hap (fun cs b => hsel i oi cs b hi) (fun cs b => hsel j oj cs b hoj) hy h1
    have keep : ∀ (a : Act), ((Yields P ops oi v a ∧ ∀ c a w, Q (.panic c) (a.put oi.dst v) w → Q (.panic c) a w) ∨ (hs.contains i = true ∧ Region.sink2 md ops all hs listed0 = true)) → ∀ u, ((Yields P ops oi v (a.put oj.dst u) ∧ ∀ c a w, Q (.panic c) (a.put oi.dst v) w → Q (.panic c) a w) ∨ (hs.contains i = true ∧ Region.sink2 md ops all hs listed0 = true)) := fun a h u => by
     obtain ⟨_, _, h3⟩ := Oper.apart_spec hap
     exact Or.imp (fun hy => ⟨hy.1.of_same (execOp_put oi (fun cs b => hsel i oi cs b hi) a oj.dst u h3) (wanted_put oi a oj.dst u h3), hy.2⟩) id h
    refine .inl ⟨hc, ?_⟩
    obtain ⟨u, hu, hK⟩ := yieldsIn_of_qOp hoj h2
    refine hu.qOp hoj ?_
    have h4 := ih (listed.setIfInBounds j true) (a.put oj.dst u) (inv.set hj) (mono_set hmo) hfree' (ready_mono hr (Ne.symm hji)) hK.1 (keep a hp u) (by rw [Array.setIfInBounds_comm _ _ hji]; exact hK.2)
    exact h4
   ·rcases hp with hp | hp
    ·refine .inr ⟨hc, fun w hw => ?_⟩
     have h2 := wpOp_put hoj hap (fun cs b => hsel i oi cs b hi) (fun cs b => hsel j oj cs b hoj) hp.2 hp.1 (h1 w hw)
     refine wpOp_mono (fun a' w' h3 => wpAny_first hi hsel hp.2 f (listed.setIfInBounds j true) a' w' hfree' (ready_mono hr (Ne.symm hji)) h3.1 ?_) h2
     rw [Array.setIfInBounds_comm _ _ hji]
     exact h3.2
    ·have := tail_waits2 hp.2 hmo inv hp.1 hun hj
     rw [hc] at this; cases this

def Region.setAll : List Nat → Array Bool → Array Bool
 | [], listed => listed
 | k :: r, listed => Region.setAll r (listed.setIfInBounds k true)

def Region.permHead (md : Region.Mode) (ops : Array Oper) : List Nat → Array Bool → Bool
 | [], _ => true
 | k :: r, listed => (Region.ready md ops listed).contains k && Region.free md ops listed k && Region.permHead md ops r (listed.setIfInBounds k true)

def Region.headsB (md : Region.Mode) (ops : Array Oper) (all hs : List Nat) (listed : Array Bool) : Bool :=
 Region.noSelect ops && Region.closedB md ops listed && Region.sink2 md ops all hs listed && (hs.all fun i => all.contains i) && Region.permHead md ops hs listed

theorem wpM_lex {all hs : List Nat} {listed0 : Array Bool} {Q : Exit → Act → World → Prop} {g : Nat} (hsel : Region.noSelect ops = true) (hk : Region.sink2 md ops all hs listed0 = true) :
  ∀ (is : List Nat) (l : List Oper) (listed : Array Bool) (a : Act), (∀ i ∈ is, hs.contains i = true ∧ all.contains i = true) → is.map (fun k => ops[k]?) = l.map some → HeadInv2 md ops listed → (∀ t, listed0.getD t true = true → listed.getD t true = true) →
  Region.permHead md ops is listed = true → wpQuiet P ops C (wpM P md ops C Q all g (Region.setAll is listed)) l a →
  wpM P md ops C Q all (is.length + g) listed a
 | [], l, listed, a, _, hl, _, _, _, h => by
  have : l = [] := by simpa using hl.symm
  subst this
  rw [show ([] : List Nat).length + g = g by simp]; exact h
 | k :: is, l, listed, a, hin, hl, inv, hmo, hB, h => by
  match l, hl with
  | o :: l, hl' =>
   simp only [List.map_cons, List.cons.injEq] at hl'
   obtain ⟨h0, hl2⟩ := hl'
   simp only [Region.permHead, Bool.and_eq_true] at hB
   obtain ⟨⟨hr, hf⟩, hB'⟩ := hB
   have hr' : k ∈ Region.ready md ops listed := by simpa using hr
   have hst : qOp P ops C k (wpQuiet P ops C (wpM P md ops C Q all g (Region.setAll is (listed.setIfInBounds k true))) l) a := by unfold qOp; simp only [h0]; exact h
   obtain ⟨v, hy, hK⟩ := yieldsIn_of_qOp h0 hst
   rw [show (k :: is).length + g = (is.length + g) + 1 by simp; omega]
   exact wpM_first (listed0 := listed0) h0 (Region.noSelect_spec hsel) (hin k (by simp)).2 (is.length + g) listed a inv hmo (Region.free_spec h0 hf) hr' hy (.inr ⟨(hin k (by simp)).1, hk⟩)
    (wpM_lex hsel hk is l _ _ (fun i hi => hin i (by simp [hi])) hl2 (inv.set hr') (mono_set hmo) hB' hK)

def pickOps (l : List Oper) : List Nat → List Oper
 | [] => []
 | i :: is => l.getD i default :: pickOps l is

/-- The beginning: from the world behind the draw. -/
theorem wp_region_M {id : Nat} {Q : Exit → Act → World → Prop} {a : Act} {w : World} {l : List Oper} (all : List Nat) (hm : P.follows .mixedOrders = true) (hC : C w.drew)
  (h : wpM P .any l.toArray C Q all l.toArray.size (Array.replicate l.toArray.size false) a) : (Code.region id l.toArray true).wp P Q a w :=
 wp_region_any hm (wpAny_of_M _ _ _ w.drew hC h)

/-- The heads hs, quiet in the class. -/
theorem wpM_heads {Q : Exit → Act → World → Prop} {l : List Oper} {all : List Nat} {listed : Array Bool} {a : Act} (hs : List Nat) (g : Nat) (hB : Region.headsB md l.toArray all hs listed = true)
  (h1 : hs.map (fun k => l.toArray[k]?) = (pickOps l hs).map some)
  (h : wpQuiet P l.toArray C (wpM P md l.toArray C Q all g (Region.setAll hs listed)) (pickOps l hs) a) : wpM P md l.toArray C Q all (hs.length + g) listed a := by
 simp only [Region.headsB, Bool.and_eq_true] at hB
 obtain ⟨⟨⟨⟨hsel, hcl⟩, hk⟩, hall⟩, hp⟩ := hB
 exact wpM_lex hsel hk hs _ listed a (fun i hi => ⟨by simpa using hi, List.all_eq_true.1 hall i hi⟩) h1 (HeadInv2.of_closedB hcl) (fun t ht => ht) hp h

/-- One that yields in whatever world. -/
theorem wpM_pure {Q : Exit → Act → World → Prop} {l : List Oper} {all : List Nat} {listed : Array Bool} {a : Act} {v : Value} (i f : Nat) (hs : Region.noSelect l.toArray = true) (hcl : Region.closedB md l.toArray listed = true) (hf : Region.free md l.toArray listed i = true)
  (hr : (Region.ready md l.toArray listed).contains i = true) (hall : all.contains i = true) (hi : l.toArray[i]? = some (l.getD i default)) (hQ : ∀ c a w, Q (.panic c) (a.put (l.getD i default).dst v) w → Q (.panic c) a w)
  (hw : Region.wanted (l.getD i default) (yielded l.toArray a.tmps) = true) (hy : ∀ w, (execOp a.eval (l.getD i default)).run P w = .ok (.value v) w)
  (h : wpM P md l.toArray C Q all f (listed.setIfInBounds i true) (a.put (l.getD i default).dst v)) : wpM P md l.toArray C Q all (f + 1) listed a :=
 wpM_first (hs := []) (listed0 := listed) hi (Region.noSelect_spec hs) hall f listed a (HeadInv2.of_closedB hcl) (fun _ h => h) (Region.free_spec hi hf) (by simpa using hr)
  (.inl ⟨hw, fun w _ => by unfold Oper.quietAt; rw [hy w]; exact ⟨rfl, rfl⟩⟩) (.inl ⟨.inl ⟨hw, hy⟩, hQ⟩) h

def Region.seqL (md : Region.Mode) (ops : Array Oper) : List Nat → Array Bool → Bool
 | [], listed => (Region.ready md ops listed).isEmpty
 | k :: r, listed => decide (Region.ready md ops listed = [k]) && Region.seqL md ops r (listed.setIfInBounds k true)

theorem wpAny_seq' {Q' : Exit → Act → World → Prop} : ∀ (ts : List Nat) (l : List Oper) (listed : Array Bool) (a : Act) (w : World), ts.map (fun k => ops[k]?) = l.map some →
  Region.seqL md ops ts listed = true → wpList P ops Q' l a w → wpAny P md ops Q' ts.length listed a w
 | [], l, _, _, _, hl, hB, h => by
  have : l = [] := by simpa using hl.symm
  subst this
  exact ⟨by simpa [Region.seqL] using hB, h⟩
 | k :: ts, l, listed, a, w, hl, hB, h => by
  match l, hl with
  | o :: l, hl' =>
   simp only [List.map_cons, List.cons.injEq] at hl'
   obtain ⟨h0, hl2⟩ := hl'
   simp only [Region.seqL, Bool.and_eq_true, decide_eq_true_eq] at hB
   refine ⟨fun h1 => (by rw [hB.1] at h1; cases h1), fun i hi => ?_⟩
   rw [hB.1] at hi
   have hik : i = k := by simpa using hi
   subst hik
   have hw : wpOp P ops Q' i (wpList P ops Q' l) a w := by unfold wpOp; simp only [h0]; exact h
   exact wpOp_mono (fun a' w' h' => wpAny_seq' ts l _ a' w' hl2 hB.2 h') hw

/-- The tail ts, in its one order. -/
theorem wpAny_tail {Q : Exit → Act → World → Prop} {l : List Oper} {listed : Array Bool} {a : Act} {w : World} (ts : List Nat) (hB : Region.seqL md l.toArray ts listed = true)
  (h1 : ts.map (fun k => l.toArray[k]?) = (pickOps l ts).map some) (h : wpList P l.toArray Q (pickOps l ts) a w) : wpAny P md l.toArray Q ts.length listed a w :=
 wpAny_seq' ts _ listed a w h1 hB h

end
end Go
namespace Go

section
variable {P : Program} {ops : Array Oper} {md : Region.Mode} {Q : Exit → Act → World → Prop} {S : World → Prop}

theorem wpT_then {o : Oper} {K : Act → World → Prop} {a : Act} {w : World} (h : o.wp P a w K (Exit.then K Q)) : o.wp P a w K Q := by
 unfold Oper.wp at *
 generalize (execOp a.eval o).run P w = r at *
 cases r with
 | ok x w' =>
  cases x <;> simp only [Oper.upon] at h ⊢ <;>
   first
    | exact h
    | exact Calls.mono h (fun e w'' he => by cases e <;> exact he)
 | halt x w' => cases x <;> simp only [Oper.upon] at h ⊢ <;> exact h
theorem wpOp_of_list1 {i : Nat} {o : Oper} {K : Act → World → Prop} {a : Act} {w : World} (hi : ops[i]? = some o) (h : wpList P ops (Exit.then K Q) [o] a w) : wpOp P ops Q i K a w := by
 unfold wpOp
 rw [hi]
 simp only [wpList] at h ⊢
 split at h
 ·rename_i hw; rw [if_pos hw]; exact h.imp wpT_then (fun h => ⟨h.1, h.2⟩)
 ·rename_i hw; rw [if_neg hw]; exact h

/-- Up to a tail: S holds behind every operation. -/
def wpAnyT (P : Program) (md : Region.Mode) (ops : Array Oper) (Q : Exit → Act → World → Prop) (S : World → Prop) (all : List Nat) (g : Nat) : Nat → Array Bool → Act → World → Prop
 | 0, listed, a, w => (∀ i ∈ Region.ready md ops listed, all.contains i = false) ∧ wpAny P md ops Q g listed a w
 | f + 1, listed, a, w => Region.ready md ops listed ≠ [] ∧ ∀ i ∈ Region.ready md ops listed, all.contains i = true ∧ wpOp P ops Q i (fun a' w' => S w' ∧ wpAnyT P md ops Q S all g f (listed.setIfInBounds i true) a' w') a w

theorem wpAny_of_T {all : List Nat} {g : Nat} : ∀ (f : Nat) (listed : Array Bool) (a : Act) (w : World), wpAnyT P md ops Q S all g f listed a w → wpAny P md ops Q (f + g) listed a w
 | 0, _, _, _, h => by rw [Nat.zero_add]; exact h.2
 | f + 1, _, _, _, h => by
  rw [show f + 1 + g = (f + g) + 1 by omega]
  exact ⟨fun e => absurd e h.1, fun i hi => wpOp_mono (fun a' w' h' => wpAny_of_T f _ a' w' h'.2) (h.2 i hi).2⟩

theorem wpAnyT_first {all hs : List Nat} {g : Nat} {listed0 : Array Bool} {i : Nat} {oi : Oper} {v : Value} (hi : ops[i]? = some oi) (hsel : ∀ (j : Nat) (o : Oper) cs b, ops[j]? = some o → o.op ≠ .select cs b)
  (hin : all.contains i = true) (hih : hs.contains i = true) (hk : Region.sink2 md ops all hs listed0 = true) (hQ : ∀ c a w, Q (.panic c) (a.put oi.dst v) w → Q (.panic c) a w) :
  ∀ (f : Nat) (listed : Array Bool) (a : Act) (w : World), HeadInv2 md ops listed → (∀ t, listed0.getD t true = true → listed.getD t true = true) →
   (∀ j oj, ops[j]? = some oj → j ≠ i → listed.getD j true = false → (∀ e ∈ oj.after, Region.binds md e = true → e.on ≠ i) → oi.apart ops oj = true) →
   i ∈ Region.ready md ops listed → YieldsIf P ops S oi v a → S w →
   wpAnyT P md ops Q S all g f (listed.setIfInBounds i true) (a.put oi.dst v) w → wpAnyT P md ops Q S all g (f + 1) listed a w := by
 intro f
 induction f with
 | zero =>
  intro listed a w inv hmo _ hr hy hS H
  have hun := (mem_ready.1 hr).1
  refine ⟨fun h => (by rw [h] at hr; cases hr), fun j hj => ?_⟩
  by_cases hji : j = i
  ·subst hji; exact ⟨hin, hy.wpOp hi hS ⟨hS, H⟩⟩
  ·have h1 := H.1 j (ready_mono hj hji)
   have h2 := tail_waits2 hk hmo inv hih hun hj
   rw [h1] at h2; cases h2
 | succ f ih =>
  intro listed a w inv hmo hfree hr hy hS H
  have hun := (mem_ready.1 hr).1
  refine ⟨fun h => (by rw [h] at hr; cases hr), fun j hj => ?_⟩
  by_cases hji : j = i
  ·subst hji; exact ⟨hin, hy.wpOp hi hS ⟨hS, H⟩⟩
  ·obtain ⟨hc, h1⟩ := H.2 j (ready_mono hj hji)
   refine ⟨hc, ?_⟩
   obtain ⟨hjun, oj, hoj, hall⟩ := mem_ready.1 hj
   have hnot : ∀ e ∈ oj.after, Region.binds md e = true → e.on ≠ i := fun e he hb heq => by
    have h1 := hall e he hb
    rw [heq, getD_both hun] at h1
    cases h1
   have h2 := wpOp_putIf hoj (hfree j oj hoj hji hjun hnot) (fun cs b => hsel i oi cs b hi) (fun cs b => hsel j oj cs b hoj) hQ hy h1
   have hfree' : ∀ k ok, ops[k]? = some ok → k ≠ i → (listed.setIfInBounds j true).getD k true = false →
     (∀ e ∈ ok.after, Region.binds md e = true → e.on ≠ i) → oi.apart ops ok = true := fun k ok hk hki hun hno => by
    refine hfree k ok hk hki ?_ hno
    by_cases hjk : j = k
    ·subst hjk; exact hjun
    ·rw [getD_set_ne true hjk] at hun; exact hun
   refine wpOp_mono (fun a' w' h3 => ⟨h3.2.1, ih (listed.setIfInBounds j true) a' w' (inv.set hj) (mono_set hmo) hfree' (ready_mono hr (Ne.symm hji)) h3.1 h3.2.1 ?_⟩) h2
   rw [Array.setIfInBounds_comm _ _ hji]
   exact h3.2.2

/-- Operations that read, one behind the other. -/
def wpRead (P : Program) (ops : Array Oper) (S : World → Prop) (K : Act → Prop) : List Oper → Act → Prop
 | [], a => K a
 | o :: r, a => ∃ v, YieldsIf P ops S o v a ∧ wpRead P ops S K r (a.put o.dst v)
theorem wpRead_nil {K : Act → Prop} {a : Act} (h : K a) : wpRead P ops S K [] a := h
theorem wpRead_cons {K : Act → Prop} {a : Act} {o : Oper} {r : List Oper} {v : Value} (hw : Region.wanted o (yielded ops a.tmps) = true) (h : ∀ w, S w → (execOp a.eval o).run P w = .ok (.value v) w) (hr : wpRead P ops S K r (a.put o.dst v)) : wpRead P ops S K (o :: r) a := ⟨v, .inl ⟨hw, h⟩, hr⟩
/-- A load of several cells. -/
theorem wpRead_load {K : Act → Prop} {a : Act} {o : Oper} {r : List Oper} (hw : Region.wanted o (yielded ops a.tmps) = true) (ty : TypeId) (x : Operand) (ho : o.op = .load ty x) (p : Addr) (hx : a.eval x = .pointer (some p)) (v : Value)
  (hl : ∀ w, S w → (loadVar ty p).run P w = .ok v w) (hr : wpRead P ops S K r (a.put o.dst v)) : wpRead P ops S K (o :: r) a := by
 refine wpRead_cons hw (fun w hw => ?_) hr
 unfold execOp
 simp only [ho, hx, Instr.loadAt, Instr.sureAddr, Sem.run_bind, Sem.run_pure, Result.andThen_ok, hl w hw]
theorem wpAnyT_lex {all hs : List Nat} {g f : Nat} {listed0 : Array Bool} {w : World} (hsel : Region.noSelect ops = true) (hk : Region.sink2 md ops all hs listed0 = true) (hS : S w) (hQ : ∀ c (a a' : Act) w, Q (.panic c) a w → Q (.panic c) a' w) :
  ∀ (is : List Nat) (l : List Oper) (listed : Array Bool) (a : Act), (∀ i ∈ is, hs.contains i = true ∧ all.contains i = true) → is.map (fun k => ops[k]?) = l.map some → HeadInv2 md ops listed → (∀ t, listed0.getD t true = true → listed.getD t true = true) →
   Region.permHead md ops is listed = true → wpRead P ops S (fun a' => wpAnyT P md ops Q S all g f (Region.setAll is listed) a' w) l a → wpAnyT P md ops Q S all g (is.length + f) listed a w
 | [], l, listed, a, _, hl, _, _, _, h => by
  have : l = [] := by simpa using hl.symm
  subst this
  rw [show ([] : List Nat).length + f = f by simp]; exact h
 | k :: is, l, listed, a, hin, hl, inv, hmo, hB, h => by
  match l, hl with
  | o :: l, hl' =>
   simp only [List.map_cons, List.cons.injEq] at hl'
   obtain ⟨h0, hl2⟩ := hl'
   simp only [Region.permHead, Bool.and_eq_true] at hB
   obtain ⟨⟨hr, hf⟩, hB'⟩ := hB
   have hr' : k ∈ Region.ready md ops listed := by simpa using hr
   obtain ⟨v, hy, hK⟩ := h
   rw [show (k :: is).length + f = (is.length + f) + 1 by simp; omega]
   exact wpAnyT_first (hs := hs) (listed0 := listed0) h0 (Region.noSelect_spec hsel) (hin k (by simp)).2 (hin k (by simp)).1 hk (fun c a w h => hQ c _ _ w h) (is.length + f) listed a w inv hmo (Region.free_spec h0 hf) hr' hy hS
    (wpAnyT_lex hsel hk hS hQ is l _ _ (fun i hi => hin i (by simp [hi])) hl2 (inv.set hr') (mono_set hmo) hB' hK)
/-- What reads, first. -/
theorem wpAnyT_reads {all : List Nat} {g f : Nat} {l : List Oper} {listed : Array Bool} {a : Act} {w : World} (is : List Nat) (hB : Region.headsB md l.toArray all is listed = true) (h1 : is.map (fun k => l.toArray[k]?) = (pickOps l is).map some) (hS : S w) (hQ : ∀ c (a a' : Act) w, Q (.panic c) a w → Q (.panic c) a' w)
  (h : wpRead P l.toArray S (fun a' => wpAnyT P md l.toArray Q S all g f (Region.setAll is listed) a' w) (pickOps l is) a) : wpAnyT P md l.toArray Q S all g (is.length + f) listed a w := by
 simp only [Region.headsB, Bool.and_eq_true] at hB
 obtain ⟨⟨⟨⟨hsel, hcl⟩, hk⟩, hall⟩, hp⟩ := hB
 exact wpAnyT_lex hsel hk hS hQ is _ listed a (fun i hi => ⟨by simpa using hi, List.all_eq_true.1 hall i hi⟩) h1 (HeadInv2.of_closedB hcl) (fun t ht => ht) hp h
/-- One that makes memory, if none else may come up. -/
theorem wpAnyT_one {all : List Nat} {g f : Nat} {l : List Oper} {listed : Array Bool} {a : Act} {w : World} (k : Nat) (hr : Region.ready md l.toArray listed = [k]) (hk : all.contains k = true) (ho : l.toArray[k]? = some (l.getD k default))
  (h : wpList P l.toArray (Exit.then (fun a' w' => S w' ∧ wpAnyT P md l.toArray Q S all g f (listed.setIfInBounds k true) a' w') Q) [l.getD k default] a w) : wpAnyT P md l.toArray Q S all g (f + 1) listed a w := by
 refine ⟨fun e => (by rw [hr] at e; cases e), fun i hi => ?_⟩
 rw [hr] at hi
 obtain rfl : i = k := by simpa using hi
 exact ⟨hk, wpOp_of_list1 ho h⟩
/-- One of two. -/
theorem wpAnyT_two {all : List Nat} {g f : Nat} {l : List Oper} {listed : Array Bool} {a : Act} {w : World} (k j : Nat) (hr : Region.ready md l.toArray listed = [k, j]) (hk : all.contains k = true) (hj : all.contains j = true) (ho : l.toArray[k]? = some (l.getD k default)) (ho2 : l.toArray[j]? = some (l.getD j default))
  (h : wpList P l.toArray (Exit.then (fun a' w' => S w' ∧ wpAnyT P md l.toArray Q S all g f (listed.setIfInBounds k true) a' w') Q) [l.getD k default] a w)
  (h2 : wpList P l.toArray (Exit.then (fun a' w' => S w' ∧ wpAnyT P md l.toArray Q S all g f (listed.setIfInBounds j true) a' w') Q) [l.getD j default] a w) : wpAnyT P md l.toArray Q S all g (f + 1) listed a w := by
 refine ⟨fun e => (by rw [hr] at e; cases e), fun i hi => ?_⟩
 rw [hr] at hi
 have hi' : i = k ∨ i = j := by simpa using hi
 rcases hi' with rfl | rfl
 ·exact ⟨hk, wpOp_of_list1 ho h⟩
 ·exact ⟨hj, wpOp_of_list1 ho2 h2⟩
def Region.noneB (md : Region.Mode) (ops : Array Oper) (all : List Nat) (listed : Array Bool) : Bool := (Region.ready md ops listed).all fun i => !all.contains i
/-- The tail. -/
theorem wpAnyT_tail {all : List Nat} {l : List Oper} {listed : Array Bool} {a : Act} {w : World} (ts : List Nat) (hn : Region.noneB md l.toArray all listed = true) (hB : Region.seqL md l.toArray ts listed = true) (h1 : ts.map (fun k => l.toArray[k]?) = (pickOps l ts).map some) (h : wpList P l.toArray Q (pickOps l ts) a w) :
  wpAnyT P md l.toArray Q S all ts.length 0 listed a w :=
 ⟨fun i hi => by simpa using List.all_eq_true.1 hn i hi, wpAny_tail ts hB h1 h⟩
/-- Behind a region that does not panic. -/
theorem noPanic_normal {a : Act} {w : World} (h : Q .normal a w) : NoPanic Q .normal a w := h
/-- The beginning. -/
theorem wp_region_T {id : Nat} {a : Act} {w : World} {l : List Oper} (S : World → Prop) (all : List Nat) (f g : Nat) (hfg : l.toArray.size = f + g) (hm : P.follows .mixedOrders = true)
  (h : wpAnyT P .any l.toArray Q S all g f (Array.replicate l.toArray.size false) a w.drew) : (Code.region id l.toArray true).wp P Q a w := by
 refine wp_region_any hm ?_
 have := wpAny_of_T f _ a w.drew h
 rw [← hfg] at this
 exact this
/-- The beginning, where an operation that is free of the world comes first. -/
theorem wp_region_T1 {id : Nat} {a : Act} {w : World} {l : List Oper} {v : Value} (S : World → Prop) (all : List Nat) (i f g : Nat) (hfg : l.toArray.size = f + g + 1) (hm : P.follows .mixedOrders = true) (hi : l.toArray[i]? = some (l.getD i default))
  (hs : Region.noSelect l.toArray = true) (hf : Region.free .any l.toArray (Array.replicate l.toArray.size false) i = true) (hr : (Region.ready .any l.toArray (Array.replicate l.toArray.size false)).contains i = true) (hQ : ∀ c (a a' : Act) w, Q (.panic c) a w → Q (.panic c) a' w) (hy : Yields P l.toArray (l.getD i default) v a)
  (h : wpAnyT P .any l.toArray Q S all g f ((Array.replicate l.toArray.size false).setIfInBounds i true) (a.put (l.getD i default).dst v) w.drew) : (Code.region id l.toArray true).wp P Q a w := by
 refine wp_region_any hm ?_
 have := wpAny_of_T f _ _ w.drew h
 rw [hfg]
 exact wpAny_take hi hs (by rw [← hfg]; exact hf) (by rw [← hfg]; exact hr) (fun c a w h => hQ c _ _ w h) hy (by rw [← hfg]; exact this)
end
end Go
