/- Laws and contracts for CountLogs: append of rows that lie in memory, the new row's place told; rows of rows. -/
import Derived.Test.YtbndpmfekglnkaaW25
import Derived.Test.YtbndpmfekglnkaaLogs
namespace Go.Proofs.Ytbndpmfekglnkaa
open Go.RowKit

theorem run_append_zero {P : Program} {w : World} (base : Nat) (t ty e : TypeId) (i : TypeInfo) (size : Nat) (ht : P.underlying t = some (.slice e)) (hi : P.info? e = some i)
    (v : Value) (n : Nat) (xs : List Value) (hown : w.ownsRow base e size v n xs) (ao : Option Addr) (c : Nat) :
    (Builtin.append_ #[t, t] ty #[v, .slice ao 0 c]).run P w = .ok v w := by
  cases ao <;> rcases hown.2 with ⟨rfl, rfl⟩ | ⟨g, cap, cur, rfl, _, _, hnc, _⟩
  · simp [Builtin.append_, run_underlying ht, sizeOf, typeInfo, hi, Builtin.lenOf, Builtin.firstCells]
  · simp [Builtin.append_, run_underlying ht, sizeOf, typeInfo, hi, Builtin.lenOf, Builtin.firstCells, hnc, storeCells]
  · simp [Builtin.append_, run_underlying ht, sizeOf, typeInfo, hi, Builtin.lenOf, Builtin.firstCells, loadCells, loadCellsFrom]
  · simp [Builtin.append_, run_underlying ht, sizeOf, typeInfo, hi, Builtin.lenOf, Builtin.firstCells, hnc, storeCells, loadCells, loadCellsFrom]

theorem wpList_append_zero {P : Program} {w : World} {ops : Array Oper} {rest : List Oper} {o : Oper} {a : Act} {Q : Exit → Act → World → Prop} (hgd : o.guard = none) (s x : Operand) (t : TypeId)
    (ho : o.op = .call { callee := .builtin .append, args := #[s, x], argTypes := #[t, t] })
    (base : Nat) (e : TypeId) (i : TypeInfo) (size : Nat) (ht : P.underlying t = some (.slice e)) (hi : P.info? e = some i)
    (v : Value) (n : Nat) (xs : List Value) (hs : a.eval s = v) (hown : w.ownsRow base e size v n xs) (ao : Option Addr) (c : Nat) (hx : a.eval x = .slice ao 0 c)
    (h : wpList P ops Q rest (a.put o.dst v) w) : wpList P ops Q (o :: rest) a w := by
  refine wpList_plain hgd fun K hK => ?_
  have hrun := run_append_zero (P := P) (w := w) base t o.type e i size ht hi v n xs hown ao c
  unfold Oper.wp
  simp [execOp, ho, resolve, invoke, builtin, hs, hx, hrun, Result.andThen]
  exact hK _ _ h

/-- append(s, l...), s the call's own, l wherever it lies; where the new row lies. -/
theorem wpList_apps_at {P : Program} (wr : World) {ops : Array Oper} {rest : List Oper} {o : Oper} {a : Act} {Q : Exit → Act → World → Prop} (hgd : o.guard = none) (s x : Operand) (t e : TypeId)
    (ho : o.op = .call { callee := .builtin .append, args := #[s, x], argTypes := #[t, t] }) (he : IntElem P t e) (base : Nat)
    (v : Value) (n : Nat) (zs : List Int) (hn : n = zs.length) (hs : a.eval s = v) (hO : wr.ownsRow base e 1 v n (zs.map (.int .i64))) (hb : base ≤ wr.heap.size) (ao : Option Addr) (cap m : Nat) (ys : List Int) (hm : m = ys.length) (hx : a.eval x = .slice ao m cap) (hsl : Sl wr ao cap ys) (hlen : zs.length + ys.length ≤ 1000000000)
    (h : ∀ v' w', w'.ownsRow base e 1 v' (zs ++ ys).length ((zs ++ ys).map (.int .i64)) → wr.grownBy w' v.ownBlock → (∀ k, v'.ownBlock = some k → v.ownBlock = some k ∨ k = wr.heap.size) → wpList P ops Q rest (a.put o.dst v') w') : wpList P ops Q (o :: rest) a wr := by
  subst hn hm
  obtain ⟨ht, hi⟩ := he
  obtain ⟨i, hi, hz0, hz1, hz2⟩ := info_parts hi
  by_cases hy : ys = []
  · subst hy
    refine wpList_append_zero hgd s x t ho base e i 1 ht hi v _ _ hs hO ao cap hx ?_
    exact h v wr (by simpa using hO) (World.grownBy.refl _ _) (fun k hk => .inl hk)
  · have hpos : 0 < ys.length := List.length_pos_iff.2 hy
    obtain ⟨ad, rfl, _⟩ := hsl.2.2.2 0 hpos
    refine wpList_append_lies wr hgd s x t ho base e i (.int .i64 0) 1 8 ht hi hz0 hz1 hz2 rfl (by decide) v zs.length _ hs hO ad ys.length cap (ys.map (.int .i64)) hx (by simp) ?_ (ints_oneCell _ _) hpos (by unfold maxLen; omega) (by omega) hb _ rfl ?_
    · intro j u hj
      have hjl : j < ys.length := by have := (List.getElem?_eq_some_iff.1 hj).1; simpa using this
      obtain ⟨ad', h1, h2⟩ := hsl.2.2.2 j hjl
      cases h1
      refine h2.trans ?_
      rw [← hj]; simp [hjl, List.getD]
    · intro g c w' h1 h2 h3 h4
      exact h _ w' (by simpa using h1) h2 (fun k hk => by
        have : k = g := by simpa [Value.ownBlock] using hk.symm
        subst this; exact h3)

/-- Rows of rows of integers that came in. -/
structure RowsAt (w : World) (ao : Option Addr) (cap : Nat) (L : List (List Int)) : Prop where
  le : L.length ≤ cap
  cm : cap ≤ 9223372036854775807
  row : ∀ i, i < L.length → ∃ a x c, ao = some a ∧ w.cell? (a.add i) = some (.slice x (L.getD i []).length c) ∧ Sl w x c (L.getD i []) ∧ (L.getD i []).length ≤ 281474976710656
  nn : ao = none → cap = 0

theorem RowsAt.below {w w' : World} {ao : Option Addr} {cap : Nat} {L : List (List Int)} (h : RowsAt w ao cap L) (hb : Below w.heap.size w w') : RowsAt w' ao cap L :=
  ⟨h.le, h.cm, fun i hi => by
    obtain ⟨a, x, c, h1, h2, h3, h4⟩ := h.row i hi
    exact ⟨a, x, c, h1, (hb.cell (World.block_lt_of_cell? w _ h2)).trans h2, h3.below hb, h4⟩, h.nn⟩

/-- What the law's loop keeps: the log at p, its trace tr; the law's own row lv, of tl; nothing of them in the blocks G. -/
def LI (w wr : World) (p : Nat) (m : Mt) (tr : List Int) (lv : Value) (tl : List Int) (G : Nat → Prop) : Prop :=
  ∃ ov tv, LogAt wr p m tr ov tv ∧ wr.ownsRow w.heap.size 36 1 lv tl.length (tl.map (.int .i64)) ∧ (∀ k, lv.ownBlock = some k → tv.ownBlock ≠ some k) ∧ w.heap.size ≤ p ∧
    (∀ k, (ov.ownBlock = some k ∨ tv.ownBlock = some k) → w.heap.size ≤ k) ∧ Below w.heap.size w wr ∧
    (∀ k, G k → p ≠ k ∧ ov.ownBlock ≠ some k ∧ tv.ownBlock ≠ some k ∧ lv.ownBlock ≠ some k)

def NoG (_ : Nat) : Prop := False

section
variable {w wr w' : World} {p : Nat} {m : Mt} {tr : List Int} {lv : Value} {tl : List Int} {G : Nat → Prop}
theorem LI.later (h : LI w wr p m tr lv tl G) (hb : Below wr.heap.size wr w') : LI w w' p m tr lv tl G := by
  obtain ⟨ov, tv, h1, h2, h3, h4, h5, h6, h7⟩ := h
  exact ⟨ov, tv, h1.later hb, owns_fr h2 (F := fun _ => False) (Fr.of_below hb) (fun _ _ h => h), h3, h4, h5, h6.trans (hb.mono h6.size), h7⟩
theorem LI.below (h : LI w wr p m tr lv tl G) : Below w.heap.size w wr := by
  obtain ⟨ov, tv, h1, h2, h3, h4, h5, h6, h7⟩ := h; exact h6
theorem LI.free (h : LI w wr p m tr lv tl G) : LI w wr p m tr lv tl NoG := by
  obtain ⟨ov, tv, h1, h2, h3, h4, h5, h6, h7⟩ := h; exact ⟨ov, tv, h1, h2, h3, h4, h5, h6, fun k hk => hk.elim⟩
theorem LI.avoid (h : LI w wr p m tr lv tl G) (G' : Nat → Prop) (hq : ∀ k, G' k → wr.heap.size ≤ k) : LI w wr p m tr lv tl (fun k => G k ∨ G' k) := by
  obtain ⟨ov, tv, h1, h2, h3, h4, h5, h6, h7⟩ := h
  refine ⟨ov, tv, h1, h2, h3, h4, h5, h6, fun k hk => ?_⟩
  rcases hk with hk | hk
  · exact h7 k hk
  have := hq k hk
  refine ⟨by have := h1.lt; omega, fun e => ?_, fun e => ?_, fun e => ?_⟩
  · have := (h1.own.lt _ e).2; omega
  · have := (h1.trc.lt _ e).2; omega
  · have := (h2.lt _ e).2; omega
theorem LI.weak (h : LI w wr p m tr lv tl G) (G' : Nat → Prop) (hq : ∀ k, G' k → G k) : LI w wr p m tr lv tl G' := by
  obtain ⟨ov, tv, h1, h2, h3, h4, h5, h6, h7⟩ := h
  exact ⟨ov, tv, h1, h2, h3, h4, h5, h6, fun k hk => h7 k (hq k hk)⟩
/-- The avoided block is written over. -/
theorem LI.over (h : LI w wr p m tr lv tl G) (hf : Fr G wr w') (hq : ∀ k, G k → w.heap.size ≤ k) : LI w w' p m tr lv tl G := by
  obtain ⟨ov, tv, h1, h2, h3, h4, h5, h6, h7⟩ := h
  refine ⟨ov, tv, ⟨(hf.block _ h1.lt (fun e => (h7 _ e).1 rfl)).trans h1.blk, owns_fr h1.own hf (fun k hk e => (h7 _ e).2.1 hk), owns_fr h1.trc hf (fun k hk e => (h7 _ e).2.2.1 hk)⟩, owns_fr h2 hf (fun k hk e => (h7 _ e).2.2.2 hk), h3, h4, h5, h6.trans (hf.below h6.size (by intro k hk e; have := hq k e; omega)), h7⟩
theorem LI.sl (h : LI w wr p m tr lv tl G) : ∃ ao cap, lv = .slice ao tl.length cap ∧ Sl wr ao cap tl := by
  obtain ⟨ov, tv, h1, h2, h3, h4, h5, h6, h7⟩ := h
  exact Sl.of_owns h2

theorem LI.add (h : LI w wr p m tr lv tl G) (hG : ∀ k, G k → k < wr.heap.size) (n0 : Nat) (hk0 : m.ok n0) (ao : Option Addr) (cap n : Nat) (zs : List Int) (hn : n = zs.length) (hs : Sl wr ao cap zs)
    (hap : Apart (fun k => w.heap.size ≤ k ∧ ¬ G k ∧ k < wr.heap.size) ao zs.length) (hbig : n0 + 2 * zs.length ≤ 800000) (htr : tr.length + zs.length ≤ 800000) :
    Calls Try.prog 17 #[.pointer (some ⟨p, 0, none⟩), .slice ao n cap] wr fun r w' => r = .returned (.tuple #[.int .i64 (addM m zs 0).1, .int .i64 (addM m zs 0).2.1]) ∧
      LI w w' p (addM m zs 0).2.2 (tr ++ zs.take (addM m zs 0).1) lv tl G ∧ Fr (fun k => w.heap.size ≤ k ∧ ¬ G k) wr w' := by
  subst hn
  obtain ⟨ov, tv, h1, h2, h3, h4, h5, h6, h7⟩ := h
  have hF : ∀ k, (k = p ∨ ov.ownBlock = some k ∨ tv.ownBlock = some k) → w.heap.size ≤ k ∧ ¬ G k ∧ k < wr.heap.size := by
    rintro k (rfl | hk | hk)
    · exact ⟨h4, fun e => (h7 _ e).1 rfl, h1.lt⟩
    · exact ⟨h5 k (.inl hk), fun e => (h7 k e).2.1 hk, (h1.own.lt _ hk).2⟩
    · exact ⟨h5 k (.inr hk), fun e => (h7 k e).2.2.1 hk, (h1.trc.lt _ hk).2⟩
  refine (add_any wr p m tr ov tv n0 h1 hk0 ao cap zs hs (fun h0 a ha hF' => hap h0 a ha (hF _ hF')) hbig htr).mono ?_
  rintro e w' ⟨he, ov', tv', hl, hf, ho, ht⟩
  have hls : ∀ k, lv.ownBlock = some k → k < wr.heap.size := fun k hk => (h2.lt k hk).2
  refine ⟨he, ⟨ov', tv', hl, ?_, ?_, h4, ?_, h6.trans (hf.below h6.size (fun k hk hk' => by have := (hF k hk').1; omega)), ?_⟩, ?_⟩
  · refine owns_fr h2 hf (fun k hk hk' => ?_)
    rcases hk' with rfl | hk' | hk'
    · exact owns_ne h2 h1.blk (by decide) hk
    · exact owns_apart h1.own h2 (by decide) k hk' hk
    · exact h3 k hk hk'
  · intro k hk hk'
    rcases ht k hk' with h' | h'
    · exact h3 k hk h'
    · have := hls k hk; omega
  · rintro k (hk | hk)
    · rcases ho k hk with h' | h'
      · exact h5 k (.inl h')
      · have := h6.size; omega
    · rcases ht k hk with h' | h'
      · exact h5 k (.inr h')
      · have := h6.size; omega
  · intro k hk
    have hlt := hG k hk
    refine ⟨(h7 k hk).1, fun e => ?_, fun e => ?_, (h7 k hk).2.2.2⟩
    · rcases ho k e with h' | h'
      · exact (h7 k hk).2.1 h'
      · omega
    · rcases ht k e with h' | h'
      · exact (h7 k hk).2.2.1 h'
      · omega
  · exact ⟨hf.os, hf.tape, hf.output, hf.size, fun k hk hF' => hf.block k hk (fun hk' => hF' ⟨(hF k hk').1, (hF k hk').2.1⟩)⟩

/-- The copy takes the log's place. -/
theorem LI.moved {q s1 : Nat} {m' : Mt} {tr' : List Int} (h : LI w wr p m tr lv tl (fun k => q ≤ k ∧ k < s1)) (hc : LogMid wr q m' tr' (q + 1) s1) (hq : w.heap.size ≤ q) (hs : q < s1) : LI w wr q m' tr' lv tl NoG := by
  obtain ⟨ov, tv, h1, h2, h3, h4, h5, h6, h7⟩ := h
  obtain ⟨ov', tv', hl, hk⟩ := hc
  refine ⟨ov', tv', hl, h2, fun k hk1 hk2 => ?_, hq, fun k hk' => by have := (hk k hk').1; omega, h6, fun k hk' => hk'.elim⟩
  have := hk k (.inr hk2)
  exact (h7 k (by omega)).2.2.2 hk1

theorem LI.copy (h : LI w wr p m tr lv tl NoG) (hbo : m.opn.length ≤ 1000000) (hbt : tr.length ≤ 1000000) :
    Calls Try.prog 20 #[.pointer (some ⟨p, 0, none⟩)] wr fun r w' => r = .returned (.pointer (some ⟨wr.heap.size, 0, none⟩)) ∧ LI w w' p m tr lv tl (fun k => wr.heap.size ≤ k ∧ k < w'.heap.size) ∧ LogMid w' wr.heap.size m tr (wr.heap.size + 1) w'.heap.size ∧ wr.heap.size < w'.heap.size := by
  have h' := h
  obtain ⟨ov, tv, h1, h2, h3, h4, h5, h6, h7⟩ := h
  refine (copy_any wr p m tr ov tv h1 hbo hbt).mono ?_
  rintro e w' ⟨he, hl, hb⟩
  exact ⟨he, ((h'.avoid (fun k => wr.heap.size ≤ k ∧ k < w'.heap.size) (fun k hk => hk.1)).weak _ (fun k hk => .inr hk)).later hb, hl, hl.lt⟩

theorem LI.app {lv' : Value} {tl' : List Int} (h : LI w wr p m tr lv tl NoG) (ho : w'.ownsRow w.heap.size 36 1 lv' tl'.length (tl'.map (.int .i64))) (hg : wr.grownBy w' lv.ownBlock) (hk : ∀ k, lv'.ownBlock = some k → lv.ownBlock = some k ∨ k = wr.heap.size) :
    LI w w' p m tr lv' tl' NoG := by
  obtain ⟨ov, tv, h1, h2, h3, h4, h5, h6, h7⟩ := h
  have hf : Fr (fun k => lv.ownBlock = some k) wr w' := Fr.grown hg
  refine ⟨ov, tv, ⟨(hf.block _ h1.lt (owns_ne h2 h1.blk (by decide))).trans h1.blk, owns_fr h1.own hf (fun k hk' e => owns_apart h1.own h2 (by decide) k hk' e), owns_fr h1.trc hf (fun k hk' e => h3 k e hk')⟩, ho, fun k hk1 hk2 => ?_, h4, h5, h6.trans (hf.below h6.size (fun k hlt e => by have := (h2.lt k e).1; omega)), fun k hk => hk.elim⟩
  rcases hk k hk1 with h' | h'
  · exact h3 k h' hk2
  · have := (h1.trc.lt k hk2).2; omega

theorem LI.trace (h : LI w wr p m tr lv tl G) (hbig : tr.length ≤ 1000000) :
    Calls Try.prog 19 #[.pointer (some ⟨p, 0, none⟩)] wr fun r w' => ∃ au cu, r = .returned (.slice au tr.length cu) ∧ Own wr w' 36 (.slice au tr.length cu) tr := by
  obtain ⟨ov, tv, h1, _⟩ := h
  refine (trace_any wr p m tr ov tv h1 hbig).mono ?_
  rintro e w' ⟨u, he, hO⟩
  obtain ⟨au, cu, rfl⟩ := owns_form hO.1
  exact ⟨au, cu, he, hO⟩

theorem LI.counts (h : LI w wr p m tr lv tl G) (n : Nat) (hk : m.ok n) (hn : n ≤ 1000000) :
    Calls Try.prog 18 #[.pointer (some ⟨p, 0, none⟩)] wr fun r w' => r = .returned (.agg m.cn.vals) ∧ Below wr.heap.size wr w' := by
  obtain ⟨ov, tv, h1, _⟩ := h
  exact countsL_any wr p m tr ov tv n h1 hk hn

theorem LI.start (w : World) : LI w (w.alloc (.cells (Mt.zero.cells (.slice none 0 0) (.bool true) (.slice none 0 0)) 55)) w.heap.size Mt.zero [] (.slice none 0 0) [] NoG :=
  ⟨_, _, new_log w, World.ownsRow_nil _ _ _ _, fun _ hk => (nomatch hk), Nat.le_refl _, fun _ hk => (hk.elim (fun h => nomatch h) (fun h => nomatch h)), (Below.refl _ _).alloc (Nat.le_refl _) _, fun k hk => hk.elim⟩
end
end Go.Proofs.Ytbndpmfekglnkaa
