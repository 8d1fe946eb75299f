/- Small lemmas that speak of no program: an integer slice that is read, an owned row, endings. -/
import Derived.WalkKit
import Derived.Lib.Hide
import Derived.ProofKit
import Derived.Laws.AppendOwnNone
namespace Go.Proofs.Ytbndpmfekglnkaa
open Go.RowKit

theorem ret_int {k : IntKind} {a b : Int} (h : a = b) : Ending.returned (.int k a) = .returned (.int k b) := by rw [h]
theorem ret_bool {a b : Bool} (h : a = b) : Ending.returned (.bool a) = .returned (.bool b) := by rw [h]

/-- The slice of integers at ao, of capacity cap, reads zs. -/
def Sl (w : World) (ao : Option Addr) (cap : Nat) (zs : List Int) : Prop :=
  zs.length ≤ cap ∧ cap ≤ maxLen ∧ (ao = none → cap = 0) ∧ ∀ j, j < zs.length → ∃ a, ao = some a ∧ w.cell? (a.add j) = some (.int .i64 (zs.getD j 0))

theorem Sl.below {w w' : World} {ao : Option Addr} {cap : Nat} {zs : List Int} (h : Sl w ao cap zs) (hb : Below w.heap.size w w') : Sl w' ao cap zs :=
  ⟨h.1, h.2.1, h.2.2.1, fun j hj => let ⟨a, ha, hc⟩ := h.2.2.2 j hj; ⟨a, ha, (hb.cell (World.block_lt_of_cell? w _ hc)).trans hc⟩⟩

theorem Sl.nil (w : World) : Sl w none 0 [] := ⟨Nat.le_refl _, by simp [maxLen], fun _ => rfl, fun j hj => absurd hj (by simp)⟩

theorem Sl.bound {w : World} {ao : Option Addr} {cap : Nat} {zs : List Int} (h : Sl w ao cap zs) : zs.length ≤ cap ∧ cap ≤ 9223372036854775807 := ⟨h.1, by have := h.2.1; unfold maxLen at this; omega⟩

/-- An owned row of integers is read as a slice. -/
theorem Sl.of_owns {w : World} {base e : Nat} {v : Value} {n : Nat} {zs : List Int} (h : w.ownsRow base e 1 v n (zs.map (.int .i64))) :
    ∃ ao cap, v = .slice ao zs.length cap ∧ Sl w ao cap zs := by
  have hn : zs.length = n := by have := h.1; simpa using this
  subst hn
  rcases h.2 with ⟨rfl, h0⟩ | ⟨g, cap, cur, rfl, _, hg, hnc, hcm, hcs, htake⟩
  · have : zs = [] := List.eq_nil_of_length_eq_zero h0
    subst this
    exact ⟨none, 0, rfl, Sl.nil w⟩
  · refine ⟨_, cap, rfl, hnc, hcm, fun h => by simp at h, fun j hj => ⟨_, rfl, ?_⟩⟩
    refine h.cells (g := g) rfl j _ ?_
    simp [List.getD, hj]

theorem take_snoc (zs : List Int) (k : Nat) (h : k < zs.length) : zs.take (k+1) = zs.take k ++ [zs.getD k 0] := by
  rw [List.take_succ_eq_append_getElem h]; simp [List.getD, h]

theorem drop_cons (zs : List Int) (k : Nat) (h : k < zs.length) : zs.drop k = zs.getD k 0 :: zs.drop (k+1) := by
  rw [List.drop_eq_getElem_cons h]; simp [List.getD, h]

theorem bcell {B : Nat} {W w1 : World} (hb : Below B W w1) : (∀ b o, b < B → w1.cell? ⟨b, o, none⟩ = W.cell? ⟨b, o, none⟩) ∧ (∀ b o, b < B → w1.frozen? ⟨b, o, none⟩ = W.frozen? ⟨b, o, none⟩) :=
  ⟨fun b o h => hb.cell (p := ⟨b, o, none⟩) h, fun b o h => hb.frozen (p := ⟨b, o, none⟩) h⟩


/-- Type t is a slice of e, e one cell, an int. -/
def IntElem (P : Program) (t e : TypeId) : Prop :=
  P.underlying t = some (.slice e) ∧ (P.info? e).map (fun i => (i.zero, i.size, i.bytes)) = some (some (.int .i64 0), 1, 8)

/-- 'append' to a row of the call's own, from whatever slice: nil, or cells that lie there. -/
theorem wpList_append_row {P : Program} (w : World) {ops : Array Oper} {rest : List Oper} {o : Oper} {a : Act} {Q : Exit → Act → World → Prop} (hgd : o.guard = none) (s x : Operand) (t : TypeId)
    (ho : o.op = .call { callee := .builtin .append, args := #[s, x], argTypes := #[t, t] })
    (base : Nat) (e : TypeId) (i : TypeInfo) (z : Value) (size bytes : Nat) (ht : P.underlying t = some (.slice e)) (hi : P.info? e = some i) (hz : i.zero = some z)
    (hsize : i.size = size) (hby : i.bytes = bytes) (hzs : z.cells.size = size) (hsz : 0 < size)
    (v : Value) (n : Nat) (xs : List Value) (hs : a.eval s = v) (hown : w.ownsRow base e size v n xs)
    (ao : Option Addr) (m c : Nat) (news : List Value) (hx : a.eval x = .slice ao m c) (hl : news.length = m * size) (hnone : ao = none → m = 0 ∧ c = 0)
    (hnews : ∀ j u, news[j]? = some u → ∃ ad, ao = some ad ∧ w.cell? (ad.add j) = some u) (h1 : ∀ u ∈ news, u.oneCell' = true)
    (h63 : n + m ≤ maxLen) (hbytes : (n + m) * bytes ≤ 140737488355328) (hbase : base ≤ w.heap.size)
    (h : ∀ v' w', w'.ownsRow base e size v' (n + m) (xs ++ news) → w.grownBy w' v.ownBlock → wpList P ops Q rest (a.put o.dst v') w') : wpList P ops Q (o :: rest) a w := by
  cases ao with
  | some ad =>
    refine wpList_append_own w hgd s x t ho base e i z size bytes ht hi hz hsize hby hzs hsz v n xs hs hown ad m c news hx hl (fun j u hj => ?_) h1 h63 hbytes hbase (fun v' w' h2 h3 _ => h v' w' h2 h3)
    obtain ⟨ad', h, hc⟩ := hnews j u hj
    obtain rfl := Option.some.inj h
    exact hc
  | none =>
    obtain ⟨rfl, rfl⟩ := hnone rfl
    have hn : news = [] := List.eq_nil_of_length_eq_zero (by simpa using hl)
    subst hn
    refine wpList_append_own_none hgd s x t ho base e i size ht hi v n xs hs hown hx ?_
    exact h v w (by simpa using hown) (World.grownBy.refl _ _)

/-- v is a slice of ints zs, in a row of the call's own (from w0's end on); all that was in w0 is as it was. -/
def Own (w0 w : World) (e : TypeId) (v : Value) (zs : List Int) : Prop :=
  w.ownsRow w0.heap.size e 1 v zs.length (zs.map (.int .i64)) ∧ Below w0.heap.size w0 w

theorem Own.nil (w : World) (e : TypeId) : Own w w e (.slice none 0 0) [] := ⟨World.ownsRow_nil _ _ _ _, Below.refl _ _⟩
theorem Own.sl {w0 w : World} {e : TypeId} {v : Value} {zs : List Int} (h : Own w0 w e v zs) : ∃ ao cap, v = .slice ao zs.length cap ∧ Sl w ao cap zs := Sl.of_owns h.1
theorem Own.alloc {w0 w : World} {e : TypeId} {v : Value} {zs : List Int} (h : Own w0 w e v zs) (o : Obj) : Own w0 (w.alloc o) e v zs := ⟨h.1.alloc o, h.2.alloc h.2.size o⟩
theorem Own.later {w0 w w' : World} {e : TypeId} {v : Value} {zs : List Int} (h : Own w0 w e v zs) (hb : Below w.heap.size w w') : Own w0 w' e v zs := by
  refine ⟨h.1.kept (row := none) ⟨hb.os, hb.tape, hb.output, hb.size, fun k hk _ => hb.block k hk⟩ ?_, h.2.trans (hb.mono h.2.size)⟩
  cases v.ownBlock <;> simp

/-- append(s, y), s the call's own. -/
theorem wpList_app1 {P : Program} (w0 wr : World) {ops : Array Oper} {rest : List Oper} {o : Oper} {a : Act} {Q : Exit → Act → World → Prop} (hgd : o.guard = none) (s x : Operand) (t e : TypeId)
    (ho : o.op = .call { callee := .builtin .append, args := #[s, x], argTypes := #[t, t] }) (he : IntElem P t e)
    (v : Value) (zs : List Int) (hs : a.eval s = v) (hO : Own w0 wr e v zs) (y : Int) (hx : a.eval x = .slice (some ⟨wr.heap.size, 0, none⟩) 1 1) (hlen : zs.length ≤ 1000000000)
    (h : ∀ v' w', Own w0 w' e v' (zs ++ [y]) → wpList P ops Q rest (a.put o.dst v') w') : wpList P ops Q (o :: rest) a (wr.alloc (.cells #[.int .i64 y] e)) := by
  obtain ⟨ht, hi⟩ := he
  obtain ⟨i, hi, hz0, hz1, hz2⟩ := info_parts hi
  refine wpList_append_own _ hgd s x t ho w0.heap.size e i (.int .i64 0) 1 8 ht hi hz0 hz1 hz2 rfl (by decide) v zs.length _ hs (hO.1.alloc _) ⟨wr.heap.size, 0, none⟩ 1 1 [.int .i64 y] hx rfl ?_ (by simp [Value.oneCell']) (by unfold maxLen; omega) (by omega) (by have := hO.2.size; simp; omega) ?_
  · intro j u hj
    match j, hj with
    | 0, hj => simp at hj; subst hj; simp [Addr.add]
  · intro v' w1 hown hg _
    refine h v' w1 ⟨by simpa using hown, (hO.2.alloc hO.2.size _).grown hg (by have := hO.2.size; simp; omega) (fun kk hkk => (hO.1.lt kk hkk).1)⟩

/-- append(s, l...), s the call's own. -/
theorem wpList_apps {P : Program} (w0 wr : World) {ops : Array Oper} {rest : List Oper} {o : Oper} {a : Act} {Q : Exit → Act → World → Prop} (hgd : o.guard = none) (s x : Operand) (t e : TypeId)
    (ho : o.op = .call { callee := .builtin .append, args := #[s, x], argTypes := #[t, t] }) (he : IntElem P t e)
    (v : Value) (zs : List Int) (hs : a.eval s = v) (hO : Own w0 wr e v zs) (ao : Option Addr) (cap : Nat) (ys : List Int) (hx : a.eval x = .slice ao ys.length cap) (hsl : Sl wr ao cap ys) (hlen : zs.length + ys.length ≤ 1000000000)
    (h : ∀ v' w', Own w0 w' e v' (zs ++ ys) → wpList P ops Q rest (a.put o.dst v') w') : wpList P ops Q (o :: rest) a wr := by
  obtain ⟨ht, hi⟩ := he
  obtain ⟨i, hi, hz0, hz1, hz2⟩ := info_parts hi
  refine wpList_append_row _ hgd s x t ho w0.heap.size e i (.int .i64 0) 1 8 ht hi hz0 hz1 hz2 rfl (by decide) v zs.length _ hs hO.1 ao ys.length cap (ys.map (.int .i64)) hx (by simp) ?_ ?_ (ints_oneCell _ _) (by unfold maxLen; omega) (by omega) hO.2.size ?_
  · intro hn
    have := hsl.2.2.1 hn
    have := hsl.1
    omega
  · intro j u hj
    have hjl : j < ys.length := by have := (List.getElem?_eq_some_iff.1 hj).1; simpa using this
    obtain ⟨ad, h1, h2⟩ := hsl.2.2.2 j hjl
    refine ⟨ad, h1, h2.trans ?_⟩
    rw [← hj]; simp [hjl, List.getD]
  · intro v' w1 hown hg
    refine h v' w1 ⟨by simpa using hown, hO.2.grown hg hO.2.size (fun kk hkk => (hO.1.lt kk hkk).1)⟩

/-- What a new row of the call's own is. -/
theorem Own.lit (w : World) (e : TypeId) (zs : List Int) (h : zs.length ≤ 1000000000) : Own w (w.alloc (.cells (zs.map (Value.int .i64)).toArray e)) e (.slice (some ⟨w.heap.size, 0, none⟩) zs.length zs.length) zs := by
  refine ⟨?_, (Below.refl _ _).alloc (Nat.le_refl _) _⟩
  have := World.ownsRow_lit (w := w) (base := w.heap.size) (e := e) (size := 1) (zs.map (Value.int .i64)).toArray zs.length (Nat.le_refl _) (by unfold maxLen; omega) (by simp)
  simpa using this

end Go.Proofs.Ytbndpmfekglnkaa
