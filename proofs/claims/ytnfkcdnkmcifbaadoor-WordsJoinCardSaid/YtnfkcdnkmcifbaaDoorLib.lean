/- Small lemmas that speak of no program: slices that are read, owned rows, endings. -/
import Derived.WalkKit
import Derived.Lib.Hide
import Derived.ProofKit
import Derived.Laws.AppendOwnNone
import Derived.Laws.CopyOwn
import Derived.Deep.AppendLies
namespace Go.Proofs.YtnfkcdnkmcifbaaDoor
open Go.RowKit

theorem ret_int {k : IntKind} {a b : Int} (h : a = b) : Ending.returned (.int k a) = .returned (.int k b) := by rw [h]
theorem ret_bool {a b : Bool} (h : a = b) : Ending.returned (.bool a) = .returned (.bool b) := by rw [h]
theorem bcell {B : Nat} {W w1 : World} (hb : Below B W w1) : (∀ b o, b < B → w1.cell? ⟨b, o, none⟩ = W.cell? ⟨b, o, none⟩) ∧ (∀ b o, b < B → w1.frozen? ⟨b, o, none⟩ = W.frozen? ⟨b, o, none⟩) :=
 ⟨fun b o h => hb.cell (p := ⟨b, o, none⟩) h, fun b o h => hb.frozen (p := ⟨b, o, none⟩) h⟩
theorem lt_block {w : World} {g : Nat} {o : Obj} (h : w.heap[g]? = some o) : g < w.heap.size := (Array.getElem?_eq_some_iff.1 h).1

theorem add_add (a : Addr) (i j : Nat) : (a.add i).add j = a.add (i + j) := by
 unfold Addr.add
 by_cases hi : i = 0 <;> by_cases hj : j = 0 <;> simp [hi, hj, Nat.add_assoc]

/-- A block known whole, not frozen. -/
def hrow (w : World) (g : Nat) (cs : Array Value) (t : TypeId) : Prop := w.heap[g]? = some (.cells cs t (0, 0))
theorem hrow.h {w : World} {g : Nat} {cs : Array Value} {t : TypeId} (h : hrow w g cs t) : w.heap[g]? = some (.cells cs t (0, 0)) := h
theorem hrow.lt {w : World} {g : Nat} {cs : Array Value} {t : TypeId} (h : hrow w g cs t) : g < w.heap.size := lt_block h
theorem hrow.later {w w' : World} {g : Nat} {cs : Array Value} {t : TypeId} (h : hrow w g cs t) {B : Nat} (hb : Below B w w') (hg : g < B) : hrow w' g cs t := (hb.block _ hg).trans h
theorem hrow.below {w w' : World} {g : Nat} {cs : Array Value} {t : TypeId} (h : hrow w g cs t) (hb : Below w.heap.size w w') : hrow w' g cs t := h.later hb h.lt
theorem hrow.cell {w : World} {g : Nat} {cs : Array Value} {t : TypeId} (h : hrow w g cs t) (o : Nat) : w.cell? ⟨g, o, none⟩ = cs[o]? := by
 unfold hrow at h; unfold World.cell?; simp [h]
theorem hrow.frozen {w : World} {g : Nat} {cs : Array Value} {t : TypeId} (h : hrow w g cs t) (o : Nat) : w.frozen? ⟨g, o, none⟩ = false := by
 unfold hrow at h; unfold World.frozen?; simp [h]
theorem hrow.new (w : World) (cs : Array Value) (t : TypeId) : hrow (w.alloc (.cells cs t)) w.heap.size cs t := heap_alloc_new _ _

theorem hrow.c2 {w : World} {g : Nat} {a0 a1 : Value} {t : TypeId} (h : hrow w g #[a0, a1] t) : w.cell? ⟨g, 0, none⟩ = some a0 ∧ w.cell? ⟨g, 1, none⟩ = some a1 := ⟨h.cell 0, h.cell 1⟩
theorem hrow.f2 {w : World} {g : Nat} {cs : Array Value} {t : TypeId} (h : hrow w g cs t) : w.frozen? ⟨g, 0, none⟩ = false ∧ w.frozen? ⟨g, 1, none⟩ = false := ⟨h.frozen 0, h.frozen 1⟩
theorem hrow.c3 {w : World} {g : Nat} {a0 a1 a2 : Value} {t : TypeId} (h : hrow w g #[a0, a1, a2] t) : w.cell? ⟨g, 0, none⟩ = some a0 ∧ w.cell? ⟨g, 1, none⟩ = some a1 ∧ w.cell? ⟨g, 2, none⟩ = some a2 := ⟨h.cell 0, h.cell 1, h.cell 2⟩
theorem hrow.f3 {w : World} {g : Nat} {cs : Array Value} {t : TypeId} (h : hrow w g cs t) : w.frozen? ⟨g, 0, none⟩ = false ∧ w.frozen? ⟨g, 1, none⟩ = false ∧ w.frozen? ⟨g, 2, none⟩ = false := ⟨h.frozen 0, h.frozen 1, h.frozen 2⟩
theorem hrow.c4 {w : World} {g : Nat} {a0 a1 a2 a3 : Value} {t : TypeId} (h : hrow w g #[a0, a1, a2, a3] t) : w.cell? ⟨g, 0, none⟩ = some a0 ∧ w.cell? ⟨g, 1, none⟩ = some a1 ∧ w.cell? ⟨g, 2, none⟩ = some a2 ∧ w.cell? ⟨g, 3, none⟩ = some a3 := ⟨h.cell 0, h.cell 1, h.cell 2, h.cell 3⟩
theorem hrow.f4 {w : World} {g : Nat} {cs : Array Value} {t : TypeId} (h : hrow w g cs t) : w.frozen? ⟨g, 0, none⟩ = false ∧ w.frozen? ⟨g, 1, none⟩ = false ∧ w.frozen? ⟨g, 2, none⟩ = false ∧ w.frozen? ⟨g, 3, none⟩ = false := ⟨h.frozen 0, h.frozen 1, h.frozen 2, h.frozen 3⟩
theorem hrow.c5 {w : World} {g : Nat} {a0 a1 a2 a3 a4 : Value} {t : TypeId} (h : hrow w g #[a0, a1, a2, a3, a4] t) : w.cell? ⟨g, 0, none⟩ = some a0 ∧ w.cell? ⟨g, 1, none⟩ = some a1 ∧ w.cell? ⟨g, 2, none⟩ = some a2 ∧ w.cell? ⟨g, 3, none⟩ = some a3 ∧ w.cell? ⟨g, 4, none⟩ = some a4 := ⟨h.cell 0, h.cell 1, h.cell 2, h.cell 3, h.cell 4⟩
theorem hrow.f5 {w : World} {g : Nat} {cs : Array Value} {t : TypeId} (h : hrow w g cs t) : w.frozen? ⟨g, 0, none⟩ = false ∧ w.frozen? ⟨g, 1, none⟩ = false ∧ w.frozen? ⟨g, 2, none⟩ = false ∧ w.frozen? ⟨g, 3, none⟩ = false ∧ w.frozen? ⟨g, 4, none⟩ = false := ⟨h.frozen 0, h.frozen 1, h.frozen 2, h.frozen 3, h.frozen 4⟩
theorem hrow.c7 {w : World} {g : Nat} {a0 a1 a2 a3 a4 a5 a6 : Value} {t : TypeId} (h : hrow w g #[a0, a1, a2, a3, a4, a5, a6] t) : w.cell? ⟨g, 0, none⟩ = some a0 ∧ w.cell? ⟨g, 1, none⟩ = some a1 ∧ w.cell? ⟨g, 2, none⟩ = some a2 ∧ w.cell? ⟨g, 3, none⟩ = some a3 ∧ w.cell? ⟨g, 4, none⟩ = some a4 ∧ w.cell? ⟨g, 5, none⟩ = some a5 ∧ w.cell? ⟨g, 6, none⟩ = some a6 := ⟨h.cell 0, h.cell 1, h.cell 2, h.cell 3, h.cell 4, h.cell 5, h.cell 6⟩
theorem hrow.f7 {w : World} {g : Nat} {cs : Array Value} {t : TypeId} (h : hrow w g cs t) : w.frozen? ⟨g, 0, none⟩ = false ∧ w.frozen? ⟨g, 1, none⟩ = false ∧ w.frozen? ⟨g, 2, none⟩ = false ∧ w.frozen? ⟨g, 3, none⟩ = false ∧ w.frozen? ⟨g, 4, none⟩ = false ∧ w.frozen? ⟨g, 5, none⟩ = false ∧ w.frozen? ⟨g, 6, none⟩ = false := ⟨h.frozen 0, h.frozen 1, h.frozen 2, h.frozen 3, h.frozen 4, h.frozen 5, h.frozen 6⟩
theorem hrow.c8 {w : World} {g : Nat} {a0 a1 a2 a3 a4 a5 a6 a7 : Value} {t : TypeId} (h : hrow w g #[a0, a1, a2, a3, a4, a5, a6, a7] t) : w.cell? ⟨g, 0, none⟩ = some a0 ∧ w.cell? ⟨g, 1, none⟩ = some a1 ∧ w.cell? ⟨g, 2, none⟩ = some a2 ∧ w.cell? ⟨g, 3, none⟩ = some a3 ∧ w.cell? ⟨g, 4, none⟩ = some a4 ∧ w.cell? ⟨g, 5, none⟩ = some a5 ∧ w.cell? ⟨g, 6, none⟩ = some a6 ∧ w.cell? ⟨g, 7, none⟩ = some a7 := ⟨h.cell 0, h.cell 1, h.cell 2, h.cell 3, h.cell 4, h.cell 5, h.cell 6, h.cell 7⟩
theorem hrow.f8 {w : World} {g : Nat} {cs : Array Value} {t : TypeId} (h : hrow w g cs t) : w.frozen? ⟨g, 0, none⟩ = false ∧ w.frozen? ⟨g, 1, none⟩ = false ∧ w.frozen? ⟨g, 2, none⟩ = false ∧ w.frozen? ⟨g, 3, none⟩ = false ∧ w.frozen? ⟨g, 4, none⟩ = false ∧ w.frozen? ⟨g, 5, none⟩ = false ∧ w.frozen? ⟨g, 6, none⟩ = false ∧ w.frozen? ⟨g, 7, none⟩ = false := ⟨h.frozen 0, h.frozen 1, h.frozen 2, h.frozen 3, h.frozen 4, h.frozen 5, h.frozen 6, h.frozen 7⟩
theorem hrow.c9 {w : World} {g : Nat} {a0 a1 a2 a3 a4 a5 a6 a7 a8 : Value} {t : TypeId} (h : hrow w g #[a0, a1, a2, a3, a4, a5, a6, a7, a8] t) : w.cell? ⟨g, 0, none⟩ = some a0 ∧ w.cell? ⟨g, 1, none⟩ = some a1 ∧ w.cell? ⟨g, 2, none⟩ = some a2 ∧ w.cell? ⟨g, 3, none⟩ = some a3 ∧ w.cell? ⟨g, 4, none⟩ = some a4 ∧ w.cell? ⟨g, 5, none⟩ = some a5 ∧ w.cell? ⟨g, 6, none⟩ = some a6 ∧ w.cell? ⟨g, 7, none⟩ = some a7 ∧ w.cell? ⟨g, 8, none⟩ = some a8 := ⟨h.cell 0, h.cell 1, h.cell 2, h.cell 3, h.cell 4, h.cell 5, h.cell 6, h.cell 7, h.cell 8⟩
theorem hrow.f9 {w : World} {g : Nat} {cs : Array Value} {t : TypeId} (h : hrow w g cs t) : w.frozen? ⟨g, 0, none⟩ = false ∧ w.frozen? ⟨g, 1, none⟩ = false ∧ w.frozen? ⟨g, 2, none⟩ = false ∧ w.frozen? ⟨g, 3, none⟩ = false ∧ w.frozen? ⟨g, 4, none⟩ = false ∧ w.frozen? ⟨g, 5, none⟩ = false ∧ w.frozen? ⟨g, 6, none⟩ = false ∧ w.frozen? ⟨g, 7, none⟩ = false ∧ w.frozen? ⟨g, 8, none⟩ = false := ⟨h.frozen 0, h.frozen 1, h.frozen 2, h.frozen 3, h.frozen 4, h.frozen 5, h.frozen 6, h.frozen 7, h.frozen 8⟩

/-- The slice of n elements of so many cells at ao, of capacity cap, reads xs. -/
structure Sv (w : World) (ao : Option Addr) (n cap size : Nat) (xs : List Value) : Prop where
 len : xs.length = n * size
 le : n ≤ cap
 cm : cap ≤ maxLen
 nn : ao = none → cap = 0
 cell : ∀ j, j < xs.length → ∃ a, ao = some a ∧ w.cell? (a.add j) = xs[j]?

section
variable {w w' : World} {ao : Option Addr} {n cap size : Nat} {xs : List Value}
theorem Sv.below (h : Sv w ao n cap size xs) (hb : Below w.heap.size w w') : Sv w' ao n cap size xs :=
 ⟨h.len, h.le, h.cm, h.nn, fun j hj => let ⟨a, ha, hc⟩ := h.cell j hj
  ⟨a, ha, (hb.cell (World.block_lt_of_cell? w _ (hc.trans (List.getElem?_eq_getElem hj)))).trans hc⟩⟩
theorem Sv.nil (w : World) (size : Nat) : Sv w none 0 0 size [] := ⟨by simp, Nat.le_refl _, by simp [maxLen], fun _ => rfl, fun j hj => absurd hj (by simp)⟩
theorem Sv.bound (h : Sv w ao n cap size xs) : n ≤ cap ∧ cap ≤ 9223372036854775807 := ⟨h.le, by have := h.cm; unfold maxLen at this; omega⟩
theorem Sv.take (h : Sv w ao n cap size xs) (k : Nat) (hk : k ≤ n) : Sv w ao k cap size (xs.take (k * size)) := by
 have hl := h.len
 have hks : k * size ≤ n * size := Nat.mul_le_mul_right _ hk
 refine ⟨by rw [List.length_take]; omega, Nat.le_trans hk h.le, h.cm, h.nn, fun j hj => ?_⟩
 rw [List.length_take] at hj
 obtain ⟨a, ha, hc⟩ := h.cell j (by omega)
 exact ⟨a, ha, by rw [hc, List.getElem?_take, if_pos (by omega)]⟩
/-- An owned row is read as a slice. -/
theorem Sv.of_owns {base e : Nat} {v : Value} (h : w.ownsRow base e size v n xs) : ∃ ao cap, v = .slice ao n cap ∧ Sv w ao n cap size xs := by
 have hl := h.1
 rcases h.2 with ⟨rfl, h0⟩ | ⟨g, cap, cur, rfl, _, hg, hnc, hcm, hcs, htake⟩
 ·subst h0
  have : xs = [] := List.eq_nil_of_length_eq_zero (by simpa using hl)
  subst this
  exact ⟨none, 0, rfl, Sv.nil w _⟩
 ·refine ⟨_, cap, rfl, hl, hnc, hcm, fun h => by simp at h, fun j hj => ⟨_, rfl, ?_⟩⟩
  rw [List.getElem?_eq_getElem hj]
  exact h.cells (g := g) rfl j _ (List.getElem?_eq_getElem hj)
/-- A block that has just been laid is read as a slice. -/
theorem Sv.lit (w : World) (e : TypeId) (cs : Array Value) (n size : Nat) (hm : n ≤ maxLen) (hs : cs.size = n * size) : Sv (w.alloc (.cells cs e)) (some ⟨w.heap.size, 0, none⟩) n n size cs.toList := by
 obtain ⟨ao, cap, hv, h⟩ := Sv.of_owns (World.ownsRow_lit (base := w.heap.size) (e := e) (size := size) w cs n (Nat.le_refl _) hm hs)
 simp only [Value.slice.injEq] at hv
 obtain ⟨rfl, _, rfl⟩ := hv
 exact h
end

theorem Sv.of_hrow {w : World} {g : Nat} {cs : Array Value} {t : TypeId} (h : hrow w g cs t) (n size : Nat) (hm : n ≤ maxLen) (hs : cs.size = n * size) : Sv w (some ⟨g, 0, none⟩) n n size cs.toList := by
 refine ⟨by simpa using hs, Nat.le_refl _, hm, (fun h => nomatch h), fun j hj => ⟨_, rfl, ?_⟩⟩
 have e : (⟨g, 0, none⟩ : Addr).add j = ⟨g, j, none⟩ := by unfold Addr.add; split <;> simp_all
 rw [e, h.cell]; simp

/-- 'append' to a row of the call's own, from whatever slice: nil, or cells that lie there. -/
theorem wpList_append_row {P : Program} (w : World) {ops : Array Oper} {rest : List Oper} {o : Oper} {a : Act} {Q : Exit → Act → World → Prop} (hgd : o.guard = none) (s x : Operand) (t : TypeId)
  (ho : o.op = .call { callee := .builtin .append, args := #[s, x], argTypes := #[t, t] })
  (base : Nat) (e : TypeId) (i : TypeInfo) (z : Value) (size bytes : Nat) (ht : P.underlying t = some (.slice e)) (hi : P.info? e = some i) (hz : i.zero = some z)
  (hsize : i.size = size) (hby : i.bytes = bytes) (hzs : z.cells.size = size) (hsz : 0 < size)
  (v : Value) (n : Nat) (xs : List Value) (hs : a.eval s = v) (hown : w.ownsRow base e size v n xs)
  (ao : Option Addr) (m c : Nat) (news : List Value) (hx : a.eval x = .slice ao m c) (hsv : Sv w ao m c size news) (h1 : ∀ u ∈ news, u.oneCell' = true)
  (h63 : n + m ≤ maxLen) (hbytes : (n + m) * bytes ≤ 140737488355328) (hbase : base ≤ w.heap.size)
  (h : ∀ v' w', w'.ownsRow base e size v' (n + m) (xs ++ news) → w.grownBy w' v.ownBlock → wpList P ops Q rest (a.put o.dst v') w') : wpList P ops Q (o :: rest) a w := by
 cases ao with
 | some ad =>
  refine wpList_append_own w hgd s x t ho base e i z size bytes ht hi hz hsize hby hzs hsz v n xs hs hown ad m c news hx hsv.len (fun j u hj => ?_) h1 h63 hbytes hbase (fun v' w' h2 h3 _ => h v' w' h2 h3)
  obtain ⟨ad', h, hc⟩ := hsv.cell j (List.getElem?_eq_some_iff.1 hj).1
  obtain rfl := Option.some.inj h
  exact hc.trans hj
 | none =>
  have hc := hsv.nn rfl
  have hm : m = 0 := by have := hsv.le; omega
  subst hm hc
  have hn : news = [] := List.eq_nil_of_length_eq_zero (by simpa using hsv.len)
  subst hn
  refine wpList_append_own_none hgd s x t ho base e i size ht hi v n xs hs hown hx ?_
  exact h v w (by simpa using hown) (World.grownBy.refl _ _)

theorem run_loadVar_part {P : Program} (w : World) (p : Addr) (ty : TypeId) (cs : Array Value) (d : TypeDesc) (hc : ∀ j v, cs.toList[j]? = some v → w.cell? (p.add j) = some v)
  (hu : P.underlying ty = some d) (hd : (match d with | .struct _ | .array _ _ => true | _ => false) = true) (hi : (P.info? ty).map (·.size) = some cs.size) :
  (loadVar ty p).run P w = .ok (.agg cs) w := by
 have hl : (loadCells p cs.toList.length).run P w = .ok cs.toList.toArray w := run_loadCells_list (P := P) w p cs.toList hc
 cases hq : P.info? ty with
 | none => simp [hq] at hi
 | some i =>
  have hs : i.size = cs.size := by simpa [hq] using hi
  have hagg : (isAgg ty).run P w = .ok true w := by
   unfold isAgg
   rw [Sem.run_bind, run_underlying hu w]
   cases d <;> simp_all
  simp only [Array.length_toList, Array.toArray_toList] at hl
  simp [loadVar, Sem.run_bind, hagg, sizeOf, typeInfo, hq, hs, hl]

/-- A load of several cells that lie somewhere in a block. -/
theorem wpList_load_part {P : Program} {ops : Array Oper} {rest : List Oper} {o : Oper} {a : Act} {w : World} {Q : Exit → Act → World → Prop} (hgd : o.guard = none) (ty : TypeId) (x : Operand) (ho : o.op = .load ty x)
  (p : Addr) (hx : a.eval x = .pointer (some p)) (cs : Array Value) (d : TypeDesc) (hc : ∀ j v, cs.toList[j]? = some v → w.cell? (p.add j) = some v)
  (hu : P.underlying ty = some d) (hd : (match d with | .struct _ | .array _ _ => true | _ => false) = true) (hi : (P.info? ty).map (·.size) = some cs.size)
  (h : wpList P ops Q rest (a.put o.dst (.agg cs)) w) : wpList P ops Q (o :: rest) a w :=
 wpList_plain hgd fun K hK => by
  unfold Oper.wp execOp
  simp only [ho, hx, Instr.loadAt, Instr.sureAddr, Sem.run_bind, Sem.run_pure, Result.andThen_ok, run_loadVar_part w p ty cs d hc hu hd hi]
  exact hK _ _ h

/-- v is a slice of n elements, the cells xs, in a row of the call's own (from w0's end on); all that was in w0 is as it was. -/
def Own (w0 w : World) (e : TypeId) (size : Nat) (v : Value) (n : Nat) (xs : List Value) : Prop :=
 w.ownsRow w0.heap.size e size v n xs ∧ Below w0.heap.size w0 w

section
variable {w0 w w' : World} {e : TypeId} {size n : Nat} {v : Value} {xs : List Value}
theorem Own.nil (w : World) (e : TypeId) (size : Nat) : Own w w e size (.slice none 0 0) 0 [] := ⟨World.ownsRow_nil _ _ _ _, Below.refl _ _⟩
theorem Own.sv (h : Own w0 w e size v n xs) : ∃ ao cap, v = .slice ao n cap ∧ Sv w ao n cap size xs := Sv.of_owns h.1
theorem Own.below (h : Own w0 w e size v n xs) (hb : Below w.heap.size w w') : Own w0 w' e size v n xs := by
 refine ⟨h.1.kept (row := none) ⟨hb.os, hb.tape, hb.output, hb.size, fun k hk _ => hb.block k hk⟩ ?_, h.2.trans (hb.mono h.2.size)⟩
 cases v.ownBlock <;> simp
theorem Own.lit (w : World) (e : TypeId) (cs : Array Value) (n size : Nat) (hm : n ≤ maxLen) (hs : cs.size = n * size) : Own w (w.alloc (.cells cs e)) e size (.slice (some ⟨w.heap.size, 0, none⟩) n n) n cs.toList :=
 ⟨World.ownsRow_lit (base := w.heap.size) (e := e) (size := size) w cs n (Nat.le_refl _) hm hs, (Below.refl _ _).alloc (Nat.le_refl _) _⟩
/-- A row that was made since w1 is the call's own since w0, w1 having grown out of w0. -/
theorem Own.since {w1 : World} (h : Own w1 w e size v n xs) (hb : Below w0.heap.size w0 w1) : Own w0 w e size v n xs := by
 refine ⟨⟨h.1.1, ?_⟩, hb.trans (h.2.mono hb.size)⟩
 rcases h.1.2 with h2 | ⟨g, cap, cur, hv, hg, r⟩
 ·exact .inl h2
 ·exact .inr ⟨g, cap, cur, hv, by have := hb.size; omega, r⟩
end

/-- Type t is a slice of e, e of so many cells and bytes, with a zero. -/
structure Elem (P : Program) (t e : TypeId) (size bytes : Nat) (z : Value) : Prop where
 u : P.underlying t = some (.slice e)
 i : (P.info? e).map (fun i => (i.zero, i.size, i.bytes)) = some (some z, size, bytes)
 zs : z.cells.size = size
 pos : 0 < size

/-- append(s, l...), s the call's own. -/
theorem wpList_apps {P : Program} (w0 wr : World) {ops : Array Oper} {rest : List Oper} {o : Oper} {a : Act} {Q : Exit → Act → World → Prop} (hgd : o.guard = none) (s x : Operand) (t e : TypeId) {size bytes : Nat} {z : Value}
  (ho : o.op = .call { callee := .builtin .append, args := #[s, x], argTypes := #[t, t] }) (he : Elem P t e size bytes z)
  (v : Value) (n : Nat) (xs : List Value) (hs : a.eval s = v) (hO : Own w0 wr e size v n xs) (ao : Option Addr) (m cap : Nat) (ys : List Value) (hx : a.eval x = .slice ao m cap) (hsl : Sv wr ao m cap size ys) (h1 : ∀ u ∈ ys, u.oneCell' = true)
  (hlen : (n + m) * bytes ≤ 140737488355328) (hl2 : n + m ≤ maxLen)
  (h : ∀ v' w', Own w0 w' e size v' (n + m) (xs ++ ys) → wpList P ops Q rest (a.put o.dst v') w') : wpList P ops Q (o :: rest) a wr := by
 obtain ⟨ht, hi, hzs, hpos⟩ := he
 obtain ⟨i, hi, hz0, hz1, hz2⟩ := info_parts hi
 refine wpList_append_row _ hgd s x t ho w0.heap.size e i z size bytes ht hi hz0 hz1 hz2 hzs hpos v n _ hs hO.1 ao m cap ys hx hsl h1 hl2 hlen hO.2.size ?_
 intro v' w1 hown hg
 exact h v' w1 ⟨hown, hO.2.grown hg hO.2.size (fun kk hkk => (hO.1.lt kk hkk).1)⟩

/-- append(s, y), s the call's own; y has just been laid into a block of its own. -/
theorem wpList_app1 {P : Program} (w0 wr : World) {ops : Array Oper} {rest : List Oper} {o : Oper} {a : Act} {Q : Exit → Act → World → Prop} (hgd : o.guard = none) (s x : Operand) (t e : TypeId) {size bytes : Nat} {z : Value}
  (ho : o.op = .call { callee := .builtin .append, args := #[s, x], argTypes := #[t, t] }) (he : Elem P t e size bytes z)
  (v : Value) (n : Nat) (xs : List Value) (hs : a.eval s = v) (hO : Own w0 wr e size v n xs) (ys : Array Value) (hy : ys.size = 1 * size) (hx : a.eval x = .slice (some ⟨wr.heap.size, 0, none⟩) 1 1) (h1 : ∀ u ∈ ys.toList, u.oneCell' = true)
  (hlen : (n + 1) * bytes ≤ 140737488355328) (hl2 : n + 1 ≤ maxLen)
  (h : ∀ v' w', Own w0 w' e size v' (n + 1) (xs ++ ys.toList) → wpList P ops Q rest (a.put o.dst v') w') : wpList P ops Q (o :: rest) a (wr.alloc (.cells ys e)) :=
 wpList_apps w0 (wr.alloc (.cells ys e)) hgd s x t e ho he v n xs hs (hO.below ((Below.refl _ _).alloc (Nat.le_refl _) _)) (some ⟨wr.heap.size, 0, none⟩) 1 1 ys.toList hx (Sv.lit wr e ys 1 size (by unfold maxLen; omega) hy) h1 hlen hl2 h

end Go.Proofs.YtnfkcdnkmcifbaaDoor
