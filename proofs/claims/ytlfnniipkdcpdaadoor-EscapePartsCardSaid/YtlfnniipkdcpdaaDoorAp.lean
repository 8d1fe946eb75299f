/- append of whatever slice (nil, empty) to a row of the call's own, at a step of a region that draws. -/
import Derived.Test.YtlfnniipkdcpdaaDoorFr
namespace Go.Proofs.YtlfnniipkdcpdaaDoor
open Go.RowKit

theorem wp_apps {P : Program} (w0 wr : World) {o : Oper} {a : Act} {K : Act → World → Prop} {Q : Exit → Act → World → Prop} (s x : Operand) (t e : TypeId) {size bytes : Nat} {z : Value}
  (ho : o.op = .call { callee := .builtin .append, args := #[s, x], argTypes := #[t, t] }) (he : Elem P t e size bytes z)
  (v : Value) (n : Nat) (xs : List Value) (hs : a.eval s = v) (hO : Own w0 wr e size v n xs) (ao : Option Addr) (m cap : Nat) (ys : List Value) (hx : a.eval x = .slice ao m cap) (hsl : Sv wr ao m cap size ys) (h1 : ∀ u ∈ ys, u.oneCell' = true)
  (hlen : (n + m) * bytes ≤ 140737488355328 ∧ n + m ≤ maxLen)
  (h : ∀ v' w', Own w0 w' e size v' (n + m) (xs ++ ys) → Fr (fun k => v.ownBlock = some k) wr w' → K (a.put o.dst v') w') : o.wp P a wr K Q := by
 obtain ⟨ht, hi, hzs, hpos⟩ := he
 obtain ⟨i, hi, hz0, hz1, hz2⟩ := info_parts hi
 cases ao with
 | some ad =>
  obtain ⟨v', w', hr, h2, h3, _, _⟩ := run_append_own_at (P := P) wr w0.heap.size t o.type e i z size bytes ht hi hz0 hz1 hz2 hzs hpos v n xs hO.1 ad m cap ys hsl.len (fun j u hj => by
   obtain ⟨ad', h, hc⟩ := hsl.cell j (List.getElem?_eq_some_iff.1 hj).1
   cases h
   exact hc.trans hj) h1 hlen.2 hlen.1 hO.2.size
  unfold Oper.wp execOp
  simp only [ho, resolve, invoke, builtin, Sem.run_bind, Sem.run_pure, Result.andThen_ok, List.map_toArray, List.map_cons, List.map_nil, hs, hx, hr]
  exact h v' w' ⟨h2, hO.2.grown h3 hO.2.size (fun kk hkk => (hO.1.lt kk hkk).1)⟩ (Fr.grown h3)
 | none =>
  have hc := hsl.nn rfl
  have hm : m = 0 := by have := hsl.le; omega
  subst hm hc
  have hn : ys = [] := List.eq_nil_of_length_eq_zero (by simpa using hsl.len)
  subst hn
  have hrun := run_append_owned_none (P := P) (w := wr) w0.heap.size t o.type e i size ht hi v n xs hO.1
  unfold Oper.wp
  simp [execOp, ho, resolve, invoke, builtin, hs, hx, hrun, Result.andThen]
  exact h v wr (by simpa using hO) (Fr.refl _ _)

/-- At a step of a region that draws. -/
theorem step_appz {P : Program} {ops : Array Oper} {o : Oper} {a : Act} {w0 wr : World} {K : Act → World → Prop} {Q : Exit → Act → World → Prop} {E : Prop} (hgd : o.guard = none) (s x : Operand) (t e : TypeId) {size bytes : Nat} {z : Value}
  (ho : o.op = .call { callee := .builtin .append, args := #[s, x], argTypes := #[t, t] }) (he : Elem P t e size bytes z)
  (v : Value) (n : Nat) (xs : List Value) (hs : a.eval s = v) (hO : Own w0 wr e size v n xs) (ao : Option Addr) (m cap : Nat) (ys : List Value) (hx : a.eval x = .slice ao m cap) (hsl : Sv wr ao m cap size ys) (h1 : ∀ u ∈ ys, u.oneCell' = true)
  (hlen : (n + m) * bytes ≤ 140737488355328 ∧ n + m ≤ maxLen)
  (h : ∀ v' w', Own w0 w' e size v' (n + m) (xs ++ ys) → Fr (fun k => v.ownBlock = some k) wr w' → K (a.put o.dst v') w') : if Region.wanted o (yielded ops a.tmps) = true then Oper.wp P o a wr K Q else E := by
 have hw : Region.wanted o (yielded ops a.tmps) = true := by simp [Region.wanted, hgd]
 rw [if_pos hw]
 exact wp_apps w0 wr s x t e ho he v n xs hs hO ao m cap ys hx hsl h1 hlen h

/-- A load of several cells that lie somewhere in a block, behind a guard that holds. -/
theorem wpList_load_partG {P : Program} {ops : Array Oper} {rest : List Oper} {o : Oper} {a : Act} {w : World} {Q : Exit → Act → World → Prop} (hw : Region.wanted o (yielded ops a.tmps) = true) (ty : TypeId) (x : Operand) (ho : o.op = .load ty x)
  (p : Addr) (hx : a.eval x = .pointer (some p)) (cs : Array Value) (d : TypeDesc) (hc : ∀ j v, cs.toList[j]? = some v → w.cell? (p.add j) = some v)
  (hu : P.underlying ty = some d) (hd : (match d with | .struct _ | .array _ _ => true | _ => false) = true) (hi : (P.info? ty).map (·.size) = some cs.size)
  (h : wpList P ops Q rest (a.put o.dst (.agg cs)) w) : wpList P ops Q (o :: rest) a w :=
 wpList_step fun K hK => by
  rw [if_pos hw]
  unfold Oper.wp execOp
  simp only [ho, hx, Instr.loadAt, Instr.sureAddr, Sem.run_bind, Sem.run_pure, Result.andThen_ok, run_loadVar_part w p ty cs d hc hu hd hi]
  exact hK _ _ h
end Go.Proofs.YtlfnniipkdcpdaaDoor
