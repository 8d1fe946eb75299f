/- Walks: the log's small methods. -/
import Derived.Test.YtbndpmfekglnkaaW4
import Derived.Test.YtbndpmfekglnkaaLater
import Derived.Test.YtbndpmfekglnkaaPlP
import Derived.Deep.Cut
import Derived.Deep.RegionWith
import Derived.Laws.CopyOwn
import Derived.Deep.AppendLies
namespace Go.Proofs.Ytbndpmfekglnkaa
open Go.RowKit

def flat (l : List (Int × Int)) : List Value := l.flatMap fun f => [.int .i64 f.1, .int .i64 f.2]
theorem flat_len : ∀ l : List (Int × Int), (flat l).length = l.length * 2
  | [] => rfl
  | f :: r => by have := flat_len r; simp only [flat, List.flatMap_cons, List.length_append, List.length_cons, List.length_nil] at this ⊢; omega
theorem flat_append (l k : List (Int × Int)) : flat (l ++ k) = flat l ++ flat k := by simp [flat]
theorem flat_one (f : Int × Int) : flat [f] = [.int .i64 f.1, .int .i64 f.2] := by simp [flat]
theorem flat_last (l : List (Int × Int)) (f : Int × Int) : (flat (l ++ [f]))[l.length * 2]? = some (.int .i64 f.1) ∧ (flat (l ++ [f]))[l.length * 2 + 1]? = some (.int .i64 f.2) := by
  rw [flat_append, flat_one, ← flat_len]
  constructor <;> simp

def Mt.cells (m : Mt) (ov mv tv : Value) : Array Value := #[.int .i64 m.a0, .int .i64 m.a1, .int .i64 m.a2, .int .i64 m.a3, .int .i64 m.a4, .int .i64 m.a5, .int .i64 m.a6, .int .i64 m.a7, .int .i64 m.a8,
  .int .i64 m.pk, .int .i64 m.dp, .int .i64 m.ms, ov, mv, tv]

/-- The log at block p: its meter, its trace. -/
structure LogAt (w : World) (p : Nat) (m : Mt) (tr : List Int) (ov tv : Value) : Prop where
  blk : w.heap[p]? = some (.cells (m.cells ov (.bool true) tv) 55 (0, 0))
  own : w.ownsRow 0 66 2 ov m.opn.length (flat m.opn)
  trc : w.ownsRow 0 36 1 tv tr.length (tr.map (.int .i64))

theorem LogAt.cell {w : World} {p : Nat} {m : Mt} {tr : List Int} {ov tv : Value} (h : LogAt w p m tr ov tv) (o : Nat) : w.cell? ⟨p, o, none⟩ = (m.cells ov (.bool true) tv)[o]? := cell_of_row _ p o _ _ _ h.blk
theorem LogAt.frozen {w : World} {p : Nat} {m : Mt} {tr : List Int} {ov tv : Value} (h : LogAt w p m tr ov tv) (o : Nat) : w.frozen? ⟨p, o, none⟩ = false := frozen_of_row _ p o _ _ h.blk
theorem LogAt.lt {w : World} {p : Nat} {m : Mt} {tr : List Int} {ov tv : Value} (h : LogAt w p m tr ov tv) : p < w.heap.size := lt_of_block h.blk
theorem LogAt.later {w w' : World} {p : Nat} {m : Mt} {tr : List Int} {ov tv : Value} (h : LogAt w p m tr ov tv) (hb : Below w.heap.size w w') : LogAt w' p m tr ov tv := by
  have hg : w.grownBy w' none := ⟨hb.os, hb.tape, hb.output, hb.size, fun k hk _ => hb.block k hk⟩
  exact ⟨(hb.block _ h.lt).trans h.blk, h.own.kept hg (by cases ov.ownBlock <;> simp), h.trc.kept hg (by cases tv.ownBlock <;> simp)⟩

theorem is_any (w : World) (p : Nat) (m : Mt) (tr : List Int) (ov tv : Value) (h : LogAt w p m tr ov tv) :
    Calls Try.prog 30 #[.pointer (some ⟨p, 0, none⟩)] w fun r w' => r = .returned (.bool true) ∧ w = w' := by
  have hc := h.cell 13
  simp [Mt.cells] at hc
  clear h
  go_enter Try.func30, Try.ntmps30
  go_wp2
  go_ret
  exact ⟨rfl, rfl⟩

theorem is_nil (w : World) : Calls Try.prog 30 #[.pointer none] w fun r w' => r = .returned (.bool false) ∧ w = w' := by
  go_enter Try.func30, Try.ntmps30
  go_wp2
  go_ret
  exact ⟨rfl, rfl⟩

theorem live_any (w : World) (p : Nat) (m : Mt) (tr : List Int) (ov tv : Value) (n : Nat) (h : LogAt w p m tr ov tv) (hk : m.ok n) (hn : n ≤ 1000000) :
    Calls Try.prog 37 #[.pointer (some ⟨p, 0, none⟩)] w fun r w' => r = .returned (.int .i64 m.live) ∧ Below w.heap.size w w' := by
  have hb := hk.b
  have h6 := h.cell 6
  have h7 := h.cell 7
  simp [Mt.cells] at h6 h7
  clear h hk
  unfold Mt.live
  generalize m.a6 = x at *
  generalize m.a7 = y at *
  have hxy : IntKind.i64.wrap (x - y) = x - y := IntWalk.i64_in _ (by omega)
  go_enter Try.func37, Try.ntmps37
  go_wp2
  go_quiet (fail)
  go_wp2
  go_ret
  exact ⟨rfl, below_drewN (Below.refl _ _) _⟩

theorem now_any (w : World) (p : Nat) (m : Mt) (tr : List Int) (ov tv : Value) (n : Nat) (h : LogAt w p m tr ov tv) (hk : m.ok n) (hn : n ≤ 1000000) :
    Calls Try.prog 39 #[.pointer (some ⟨p, 0, none⟩)] w fun r w' => r = .returned (.int .i64 m.now) ∧ w = w' := by
  have hno : m.now = match m.opn.getLast? with | some f => f.1 | none => 0 := rfl
  rcases List.eq_nil_or_concat m.opn with ho | ⟨l, f, ho⟩
  · have hc := h.cell 12
    have hov : ∃ ao cap, ov = .slice ao 0 cap := by
      have := h.own
      rw [ho] at this
      rcases this.2 with ⟨h1, _⟩ | ⟨g, cap, cur, h1, _⟩
      · exact ⟨_, _, h1⟩
      · exact ⟨_, _, h1⟩
    obtain ⟨ao, cap, rfl⟩ := hov
    rw [ho] at hno
    simp [Mt.cells] at hc
    clear h hk ho
    have HN := Lib.hid hno; clear hno
    go_enter Try.func39, Try.ntmps39
    go_wp2
    go_ret
    exact ⟨ret_int HN.out.symm, rfl⟩
  · have hc := h.cell 12
    have hown := h.own
    rw [List.concat_eq_append] at ho
    rw [ho] at hown hno
    have hlen : l.length + 1 ≤ n := by have := hk.o; rw [ho] at this; simpa using this
    obtain ⟨g, cap, rfl, _, _⟩ := World.ownsRow.form hown (by simp)
    have hl := hown.cells (g := g) rfl (l.length * 2) _ (flat_last l f).1
    have hcap : l.length + 1 ≤ cap ∧ cap ≤ 9223372036854775807 := by
      rcases hown.2 with ⟨h1, _⟩ | ⟨g', cap', cur, h1, _, _, h4, h5, _⟩
      · cases h1
      · simp only [Value.slice.injEq] at h1; unfold maxLen at h5; obtain ⟨_, _, rfl⟩ := h1; simp at h4; omega
    simp [Mt.cells] at hc hno
    have HN := Lib.hid hno; clear hno
    clear h hk ho hown
    simp [Addr.add_lit] at hl
    generalize hf1 : f.1 = s at *
    generalize l.length = k at *
    have e1 : ((k : Int) + 1 - 1) = (k : Int) := by omega
    go_enter Try.func39, Try.ntmps39
    go_wp2
    go_ret
    exact ⟨ret_int HN.out.symm, rfl⟩
end Go.Proofs.Ytbndpmfekglnkaa
