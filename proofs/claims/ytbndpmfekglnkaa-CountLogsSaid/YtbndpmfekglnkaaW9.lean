/- Walks: the log's count. -/
import Derived.Test.YtbndpmfekglnkaaW8
import Derived.Test.YtbndpmfekglnkaaPerm
namespace Go.Proofs.Ytbndpmfekglnkaa
open Go.RowKit

/-- All but the blocks F is as it was. -/
structure Fr (F : Nat → Prop) (w w' : World) : Prop where
  os : w'.os = w.os
  tape : w'.tape = w.tape
  output : w'.output = w.output
  size : w.heap.size ≤ w'.heap.size
  block : ∀ k, k < w.heap.size → ¬ F k → w'.heap[k]? = w.heap[k]?

theorem Fr.refl (F : Nat → Prop) (w : World) : Fr F w w := ⟨rfl, rfl, rfl, Nat.le_refl _, fun _ _ _ => rfl⟩
theorem Fr.trans {F G : Nat → Prop} {a b c : World} (h : Fr F a b) (k : Fr G b c) (hG : ∀ i, i < a.heap.size → G i → F i) : Fr F a c :=
  ⟨k.os.trans h.os, k.tape.trans h.tape, k.output.trans h.output, Nat.le_trans h.size k.size, fun i hi hF => (k.block i (Nat.lt_of_lt_of_le hi h.size) (fun hg => hF (hG i hi hg))).trans (h.block i hi hF)⟩
theorem Fr.of_below {F : Nat → Prop} {w w' : World} (h : Below w.heap.size w w') : Fr F w w' := ⟨h.os, h.tape, h.output, h.size, fun k hk _ => h.block k hk⟩
theorem Fr.below {F : Nat → Prop} {w w' : World} {B : Nat} (h : Fr F w w') (hB : B ≤ w.heap.size) (hF : ∀ k, k < B → ¬ F k) : Below B w w' :=
  ⟨h.os, h.tape, h.output, h.size, fun k hk => h.block k (by omega) (hF k hk)⟩
theorem Fr.setCell (w : World) (a : Addr) (v : Value) : Fr (fun k => k = a.block) w (w.setCell a v) :=
  ⟨rfl, rfl, rfl, by simp, fun k _ hk => heap_setCell_other w a k v hk⟩
theorem Fr.setRow (w : World) (g : Nat) (cs : Array Value) : Fr (fun k => k = g) w (w.setRow g cs) :=
  ⟨rfl, rfl, rfl, by simp [World.setRow], fun k _ hk => setRow_other w g k cs hk⟩
theorem Fr.grown {w w' : World} {row : Option Nat} (h : w.grownBy w' row) : Fr (fun k => row = some k) w w' :=
  ⟨h.os, h.tape, h.output, h.size, fun k hk hF => h.block k hk (fun e => hF e.symm)⟩
theorem Fr.grownBy {F : Nat → Prop} {w w' : World} (h : Fr F w w') {row : Option Nat} (hF : ∀ k, F k → row = some k) : w.grownBy w' row :=
  ⟨h.os, h.tape, h.output, h.size, fun k hk hne => h.block k hk (fun hf => hne (hF k hf).symm)⟩

/-- An owned row is as it was where its block is. -/
theorem owns_fr {F : Nat → Prop} {w w' : World} {base : Nat} {e : TypeId} {size : Nat} {v : Value} {n : Nat} {xs : List Value} (h : w.ownsRow base e size v n xs) (hf : Fr F w w') (hne : ∀ k, v.ownBlock = some k → ¬ F k) : w'.ownsRow base e size v n xs := by
  obtain ⟨h1, h2⟩ := h
  refine ⟨h1, ?_⟩
  rcases h2 with h2 | ⟨g, cap, cur, hv, hg, hh, r⟩
  · exact Or.inl h2
  · subst hv
    exact Or.inr ⟨g, cap, cur, rfl, hg, (hf.block g (lt_of_block hh) (hne g rfl)).trans hh, r⟩

theorem owns_ne {w : World} {base : Nat} {e e' : TypeId} {size : Nat} {v : Value} {n : Nat} {xs : List Value} {p : Nat} {cs : Array Value} {fr : Nat × Nat} (h : w.ownsRow base e size v n xs) (hp : w.heap[p]? = some (.cells cs e' fr)) (he : e ≠ e') :
    v.ownBlock ≠ some p := by
  rcases h.2 with ⟨rfl, _⟩ | ⟨g, cap, cur, rfl, _, hh, _⟩
  · simp [Value.ownBlock]
  · intro hk
    simp [Value.ownBlock] at hk
    subst hk
    rw [hh] at hp
    simp at hp
    exact he hp.2.1

theorem owns_apart {w : World} {base base' : Nat} {e e' : TypeId} {size size' : Nat} {v v' : Value} {n n' : Nat} {xs xs' : List Value} (h : w.ownsRow base e size v n xs) (h' : w.ownsRow base' e' size' v' n' xs') (he : e ≠ e') :
    ∀ k, v.ownBlock = some k → v'.ownBlock ≠ some k := by
  intro k hk
  rcases h.2 with ⟨rfl, _⟩ | ⟨g, cap, cur, rfl, _, hh, _⟩
  · simp [Value.ownBlock] at hk
  · simp [Value.ownBlock] at hk
    subst hk
    exact owns_ne h' hh (Ne.symm he)

theorem LogAt.setm {w : World} {p : Nat} {m m' : Mt} {tr : List Int} {ov tv : Value} (h : LogAt w p m tr ov tv) (o : Nat) (v : Value) (hv : (m.cells ov (.bool true) tv).setIfInBounds o v = m'.cells ov (.bool true) tv) (ho : m'.opn = m.opn) :
    LogAt (w.setCell ⟨p, o, none⟩ v) p m' tr ov tv := by
  have hf := Fr.setCell w ⟨p, o, none⟩ v
  refine ⟨?_, ?_, ?_⟩
  · rw [heap_setCell_same _ _ _ _ _ _ h.blk, hv]
  · rw [ho]; exact owns_fr h.own hf (fun k hk he => owns_ne h.own h.blk (by decide) (by rw [hk, he]))
  · exact owns_fr h.trc hf (fun k hk he => owns_ne h.trc h.blk (by decide) (by rw [hk, he]))

/-- The counter at place k. -/
def Mt.nth (m : Mt) (k : Nat) : Int := match k with | 1 => m.a1 | 2 => m.a2 | 3 => m.a3 | 4 => m.a4 | 5 => m.a5 | 6 => m.a6 | 7 => m.a7 | _ => m.a8
theorem Mt.nth_cell (m : Mt) (k : Nat) (h1 : 1 ≤ k) (h8 : k ≤ 8) (ov mv tv : Value) : (m.cells ov mv tv)[k]? = some (.int .i64 (m.nth k)) := by
  have : k = 1 ∨ k = 2 ∨ k = 3 ∨ k = 4 ∨ k = 5 ∨ k = 6 ∨ k = 7 ∨ k = 8 := by omega
  rcases this with rfl | rfl | rfl | rfl | rfl | rfl | rfl | rfl <;> rfl
theorem Mt.nth_set (m : Mt) (k : Nat) (h1 : 1 ≤ k) (h8 : k ≤ 8) (ov mv tv : Value) : (m.cells ov mv tv).setIfInBounds k (.int .i64 (m.nth k + 1)) = (m.bump k).cells ov mv tv := by
  have : k = 1 ∨ k = 2 ∨ k = 3 ∨ k = 4 ∨ k = 5 ∨ k = 6 ∨ k = 7 ∨ k = 8 := by omega
  rcases this with rfl | rfl | rfl | rfl | rfl | rfl | rfl | rfl <;> rfl
theorem Mt.bump_opn (m : Mt) (e : Int) : (m.bump e).opn = m.opn := by unfold Mt.bump; (repeat' split) <;> rfl
theorem Mt.nth_bd {m : Mt} {n : Nat} (h : m.ok n) (k : Nat) : 0 ≤ m.nth k ∧ m.nth k ≤ n := by
  have := h.b
  unfold Mt.nth; split <;> omega

end Go.Proofs.Ytbndpmfekglnkaa
