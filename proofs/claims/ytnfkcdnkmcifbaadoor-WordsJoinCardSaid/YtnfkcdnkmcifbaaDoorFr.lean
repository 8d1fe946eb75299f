/- All but some blocks is as it was. -/
import Derived.Test.YtnfkcdnkmcifbaaDoorLib
import Derived.Test.YtnfkcdnkmcifbaaDoorLater
namespace Go.Proofs.YtnfkcdnkmcifbaaDoor
open Go.RowKit

/-- All but the blocks F is as it was. -/
structure Fr (F : Nat → Prop) (w w' : World) : Prop where
 os : w'.os = w.os
 tape : w'.tape = w.tape
 output : w'.output = w.output
 size : w.heap.size ≤ w'.heap.size
 block : ∀ k, k < w.heap.size → ¬ F k → w'.heap[k]? = w.heap[k]?

theorem Fr.refl (F : Nat → Prop) (w : World) : Fr F w w := ⟨rfl, rfl, rfl, Nat.le_refl _, fun _ _ _ => rfl⟩
theorem Fr.trans {F G : Nat → Prop} {a b c : World} (h : Fr F a b) (k : Fr G b c) (hG : ∀ i, i < a.heap.size → G i → F i) : Fr F a c :=
 ⟨k.os.trans h.os, k.tape.trans h.tape, k.output.trans h.output, Nat.le_trans h.size k.size, fun i hi hF => (k.block i (Nat.lt_of_lt_of_le hi h.size) (fun hg => hF (hG i hi hg))).trans (h.block i hi hF)⟩
theorem Fr.of_below {F : Nat → Prop} {w w' : World} (h : Below w.heap.size w w') : Fr F w w' := ⟨h.os, h.tape, h.output, h.size, fun k hk _ => h.block k hk⟩
theorem Fr.below {F : Nat → Prop} {w w' : World} {B : Nat} (h : Fr F w w') (hB : B ≤ w.heap.size) (hF : ∀ k, k < B → ¬ F k) : Below B w w' :=
 ⟨h.os, h.tape, h.output, h.size, fun k hk => h.block k (by omega) (hF k hk)⟩
theorem Fr.setCell (w : World) (a : Addr) (v : Value) : Fr (fun k => k = a.block) w (w.setCell a v) :=
 ⟨rfl, rfl, rfl, by simp, fun k _ hk => heap_setCell_other w a k v hk⟩
theorem Fr.setRow (w : World) (g : Nat) (cs : Array Value) : Fr (fun k => k = g) w (w.setRow g cs) :=
 ⟨rfl, rfl, rfl, by simp [World.setRow], fun k _ hk => setRow_other w g k cs hk⟩
theorem Fr.grown {w w' : World} {row : Option Nat} (h : w.grownBy w' row) : Fr (fun k => row = some k) w w' :=
 ⟨h.os, h.tape, h.output, h.size, fun k hk hF => h.block k hk (fun e => hF e.symm)⟩
theorem Fr.grownBy {F : Nat → Prop} {w w' : World} (h : Fr F w w') {row : Option Nat} (hF : ∀ k, F k → row = some k) : w.grownBy w' row :=
 ⟨h.os, h.tape, h.output, h.size, fun k hk hne => h.block k hk (fun hf => hne (hF k hf).symm)⟩

/-- An owned row is as it was where its block is. -/
theorem owns_fr {F : Nat → Prop} {w w' : World} {base : Nat} {e : TypeId} {size : Nat} {v : Value} {n : Nat} {xs : List Value} (h : w.ownsRow base e size v n xs) (hf : Fr F w w') (hne : ∀ k, v.ownBlock = some k → ¬ F k) : w'.ownsRow base e size v n xs := by
 obtain ⟨h1, h2⟩ := h
 refine ⟨h1, ?_⟩
 rcases h2 with h2 | ⟨g, cap, cur, hv, hg, hh, r⟩
 ·exact Or.inl h2
 ·subst hv
  exact Or.inr ⟨g, cap, cur, rfl, hg, (hf.block g (lt_block hh) (hne g rfl)).trans hh, r⟩

theorem Fr.weak {F G : Nat → Prop} {w w' : World} (h : Fr F w w') (hg : ∀ k, F k → G k) : Fr G w w' := ⟨h.os, h.tape, h.output, h.size, fun k hk hG => h.block k hk (fun hF => hG (hg k hF))⟩
theorem hrow.fr {F : Nat → Prop} {w w' : World} {g : Nat} {cs : Array Value} {t : TypeId} (h : hrow w g cs t) (hf : Fr F w w') (hn : ¬ F g) : hrow w' g cs t := (hf.block g h.lt hn).trans h
theorem Sv.fr {F : Nat → Prop} {w w' : World} {ao : Option Addr} {n cap size : Nat} {xs : List Value} (h : Sv w ao n cap size xs) (hf : Fr F w w') (hn : ∀ a, ao = some a → 0 < n → ¬ F a.block) : Sv w' ao n cap size xs := by
 refine ⟨h.len, h.le, h.cm, h.nn, fun j hj => ?_⟩
 obtain ⟨a, ha, hc⟩ := h.cell j hj
 have hlt := World.block_lt_of_cell? w _ (hc.trans (List.getElem?_eq_getElem hj))
 have hb : (a.add j).block = a.block := by unfold Addr.add; split <;> rfl
 have h0 : 0 < n := by
  have hl := h.len
  rcases Nat.eq_zero_or_pos n with h0 | h0
  ·subst h0; rw [Nat.zero_mul] at hl; omega
  ·exact h0
 exact ⟨a, ha, (World.cell?_of_block (hf.block _ hlt (by rw [hb]; exact hn a ha h0))).trans hc⟩
end Go.Proofs.YtnfkcdnkmcifbaaDoor
