/- Walks: words: all words of a text. -/
import Derived.Test.YtnfkcdnkmcifbaaDoorVc
import Derived.Maps.OwnIn
import Derived.Maps.AppendAt
namespace Go.Proofs.YtnfkcdnkmcifbaaDoor
open Go.RowKit Go.Shelf
attribute [local go_sem] Oper.semAt_some
set_option maxRecDepth 100000
set_option maxHeartbeats 1000000

theorem each_any (s : ByteArray) (w : World) : Calls Tryd.prog 10 #[.string s] w fun e w' => e = .returned (.func (.func 20) #[] #[.pointer (some ⟨w.heap.size, 0, none⟩)]) ∧ w' = w.alloc (.cells #[.string s] 9) := by
 go_enter Tryd.func10, Tryd.ntmps10
 go_wp2_with fail
 go_ret
 exact ⟨rfl, rfl⟩
/-- Between two rounds. -/
def AllI (w : World) (pre : List (Wd × Bool)) (W : World) : Prop :=
 (∃ v, Boxed W w.heap.size 23 v ∧ W.ownsRow (w.heap.size + 4) 33 9 v pre.length (pre.flatMap fun x => (wdD x.1).toList)) ∧ hrow W (w.heap.size + 1) #[.int .i64 0] 3 ∧ hrow W (w.heap.size + 2) #[.int .i64 0] 24 ∧ (∀ x ∈ pre, x.2 = true) ∧ Below w.heap.size w W ∧ w.heap.size + 4 ≤ W.heap.size
/-- Behind a round that has left. -/
def AllX (w : World) (pre : List (Wd × Bool)) (W : World) : Prop :=
 ∃ ws d, pre = ws ++ [(d, false)] ∧ hrow W w.heap.size #[.slice none 0 0] 23 ∧ hrow W (w.heap.size + 1) #[.int .i64 (d : Wd).at_] 3 ∧ hrow W (w.heap.size + 2) #[.int .i64 7] 24 ∧ Below w.heap.size w W
theorem AllI.below {w W W' : World} {pre : List (Wd × Bool)} (h : AllI w pre W) (hb : Below W.heap.size W W') : AllI w pre W' := by
 obtain ⟨⟨v, h1, h2⟩, h3, h4, h5, h6, h7⟩ := h
 exact ⟨⟨v, h1.kept (grown_of hb) (by simp), h2.kept (grown_of hb) (by cases v.ownBlock <;> simp)⟩, h3.below hb, h4.below hb, h5, h6.trans (hb.mono h6.size), Nat.le_trans h7 hb.size⟩
theorem AllI.size {w W : World} {pre : List (Wd × Bool)} (h : AllI w pre W) : w.heap.size + 4 ≤ W.heap.size := h.2.2.2.2.2
theorem kpW_below {b n₀ : Nat} {H : Nat → Prop} {W W' : World} (hb : Below W.heap.size W W') : KpW b n₀ H W W' := fun hB => by
 refine ⟨hB.below hb, hb.size, fun k ⟨a, n, c, h1, h2⟩ => .inl ⟨a, n, c, ?_, h2⟩, fun k cs t fr hk _ _ => hb.block k (Array.getElem?_eq_some_iff.1 hk).1⟩
 obtain ⟨ao, q, c', e1, _⟩ := hB
 exact (hb.cell (p := ⟨b, 0, none⟩) (cell_lt e1)).symm.trans h1
theorem hrow.own {W W' : World} {g B : Nat} {cs : Array Value} {t : TypeId} {row : Option Nat} (h : hrow W g cs t) (hg : W.grownBy W' row) (hr : ∀ r, row = some r → B ≤ r ∧ ∃ o : Obj, W.heap[r]? = some o ∧ o.isCells = false) : hrow W' g cs t :=
 (hg.block g h.lt (fun e => by obtain ⟨o, ho, hc⟩ := (hr g e.symm).2; rw [h.h] at ho; cases ho; cases hc)).trans h
theorem AllI.own (w : World) (B : Nat) (hB : w.heap.size ≤ B) : OwnFrom B (fun pre W => AllI w pre W) := by
 rintro pre W W' row ⟨⟨v, h1, h2⟩, h3, h4, h5, h6, h7⟩ hg hr
 obtain ⟨v', a, c, _⟩ := holdsRow_own (β := List (Wd × Bool)) (w.heap.size + 4) w.heap.size 23 33 9 (fun pre => pre.length) (fun pre => pre.flatMap fun x => (wdD x.1).toList) (fun _ _ => True) pre W W' row ⟨v, h1, h2, trivial⟩ hg (fun r e => (hr r e).2)
 exact ⟨⟨v', a, c⟩, h3.own hg hr, h4.own hg hr, h5, h6.grown hg h6.size (fun k e => Nat.le_trans hB (hr k e).1), Nat.le_trans h7 hg.size⟩
theorem AllX.own (w : World) (B : Nat) (hB : w.heap.size ≤ B) (c : Code) : OwnFrom B (fun pre W => c = .ret ∧ AllX w pre W) := by
 rintro pre W W' row ⟨hc, ws, e, h1, h2, h3, h4, h5⟩ hg hr
 exact ⟨hc, ws, e, h1, h2.own hg hr, h3.own hg hr, h4.own hg hr, h5.grown hg h5.size (fun k e => Nat.le_trans hB (hr k e).1)⟩
theorem AllI.bad {w W : World} {pre : List (Wd × Bool)} (h : AllI w pre W) (d : Wd) :
  AllX w (pre ++ [(d, false)]) (((W.setCell ⟨w.heap.size, 0, none⟩ (.slice none 0 0)).setCell ⟨w.heap.size + 1, 0, none⟩ (.int .i64 d.at_)).setCell ⟨w.heap.size + 2, 0, none⟩ (.int .i64 7)).drew := by
 obtain ⟨⟨v, b1, b2⟩, a1, e1, _, hbl, hsz⟩ := h
 have b1' : hrow W w.heap.size #[v] 23 := b1
 have x1 := ((hrow.setCell b1' 0 (.slice none 0 0)).fr (Fr.setCell _ ⟨w.heap.size + 1, 0, none⟩ (.int .i64 d.at_)) (by simp)).fr (Fr.setCell _ ⟨w.heap.size + 2, 0, none⟩ (.int .i64 7)) (by simp)
 have x2 := (hrow.setCell (a1.fr (Fr.setCell _ ⟨w.heap.size, 0, none⟩ (.slice none 0 0)) (by simp)) 0 (.int .i64 d.at_)).fr (Fr.setCell _ ⟨w.heap.size + 2, 0, none⟩ (.int .i64 7)) (by simp)
 have x3 := hrow.setCell ((e1.fr (Fr.setCell _ ⟨w.heap.size, 0, none⟩ (.slice none 0 0)) (by simp)).fr (Fr.setCell _ ⟨w.heap.size + 1, 0, none⟩ (.int .i64 d.at_)) (by simp)) 0 (.int .i64 7)
 exact ⟨pre, d, rfl, x1, x2, x3, (((hbl.setCell (p := ⟨w.heap.size, 0, none⟩) (Nat.le_refl _) _).setCell (p := ⟨w.heap.size + 1, 0, none⟩) (by simp) _).setCell (p := ⟨w.heap.size + 2, 0, none⟩) (by simp) _).drew⟩
/-- The world in which the loop begins. -/
theorem all0b (w : World) (s : ByteArray) : ((((w.alloc (.cells #[.slice none 0 0] 23)).alloc (.cells #[.int .i64 0] 3)).alloc (.cells #[.int .i64 0] 24)).alloc (.cells #[.string s] 9)).cell? ⟨w.heap.size, 0, none⟩ = some (.slice none 0 0) :=
 ((((Boxed.new w 23 (.slice none 0 0)).alloc _).alloc _).alloc _).cell
theorem all0c (w : World) (s : ByteArray) : ((((w.alloc (.cells #[.slice none 0 0] 23)).alloc (.cells #[.int .i64 0] 3)).alloc (.cells #[.int .i64 0] 24)).alloc (.cells #[.string s] 9)).cell? ⟨w.heap.size + 3, 0, none⟩ = some (.string s) := by
 have := (Boxed.new (((w.alloc (.cells #[.slice none 0 0] 23)).alloc (.cells #[.int .i64 0] 3)).alloc (.cells #[.int .i64 0] 24)) 9 (.string s)).cell
 simpa using this
theorem all0 (w : World) (s : ByteArray) : AllI w [] ((((w.alloc (.cells #[.slice none 0 0] 23)).alloc (.cells #[.int .i64 0] 3)).alloc (.cells #[.int .i64 0] 24)).alloc (.cells #[.string s] 9)) := by
 have h1 := ((((Boxed.new w 23 (.slice none 0 0)).alloc (.cells #[.int .i64 0] 3)).alloc (.cells #[.int .i64 0] 24)).alloc (.cells #[.string s] 9))
 have h2 := (((Boxed.new (w.alloc (.cells #[.slice none 0 0] 23)) 3 (.int .i64 0)).alloc (.cells #[.int .i64 0] 24)).alloc (.cells #[.string s] 9))
 have h3 := ((Boxed.new ((w.alloc (.cells #[.slice none 0 0] 23)).alloc (.cells #[.int .i64 0] 3)) 24 (.int .i64 0)).alloc (.cells #[.string s] 9))
 simp only [World.size_alloc] at h2 h3
 refine ⟨⟨_, h1, World.ownsRow_nil _ _ _ _⟩, h2, h3, (fun x hx => absurd hx (by simp)), ?_, by simp⟩
 exact ((((Below.refl _ w).alloc (Nat.le_refl _) _).alloc (by simp) _).alloc (by simp; omega) _).alloc (by simp; omega) _
theorem wd_inf : (Tryd.prog.info? 33).map (fun i => (i.zero, i.size, i.bytes)) = some (some (.agg #[.int .i64 0, .int .i64 0, .int .i64 0, .string ⟨#[]⟩, .int .i64 0, .int .u64 0, .int .u64 0, .int .u64 0, .int .u64 0]), 9, 80) := by kernel_rfl
theorem cell_row_new (W : World) (cs : Array Value) (t : TypeId) : ∀ (j : Nat) u, cs.toList[j]? = some u → (W.alloc (.cells cs t)).cell? ((⟨W.heap.size, 0, none⟩ : Addr).add j) = some u := fun j u h => by
 have e : (⟨W.heap.size, 0, none⟩ : Addr).add j = ⟨W.heap.size, j, none⟩ := by unfold Addr.add; split <;> simp_all
 rw [e, (hrow.new W cs t).cell j]
 simpa using h
theorem yields_len (l : List UInt8) : ∀ (f k : Nat), (yieldsF l f k).length ≤ f
 | 0, _ => Nat.le_refl _
 | f + 1, k => by
  unfold yieldsF
  cases nextW l k with
  | none => simp
  | some w =>
   simp only []
   split
   ·simp
   ·have := yields_len l f w.nx
    simp; omega
/-- One word more onto the row. -/
theorem append_word {F : Fence} {nF : Nat} {ops : Array Oper} {rest : List Oper} {o : Oper} {a : Act} {Q : Exit → Act → World → Prop} (hgd : o.guard = none) (s x : Operand)
 (ho : o.op = .call { callee := .builtin .append, args := #[s, x], argTypes := #[23, 23] })
 (b : Nat) (W : World) (n : Nat) (xs : List Value) (v : Value) (hrow : W.ownsRow b 33 9 v n xs) (hsz : b ≤ W.heap.size) (cs : Array Value) (hcs : cs.toList.length = 9) (h1 : ∀ u ∈ cs.toList, u.oneCell' = true) (hn : n ≤ 16385) (hs : a.eval s = v) (hx : a.eval x = .slice (some ⟨W.heap.size, 0, none⟩) 1 1)
 (h : ∀ g c w1, w1.ownsRow b 33 9 (.slice (some ⟨g, 0, none⟩) (n + 1) c) (n + 1) (xs ++ cs.toList) → (W.alloc (.cells cs 33)).grownBy w1 v.ownBlock → (some g = v.ownBlock ∨ g = W.heap.size + 1) → wpListIn F nF Tryd.prog ops Q rest (a.put o.dst (.slice (some ⟨g, 0, none⟩) (n + 1) c)) w1) :
 wpListIn F nF Tryd.prog ops Q (o :: rest) a (W.alloc (.cells cs 33)) := by
 obtain ⟨i0, hi, hz0, hz1, hz2⟩ := info_parts wd_inf
 refine wpListIn_append_own_at (W.alloc (.cells cs 33)) hgd s x 23 ho b 33 i0 _ 9 80 Tryd.underlying23 hi hz0 hz1 hz2 rfl (by decide) v n xs hs (hrow.alloc _) ⟨W.heap.size, 0, none⟩ 1 1 cs.toList hx (by rw [hcs]) (cell_row_new W cs _) h1 (by unfold maxLen; omega) (by omega) (by simp; omega) ?_
 intro v' w1 hown hgrow _ hat
 obtain ⟨g, c, rfl⟩ := ownsRow_succ hown
 refine h g c w1 hown hgrow ?_
 rcases hat with h | h
 ·exact .inl h
 ·exact .inr (by simpa [Value.ownBlock] using h)
/-- .. and stored: what a round must show. -/
theorem AllI.more {w W w1 : World} {pre : List (Wd × Bool)} {H : Nat → Prop} {v : Value} {d : Wd} {g c : Nat} {tmp : Obj} (hH : ¬ H w.heap.size) (hI : AllI w pre W) (hv : Boxed W w.heap.size 23 v) (hrow : W.ownsRow (w.heap.size + 4) 33 9 v pre.length (pre.flatMap fun x => (wdD x.1).toList))
 (hown : w1.ownsRow (w.heap.size + 4) 33 9 (.slice (some ⟨g, 0, none⟩) (pre.length + 1) c) (pre.length + 1) ((pre.flatMap fun x => (wdD x.1).toList) ++ (wdD d).toList)) (hgrow : (W.alloc tmp).grownBy w1 v.ownBlock) (hat : some g = v.ownBlock ∨ g = W.heap.size + 1) :
 Boxed w1 w.heap.size 23 v ∧ KeepsOthers W (w1.setCell ⟨w.heap.size, 0, none⟩ (.slice (some ⟨g, 0, none⟩) (pre.length + 1) c)) ∧ KpW w.heap.size (w.heap.size + 4) H W (w1.setCell ⟨w.heap.size, 0, none⟩ (.slice (some ⟨g, 0, none⟩) (pre.length + 1) c)) ∧ AllI w (pre ++ [(d, true)]) (w1.setCell ⟨w.heap.size, 0, none⟩ (.slice (some ⟨g, 0, none⟩) (pre.length + 1) c)) := by
 obtain ⟨_, a1, e1, hpre, hbl, hsz⟩ := hI
 have hte : 23 ≠ 33 := by decide
 obtain ⟨k1, k2, k3, k4, _⟩ := hv.appended (n₀ := 0) hte ⟨hrow.1, hrow.2.imp id fun ⟨g, c, u, h, _, r⟩ => ⟨g, c, u, h, Nat.zero_le _, r⟩⟩ (Nat.zero_le _) (Nat.zero_le _) (v' := .slice (some ⟨g, 0, none⟩) (pre.length + 1) c) (m := pre.length + 1) ⟨hown.1, hown.2.imp id fun ⟨g, c, u, h, _, r⟩ => ⟨g, c, u, h, Nat.zero_le _, r⟩⟩ hgrow
 have k3' : (w1.setCell ⟨w.heap.size, 0, none⟩ (.slice (some ⟨g, 0, none⟩) (pre.length + 1) c)).ownsRow (w.heap.size + 4) 33 9 (.slice (some ⟨g, 0, none⟩) (pre.length + 1) c) (pre.length + 1) ((pre.flatMap fun x => (wdD x.1).toList) ++ (wdD d).toList) := hown.kept (grownBy_setCell' w1 _ _) (.inr (k1.not_row hte hown).symm)
 have hgt : ∀ r, v.ownBlock = some r → w.heap.size + 4 ≤ r ∧ r < W.heap.size := by
  intro r hr
  rcases hrow.2 with ⟨rfl, _⟩ | ⟨g, cap, cur, rfl, hb, hgb, _⟩
  ·cases hr
  ·cases hr; exact ⟨hb, (Array.getElem?_eq_some_iff.1 hgb).1⟩
 have hs1 : W.heap.size + 1 ≤ w1.heap.size := by simpa using hgrow.size
 have hw1 : ∀ k, k < W.heap.size → some k ≠ v.ownBlock → w1.heap[k]? = W.heap[k]? := fun k hk hne => (hgrow.block k (by simp; omega) hne).trans (Below.heap_alloc _ _ _ hk)
 have hw2 : ∀ k, k < W.heap.size → some k ≠ v.ownBlock → k ≠ w.heap.size → (w1.setCell ⟨w.heap.size, 0, none⟩ (.slice (some ⟨g, 0, none⟩) (pre.length + 1) c)).heap[k]? = W.heap[k]? := fun k hk hne hd => (Below.heap_setCell _ _ _ k hd).trans (hw1 k hk hne)
 have hsz2 : (w1.setCell ⟨w.heap.size, 0, none⟩ (.slice (some ⟨g, 0, none⟩) (pre.length + 1) c)).heap.size = w1.heap.size := by simp
 have hglt : g < w1.heap.size := by
  rcases hown.2 with ⟨h, _⟩ | ⟨g', cap, cur, h, hb, hgb, _⟩
  ·cases h
  ·cases h; exact (Array.getElem?_eq_some_iff.1 hgb).1
 have hgge : w.heap.size + 4 ≤ g := by
  rcases hown.2 with ⟨h, _⟩ | ⟨g', cap, cur, h, hb, hgb, _⟩
  ·cases h
  ·cases h; exact hb
 refine ⟨k1, k4, fun hB => ⟨⟨_, _, _, k2.cell, fun a ha => ?_⟩, by omega, fun k ⟨a, n, c', h1, h2⟩ => ?_, fun k cs t fr hk hH' hn => ?_⟩, ⟨⟨_, k2, ?_⟩, ?_, ?_, ?_, ?_, by omega⟩⟩
 ·cases ha; exact ⟨hgge, by rw [hsz2]; exact hglt⟩
 ·rw [k2.cell] at h1
  cases h1
  subst h2
  rcases hat with h | h
  ·left
   obtain ⟨a', n', c', h3, _⟩ := hB
   rcases hrow.2 with ⟨rfl, _⟩ | ⟨g'', cap, cur, rfl, _⟩
   ·cases h
   ·cases h
    exact ⟨_, _, _, hv.cell, rfl⟩
  ·right; simp only at h ⊢; omega
 ·have hkl : k < W.heap.size := (Array.getElem?_eq_some_iff.1 hk).1
  by_cases hd : k = w.heap.size
  ·subst hd
   rcases hH' with h | h
   ·exact absurd h hH
   ·omega
  ·refine hw2 k hkl (fun e => hn ?_) hd
   rcases hrow.2 with ⟨rfl, _⟩ | ⟨g'', cap, cur, rfl, _⟩
   ·cases e
   ·cases e
    exact ⟨_, _, _, hv.cell, rfl⟩
 ·simpa using k3'
 ·exact (hw2 _ a1.lt (fun e => by have := hgt _ e.symm; omega) (by omega)).trans a1
 ·exact (hw2 _ e1.lt (fun e => by have := hgt _ e.symm; omega) (by omega)).trans e1
 ·intro x hx
  rcases List.mem_append.1 hx with h | h
  ·exact hpre x h
  ·simp at h; subst h; rfl
 ·exact ⟨hgrow.os.trans hbl.os, hgrow.tape.trans hbl.tape, hgrow.output.trans hbl.output, by have := hbl.size; omega, fun k hk => (hw2 k (by omega) (fun e => by have := hgt _ e.symm; omega) (by omega)).trans (hbl.block k hk)⟩
end Go.Proofs.YtnfkcdnkmcifbaaDoor
