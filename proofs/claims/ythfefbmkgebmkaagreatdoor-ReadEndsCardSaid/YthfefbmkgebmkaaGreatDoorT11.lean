/- Walks and plain laws: Lj Lm Lo Lz Lp. -/
import Derived.Test.YthfefbmkgebmkaaGreatDoorM17
import Derived.Test.YthfefbmkgebmkaaGreatDoorM12
import Derived.Test.YthfefbmkgebmkaaGreatDoorM06
import Derived.BigQuiet
import Derived.StillTailTactics
import Derived.Test.YthfefbmkgebmkaaGreatDoorM14
namespace Go.Proofs.YthfefbmkgebmkaaGreatDoor
open Go.RowKit
set_option maxRecDepth 100000
set_option maxHeartbeats 8000000

theorem rulsP_nb {L : List Wd} (hW : WsOk L) (f : Nat) : ∀ (g : Nat) (acc : List (Wd × Pt)) (i : Nat) (x : List (Wd × Pt)) (j : Nat), i < L.length → (treeF 0 acc).2.length ≤ 2 * i → (treeF 0 acc).1.length ≤ i → rulsP L f g acc i = some (.ok x j) → (treeF 0 x).2.length ≤ 2 * L.length ∧ (treeF 0 x).1.length ≤ L.length
 | 0, acc, i, x, j, hi, h1, h2, e => by cases e
 | g + 1, acc, i, x, j, hi, h1, h2, e => by
  rw [rulsP_cont] at e
  cases hq : rulP L f i with
  | none => rw [hq] at e; cases e
  | some r =>
   rw [hq] at e
   cases r with
   | err a b => cases e
   | ok y k =>
    obtain ⟨s1, s2, s3⟩ := rulP_sz hW hi hq
    obtain ⟨wd, p⟩ := y
    have hsn := treeF_snoc 0 acc wd p
    simp only [Nat.zero_add] at hsn
    simp only [] at e s1
    have g1 : (treeF 0 (acc ++ [(wd, p)])).2.length ≤ 2 * k := by rw [hsn]; simp only [List.length_append, flat_len]; omega
    have g2 : (treeF 0 (acc ++ [(wd, p)])).1.length ≤ k := by rw [hsn]; simp only [List.length_append, List.length_cons, List.length_nil]; omega
    unfold contP at e
    split at e
    ·simp only [Option.some.injEq, Rs.ok.injEq] at e
     obtain ⟨rfl, rfl⟩ := e
     exact ⟨by omega, by omega⟩
    ·exact rulsP_nb hW f g _ k x j s3 g1 g2 e
theorem readT_nb {l : List UInt8} : (readT l).1.2.length ≤ 2 * (l.length + 1) ∧ (readT l).1.1.length ≤ l.length + 1 := by
 unfold readT
 cases hw : (wordsOf l).2 with
 | some p => exact ⟨Nat.zero_le _, Nat.zero_le _⟩
 | none =>
  have hA := (words_at hw).ok
  have hl := words_len l
  simp only []
  cases hr : readW (wordsOf l).1 with
  | err a b => exact ⟨Nat.zero_le _, Nat.zero_le _⟩
  | ok x j =>
   unfold readW at hr
   cases hq : rulsP (wordsOf l).1 (6 * (wordsOf l).1.length + 4) ((wordsOf l).1.length + 1) [] 0 with
   | none => rw [hq] at hr; cases hr
   | some r =>
    rw [hq] at hr
    simp only [] at hr
    subst hr
    have := rulsP_nb hA _ _ _ _ _ _ hA.pos (Nat.zero_le _) (Nat.zero_le _) hq
    simp only []
    omega
theorem three_blocks (y : World) (g : Nat) (hg : y.heap.size = g) (a b c : Array Value) (ta tb tc : TypeId) : ∃ z, ((y.alloc (.cells a ta)).alloc (.cells b tb)).alloc (.cells c tc) = z ∧ hrow z g a ta ∧ hrow z (g + 1) b tb ∧ hrow z (g + 1 + 1) c tc ∧ Below y.heap.size y z := by
 subst hg
 have h2 := hrow.new (y.alloc (.cells a ta)) b tb
 have h3 := hrow.new ((y.alloc (.cells a ta)).alloc (.cells b tb)) c tc
 rw [World.size_alloc] at h2
 rw [World.size_alloc, World.size_alloc] at h3
 exact ⟨_, rfl, ((hrow.new y a ta).below ((Below.refl _ _).alloc (Nat.le_refl _) _)).below ((Below.refl _ _).alloc (Nat.le_refl _) _), h2.below ((Below.refl _ _).alloc (Nat.le_refl _) _), h3, al1 (al2 (Below.refl _ _) _ _) _⟩
/-- A tree that was read, as the law walks through it: two objects, five slices. -/
structure PrW (g : Nat) (ro no ao bo co : Option Addr) (rc nc ac bc cc : Nat) (NK : List Nk) (R : List Rr) (N : List Rn) (w : World) : Prop where
 tr : hrow w g #[.slice ro R.length rc, .slice no N.length nc, .slice ao R.length ac, .slice bo N.length bc, .slice co N.length cc] 30
 gm : hrow w (g + 1 + 1) #[.slice ro R.length rc, .slice no N.length nc] 26
 gr : GrW w ro R.length rc no N.length nc NK ⟨R.map Rr.ru, N.map Rn.nd⟩
 ra : Sv w ao R.length ac 1 (inc (R.map fun r => (r.at_ : Int)))
 na : Sv w bo N.length bc 1 (inc (N.map fun x => (x.at_ : Int)))
 nm : Sv w co N.length cc 1 ((N.map fun x => tx x.nm).map Value.string)
section
variable {g : Nat} {ro no ao bo co : Option Addr} {rc nc ac bc cc : Nat} {NK : List Nk} {R : List Rr} {N : List Rn} {w w' : World}
theorem PrW.below (h : PrW g ro no ao bo co rc nc ac bc cc NK R N w) (hb : Below w.heap.size w w') : PrW g ro no ao bo co rc nc ac bc cc NK R N w' :=
 ⟨h.tr.below hb, h.gm.below hb, h.gr.below hb, h.ra.below hb, h.na.below hb, h.nm.below hb⟩
theorem PrW.node (h : PrW g ro no ao bo co rc nc ac bc cc NK R N w) {k : Nat} (hk : k < N.length) :
  ∃ a ko kc, no = some a ∧ w.cell? (a.add (k * 9)) = some (.int .i64 N[k].kind) ∧ w.cell? ⟨(a.add (k * 9)).block, (a.add (k * 9)).off + 5, none⟩ = some (.string (tx N[k].tx)) ∧ w.cell? ⟨(a.add (k * 9)).block, (a.add (k * 9)).off + 6, none⟩ = some (.int .i64 0) ∧
   w.cell? ⟨(a.add (k * 9)).block, (a.add (k * 9)).off + 8, none⟩ = some (.slice ko N[k].kids.length kc) ∧ Sv w ko N[k].kids.length kc 1 (inc (N[k].kids.map fun (j : Nat) => (j : Int))) := by
 have hl : NK.length = N.length := by have := congrArg List.length h.gr.eq; simpa using this
 have hk' : k < NK.length := by omega
 have e : (NK[k]'hk').1 = Rn.nd N[k] := by
  have := congrArg (fun l => l[k]?) h.gr.eq
  simpa [hk, hk'] using this
 obtain ⟨a, ha, c0, -, -, -, -, c5, c6, -, c8⟩ := h.gr.nod.sv.nd9 hk'
 have hs := h.gr.nod.kids (NK[k]'hk') (List.getElem_mem _)
 rw [e] at c0 c5 c6 c8 hs
 have hkl : (Rn.nd N[k]).kids.length = N[k].kids.length := by show (N[k].kids.map fun (j : Nat) => (j : Int)).length = _; rw [List.length_map]
 rw [hkl] at c8 hs
 exact ⟨a, _, _, ha, c0, c5, c6, c8, hs⟩
theorem PrW.nat (h : PrW g ro no ao bo co rc nc ac bc cc NK R N w) {k : Nat} (hk : k < N.length) : ∃ a, bo = some a ∧ w.cell? (a.add k) = some (.int .i64 N[k].at_) := by
 obtain ⟨a, ha, hc⟩ := h.na.intc k (by simpa using hk)
 exact ⟨a, ha, by rw [hc, ← bt_get (by simpa using hk)]; simp⟩
theorem PrW.nnm (h : PrW g ro no ao bo co rc nc ac bc cc NK R N w) {k : Nat} (hk : k < N.length) : ∃ a, co = some a ∧ w.cell? (a.add k) = some (.string (tx N[k].nm)) := by
 obtain ⟨a, ha, hc⟩ := h.nm.str k (by simpa using hk)
 exact ⟨a, ha, by rw [hc]; simp⟩
theorem PrW.rat (h : PrW g ro no ao bo co rc nc ac bc cc NK R N w) {k : Nat} (hk : k < R.length) : ∃ a, ao = some a ∧ w.cell? (a.add k) = some (.int .i64 R[k].at_) := by
 obtain ⟨a, ha, hc⟩ := h.ra.intc k (by simpa using hk)
 exact ⟨a, ha, by rw [hc, ← bt_get (by simpa using hk)]; simp⟩
theorem PrW.rul (h : PrW g ro no ao bo co rc nc ac bc cc NK R N w) {k : Nat} (hk : k < R.length) : ∃ a, ro = some a ∧ w.cell? (a.add (k * 2)) = some (.string (tx R[k].nm)) ∧ w.cell? ⟨(a.add (k * 2)).block, (a.add (k * 2)).off + 1, none⟩ = some (.int .i64 R[k].body) := by
 obtain ⟨a, ha, h1, h2⟩ := h.gr.rul.ru2 (k := k) (by simpa using hk)
 simp only [List.getElem_map] at h1 h2
 exact ⟨a, ha, h1, h2⟩
theorem PrW.nat1 {b : Addr} (h : PrW g ro no ao (some b) co rc nc ac bc cc NK R N w) {k : Nat} (hk : k < N.length) : w.cell? (b.add k) = some (.int .i64 N[k].at_) := by
 obtain ⟨a, ha, hc⟩ := h.nat hk; cases ha; exact hc
theorem PrW.nnm1 {b : Addr} (h : PrW g ro no ao bo (some b) rc nc ac bc cc NK R N w) {k : Nat} (hk : k < N.length) : w.cell? (b.add k) = some (.string (tx N[k].nm)) := by
 obtain ⟨a, ha, hc⟩ := h.nnm hk; cases ha; exact hc
theorem PrW.ntx1 {b : Addr} (h : PrW g ro (some b) ao bo co rc nc ac bc cc NK R N w) {k : Nat} (hk : k < N.length) : w.cell? ⟨(b.add (k * 9)).block, (b.add (k * 9)).off + 5, none⟩ = some (.string (tx N[k].tx)) := by
 obtain ⟨a, ko, kc, ha, -, h5, -⟩ := h.node hk; cases ha; exact h5
theorem PrW.rat1 {b : Addr} (h : PrW g ro no (some b) bo co rc nc ac bc cc NK R N w) {k : Nat} (hk : k < R.length) : w.cell? (b.add k) = some (.int .i64 R[k].at_) := by
 obtain ⟨a, ha, hc⟩ := h.rat hk; cases ha; exact hc
theorem PrW.rul1 {b : Addr} (h : PrW g (some b) no ao bo co rc nc ac bc cc NK R N w) {k : Nat} (hk : k < R.length) : w.cell? ⟨(b.add (k * 2)).block, (b.add (k * 2)).off + 1, none⟩ = some (.int .i64 R[k].body) ∧ w.cell? (b.add (k * 2)) = some (.string (tx R[k].nm)) := by
 obtain ⟨a, ha, h1, h2⟩ := h.rul hk; cases ha; exact ⟨h2, h1⟩
end
/-- The row of ends while it is filled from behind. -/
structure EnV (n : Nat) (E : Nat → Nat) (m : Nat) (z : World) (cs : Array Value) (wr : World) : Prop where
 le : m ≤ n
 row : hrow wr z.heap.size cs 3
 size : cs.size = n
 val : ∀ k, m ≤ k → k < n → cs[k]? = some (.int .i64 (E k))
 bl : Below z.heap.size z wr
section
variable {n : Nat} {E : Nat → Nat} {m : Nat} {z wr w' : World} {cs : Array Value}
theorem EnV.start {z6 : World} (h : z6.ownsRow z.heap.size 3 1 (.slice (some ⟨z.heap.size, 0, none⟩) n n) n (madeCells (Value.int .i64 0).cells (n * 1)).toList) (hb : Below z.heap.size z z6) : ∃ cs, EnV n E n z cs z6 := by
 obtain ⟨-, h2⟩ := h
 rcases h2 with ⟨h2, -⟩ | ⟨g, cap, cur, hv, -, hh, -, -, hs, -⟩
 ·cases h2
 ·simp only [Value.slice.injEq, Option.some.injEq, Addr.mk.injEq, and_true, true_and] at hv
  obtain ⟨rfl, rfl⟩ := hv
  exact ⟨cur, Nat.le_refl _, hh, by omega, fun k h1 h2 => by omega, hb⟩
theorem EnV.below (h : EnV n E m z cs wr) (hb : Below wr.heap.size wr w') : EnV n E m z cs w' := ⟨h.le, h.row.below hb, h.size, h.val, h.bl.trans (hb.mono h.bl.size)⟩
theorem EnV.cell (h : EnV n E m z cs wr) {k : Nat} (h1 : m ≤ k) (h2 : k < n) : wr.cell? ⟨z.heap.size, k, none⟩ = some (.int .i64 (E k)) := by rw [h.row.cell, h.val k h1 h2]
theorem EnV.at0 (h : EnV n E m z cs wr) {k : Nat} (h2 : k < n) : (∃ v, wr.cell? ⟨z.heap.size, k, none⟩ = some v) ∧ wr.frozen? ⟨z.heap.size, k, none⟩ = false :=
 ⟨⟨cs[k]'(by have := h.size; omega), by rw [h.row.cell]; exact Array.getElem?_eq_getElem _⟩, h.row.frozen k⟩
theorem EnV.set (h : EnV n E (m + 1) z cs wr) : EnV n E m z (cs.setIfInBounds m (.int .i64 (E m))) (wr.setCell ⟨z.heap.size, m, none⟩ (.int .i64 (E m))) where
 le := by have := h.le; omega
 row := h.row.setCell m _
 size := by rw [Array.size_setIfInBounds]; exact h.size
 val := fun k h1 h2 => by
  rw [Array.getElem?_setIfInBounds]
  have hs := h.size
  by_cases e : m = k
  ·subst e
   rw [if_pos rfl, if_pos (by omega)]
  ·rw [if_neg e]
   exact h.val k (by omega) h2
 bl := h.bl.setCell (Nat.le_refl _) _
end
end Go.Proofs.YthfefbmkgebmkaaGreatDoor
namespace Go.Proofs.YthfefbmkgebmkaaGreatDoor
open Go.RowKit
set_option maxRecDepth 100000
set_option maxHeartbeats 8000000

section
variable {n : Nat} {E : Nat → Nat} {m : Nat} {z wr w' : World} {cs : Array Value}
theorem EnV.put (h : EnV n E (m + 1) z cs wr) (v : Value) : EnV n E (m + 1) z (cs.setIfInBounds m v) (wr.setCell ⟨z.heap.size, m, none⟩ v) where
 le := h.le
 row := h.row.setCell m _
 size := by rw [Array.size_setIfInBounds]; exact h.size
 val := fun k h1 h2 => by
  rw [Array.getElem?_setIfInBounds, if_neg (by omega)]
  exact h.val k h1 h2
 bl := h.bl.setCell (Nat.le_refl _) _
theorem EnV.putv (h : EnV n E (m + 1) z cs wr) (v : Value) : (cs.setIfInBounds m v)[m]? = some v := by
 have h1 := h.le; have h2 := h.size
 rw [Array.getElem?_setIfInBounds, if_pos rfl, if_pos (by omega)]
theorem EnV.close (h : EnV n E (m + 1) z cs wr) (hv : cs[m]? = some (.int .i64 (E m))) : EnV n E m z cs wr where
 le := by have := h.le; omega
 row := h.row
 size := h.size
 val := fun k h1 h2 => by
  rcases Nat.eq_or_lt_of_le h1 with e | e
  ·subst e; exact hv
  ·exact h.val k e h2
 bl := h.bl
theorem EnV.done (h : EnV n E 0 z cs wr) (hn : n ≤ maxLen) : Sv wr (some ⟨z.heap.size, 0, none⟩) n n 1 (inc ((List.range n).map fun k => (E k : Int))) := by
 have hs := Sv.of_hrow h.row n 1 hn (by rw [h.size]; omega)
 have e : cs.toList = inc ((List.range n).map fun k => (E k : Int)) := by
  apply List.ext_getElem?
  intro k
  rw [Array.getElem?_toList]
  by_cases hk : k < n
  ·rw [h.val k (Nat.zero_le _) hk]; simp [inc, hk]
  ·rw [Array.getElem?_eq_none (by rw [h.size]; omega), List.getElem?_eq_none (by simp [inc]; omega)]
 rw [e] at hs
 exact hs
end
theorem hts_cell {w : World} {gh n : Nat} {E : Nat → Nat} (h : Sv w (some ⟨gh, 0, none⟩) n n 1 (inc ((List.range n).map fun k => (E k : Int)))) {k : Nat} (hk : k < n) : w.cell? ⟨gh, k, none⟩ = some (.int .i64 (E k)) := by
 obtain ⟨a, ha, hc⟩ := h.intc k (by simpa using hk)
 cases ha
 rw [← bt_get (by simpa using hk)] at hc
 simp only [List.getElem_map, List.getElem_range] at hc
 rw [← hc]
 congr 1
 unfold Addr.add
 split <;> simp_all
theorem foldl_max_le {B : Nat} : ∀ (l : List Nat) (a : Nat), a ≤ B → (∀ x ∈ l, x ≤ B) → l.foldl max a ≤ B
 | [], a, ha, _ => ha
 | x :: l, a, ha, h => foldl_max_le l (max a x) (by have := h x (by simp); omega) (fun y hy => h y (List.mem_cons_of_mem _ hy))
/-- A node is no higher than there are nodes from it on. -/
theorem hg_le {N : List Rn} (h : KidsUp N) (q : Nat) (hq : q < N.length) : hg N q ≤ N.length := by
 have H : ∀ (d q : Nat), q < N.length → N.length ≤ d + q → hg N q ≤ N.length - q := by
  intro d
  induction d with
  | zero => intro q h1 h2; omega
  | succ d ih =>
   intro q h1 h2
   rw [hg_eq h q h1]
   have := foldl_max_le (B := N.length - q - 1) (N[q].kids.map (hg N)) 0 (Nat.zero_le _) (fun x hx => by
    obtain ⟨k, hk, rfl⟩ := List.mem_map.1 hx
    obtain ⟨a1, a2⟩ := h q h1 k hk
    have := ih k a2 (by omega)
    omega)
   omega
 have := H N.length q hq (by omega)
 omega
theorem gr_kids {w : World} {ro no : Option Addr} {rn rc nc : Nat} {NK : List Nk} {R : List Rr} {N : List Rn} (h : GrW w ro rn rc no N.length nc NK ⟨R.map Rr.ru, N.map Rn.nd⟩) {k : Nat} (hk : k < N.length) :
  ∃ a ko kc, no = some a ∧ ∀ w', Below w.heap.size w w' → w'.cell? ⟨(a.add (k * 9)).block, (a.add (k * 9)).off + 8, none⟩ = some (.slice ko N[k].kids.length kc) ∧ Sv w' ko N[k].kids.length kc 1 (inc (N[k].kids.map fun (j : Nat) => (j : Int))) := by
 have hl : NK.length = N.length := by have := congrArg List.length h.eq; simpa using this
 have hk' : k < NK.length := by omega
 have e : (NK[k]'hk').1 = Rn.nd N[k] := by
  have := congrArg (fun l => l[k]?) h.eq
  simpa [hk, hk'] using this
 obtain ⟨a, ha, -, -, -, -, -, -, -, -, c8⟩ := h.nod.sv.nd9 hk'
 have hs := h.nod.kids (NK[k]'hk') (List.getElem_mem _)
 rw [e] at c8 hs
 have hkl : (Rn.nd N[k]).kids.length = N[k].kids.length := by show (N[k].kids.map fun (j : Nat) => (j : Int)).length = _; rw [List.length_map]
 rw [hkl] at c8 hs
 exact ⟨a, _, _, ha, fun w' hb => ⟨(hb.cell (World.block_lt_of_cell? w _ c8)).trans c8, hs.below hb⟩⟩
theorem heights_any (w : World) (ro no so bo co : Option Addr) (rc nc sc bc cc : Nat) (NK : List Nk) (R : List Rr) (N : List Rn) (hG : GrW w ro R.length rc no N.length nc NK ⟨R.map Rr.ru, N.map Rn.nd⟩) (hup : KidsUp N) (hn : N.length ≤ 40000) :
  Calls Tryz.prog 58 #[.agg #[.slice ro R.length rc, .slice no N.length nc, .slice so R.length sc, .slice bo N.length bc, .slice co N.length cc]] w fun e w' => ∃ g, e = .returned (.slice (some ⟨g, 0, none⟩) N.length N.length) ∧ Sv w' (some ⟨g, 0, none⟩) N.length N.length 1 (inc ((List.range N.length).map fun k => (hg N k : Int))) ∧ Below w.heap.size w w' := by
 have HG := Lib.hid hG; have HUP := Lib.hid hup; have HN := Lib.hid hn
 clear hG hup hn
 go_enter Tryz.func58, Tryz.ntmps58
 go_upto_region 1 with (fail)
 have hT := hrow.new w #[.slice ro R.length rc, .slice no N.length nc, .slice so R.length sc, .slice bo N.length bc, .slice co N.length cc] 30
 have hbl := (Below.refl w.heap.size w).alloc (Nat.le_refl _) (.cells #[.slice ro R.length rc, .slice no N.length nc, .slice so R.length sc, .slice bo N.length bc, .slice co N.length cc] 30)
 have HG2 := Lib.hid (HG.out.below hbl); have HT := Lib.hid hT; have HB := Lib.hid hbl
 clear hT hbl HG
 generalize w.alloc (.cells #[.slice ro R.length rc, .slice no N.length nc, .slice so R.length sc, .slice bo N.length bc, .slice co N.length cc] 30) = z at *
 obtain ⟨g, hg0⟩ : ∃ g, w.heap.size = g := ⟨_, rfl⟩
 rw [hg0] at HT ⊢
 clear hg0
 have hbN := HG2.out.nod.sv.bound
 have hnI : (N.length : Int) ≤ 40000 := by have := HN.out; omega
 obtain ⟨ii, hi, hz0, hz1, hz2⟩ := info_parts elIntS.i
 have Hi := Lib.hid hi; have Hz0 := Lib.hid hz0; have Hz1 := Lib.hid hz1; have HBy : Hid (ii.bytes * N.length ≤ 281474976710656) := by have h := HN.out; unfold Hid; rw [hz2]; omega
 have HML : Hid (N.length ≤ maxLen) := by have h := HN.out; unfold Hid maxLen; omega
 clear hi hz0 hz1 hz2
 have t1 := HT.out.cell 1
 go_wp2_with (first | (at_make; refine wpList_make_full _ rfl _ _ 27 rfl z.heap.size 3 ii _ 1 Tryz.underlying27 Hi.out Hz0.out Hz1.out _ _ _ _ N.length rfl rfl rfl rfl HBy.out HML.out (Nat.le_refl _) ?_; intro z6 hown6 hg6; have HB6 := Lib.hid ((Below.refl z.heap.size z).grown hg6 (Nat.le_refl _) (by simp)); have HO6 := Lib.hid (EnV.start (E := hg N) hown6 HB6.out); clear hown6 hg6; have m1 := (HT.out.below HB6.out).cell 1))
 obtain ⟨cs0, HE0⟩ := HO6.out
 clear HO6 HB6 Hi Hz0 Hz1 HBy t1
 go_loopw [4, 6] (fun t4 _ wr => ∃ (m : Nat) (p : Int) (cs : Array Value), p = (m : Int) - 1 ∧ t4 = .int .i64 p ∧ Hid (EnV N.length (hg N) m z cs wr)) (fun t4 _ _ => (intOf t4 + 1).toNat)
 case atStart => exact ⟨N.length, _, cs0, rfl, by go_num, HE0⟩
 case round =>
  clear HE0
  obtain ⟨m, p, cs, hp, rfl, HV⟩ := hrel
  cases m with
  | zero =>
   have hp0 : ¬ 0 ≤ p := by omega
   have HD := Lib.hid (HV.out.done HML.out)
   have HBF := Lib.hid (HB.out.trans (HV.out.bl.mono HB.out.size))
   clear hp HV
   go_wp2_with fail
   go_ret
   exact ⟨_, rfl, HD.out, HBF.out⟩
  | succ k =>
   obtain rfl : p = (k : Int) := by omega
   have hk : k < N.length := by have := HV.out.le; omega
   have hkI : (k : Int) < N.length := by omega
   obtain ⟨a, ko, kc, rfl, hkk⟩ := gr_kids HG2.out hk
   have hku := HUP.out k hk
   have hfold := hg_fold HUP.out k hk
   obtain ⟨X, hX⟩ : ∃ X, N[k] = X := ⟨_, rfl⟩
   rw [hX] at hku hfold
   simp only [hX] at hkk
   have HKu := Lib.hid hku; have HKK := Lib.hid hkk; have HFO := Lib.hid hfold
   have hbk := (hkk wr HV.out.bl).2.bound
   have n8 := (hkk wr HV.out.bl).1
   have t1 := (HT.out.below HV.out.bl).cell 1
   obtain ⟨⟨v0, c0⟩, f0⟩ := HV.out.at0 hk
   clear hku hfold hX hkk hp
   go_upto_region 6 with (fail)
   have HV2 := Lib.hid (HV.out.put (.int .i64 1)); have HVV := Lib.hid (HV.out.putv (.int .i64 1))
   generalize wr.setCell ⟨z.heap.size, k, none⟩ (.int .i64 1) = ws at HV2 ⊢
   generalize cs.setIfInBounds k (.int .i64 1) = cs2 at HV2 HVV
   clear t1 n8 c0 f0 HV
   have n8 := (HKK.out ws HV2.out.bl).1
   have t1 := (HT.out.below HV2.out.bl).cell 1
   go_upto_region 7 with (fail)
   clear t1 n8
   go_loopw [30, 6] (fun t30 _ wz => ∃ (j acc : Nat) (cs' : Array Value), j ≤ X.kids.length ∧ t30 = .int .i64 j ∧ Hid (acc = (X.kids.take j).foldl (fun a k => max a (hg N k + 1)) 1) ∧ Hid (EnV N.length (hg N) (k + 1) z cs' wz) ∧ Hid (cs'[k]? = some (.int .i64 acc)) ∧ Hid (acc ≤ N.length + 1)) (fun t30 _ _ => X.kids.length - (intOf t30).toNat)
   case atStart => exact ⟨0, 1, cs2, Nat.zero_le _, by go_num, rfl, HV2.out, HVV.out, by unfold Hid; omega⟩
   case round =>
    clear HV2 HVV
    obtain ⟨j, acc, cs', hj, rfl, HA, HW, HC, HAB⟩ := hrel
    by_cases hlt : j < X.kids.length
    ·have hltI : (j : Int) < X.kids.length := by omega
     obtain ⟨u1, u2⟩ := HKu.out X.kids[j] (List.getElem_mem _)
     obtain ⟨ka, rfl, k5⟩ := (HKK.out wr HW.out.bl).2.intc j (by simpa using hlt)
     rw [← bt_get (by simpa using hlt)] at k5
     simp only [List.getElem_map] at k5
     obtain ⟨q, hq⟩ : ∃ q, X.kids[j] = q := ⟨_, rfl⟩
     have hst : (X.kids.take (j + 1)).foldl (fun a k => max a (hg N k + 1)) 1 = max ((X.kids.take j).foldl (fun a k => max a (hg N k + 1)) 1) (hg N q + 1) := by rw [← List.take_append_getElem hlt, List.foldl_append, hq]; rfl
     rw [hq] at k5 u1 u2
     rw [← HA.out] at hst
     have hqI : (q : Int) < N.length := by omega
     have e5 := HW.out.cell (k := q) (by omega) u2
     have hgb := hg_le HUP.out q u2
     obtain ⟨H, hH⟩ : ∃ H, hg N q = H := ⟨_, rfl⟩
     rw [hH] at e5 hgb hst
     have ck : wr.cell? ⟨z.heap.size, k, none⟩ = some (.int .i64 acc) := by rw [HW.out.row.cell]; exact HC.out
     have fk := HW.out.row.frozen k
     have HST := Lib.hid hst
     have haI : (acc : Int) ≤ 40001 := by have := HAB.out; have := HN.out; omega
     have hHI : (H : Int) ≤ 40000 := by have := HN.out; omega
     have HHB := Lib.hid hgb
     have HPT := Lib.hid (HW.out.put (.int .i64 (max acc (H + 1) : Nat))); have HPV := Lib.hid (HW.out.putv (.int .i64 (max acc (H + 1) : Nat)))
     clear hst hq hH u1 hgb
     go_upto_region 9 with (fail)
     have y0 : ∀ y : Later wr, y.val.cell? ⟨z.heap.size, k, none⟩ = some (.int .i64 acc) := fun y => (y.ok.cell (World.block_lt_of_cell? wr _ ck)).trans ck
     have y1 : ∀ y : Later wr, y.val.cell? ⟨z.heap.size, q, none⟩ = some (.int .i64 H) := fun y => (y.ok.cell (World.block_lt_of_cell? wr _ e5)).trans e5
     clear k5 fk e5 ck HPT HPV
     refine wp_region_later_tail 13 (by kernel_rfl) (by kernel_rfl) ?_
     simp only [List.take_succ_cons, List.take_zero, List.drop_succ_cons, List.drop_zero]
     repeat (go_big_quiet_step (fail))
     refine wpQuiet_nil ?_
     intro w5 hw5
     obtain ⟨y, rfl⟩ := hw5
     have HW5 := Lib.hid (HW.out.below y.ok)
     clear y0 y1 HW
     generalize y.val = w5 at *
     clear y
     have c0 : w5.cell? ⟨z.heap.size, k, none⟩ = some (.int .i64 acc) := by rw [HW5.out.row.cell]; exact HC.out
     have fk := HW5.out.row.frozen k
     have HPT := Lib.hid (HW5.out.put (.int .i64 (max acc (H + 1) : Nat))); have HPV := Lib.hid (HW5.out.putv (.int .i64 (max acc (H + 1) : Nat)))
     have hmx : ((max acc (H + 1) : Nat) : Int) = max (acc : Int) (H + 1) := by omega
     rw [hmx] at HPT HPV
     have HMX := Lib.hid hmx
     clear hmx
     go_wp2_with fail
     go_roundw
     case rel => exact ⟨j + 1, max acc (H + 1), _, hlt, by go_num, HST.out.symm, HPT.out, by unfold Hid; rw [HPV.out, HMX.out], by unfold Hid; have := HAB.out; have := HHB.out; omega⟩
     case measure => first | (simp [intOf]; done) | (simp [intOf]; omega)
    ·have hltI : ¬ (j : Int) < X.kids.length := by omega
     have he : acc = hg N k := by have := HA.out; rw [List.take_of_length_le (by omega), ← HFO.out] at this; exact this
     have HVN := Lib.hid (HW.out.close (by rw [HC.out, he]))
     clear he HW HC HA hlt
     go_wp2_with fail
     go_roundw
     case rel => exact ⟨k, _, cs', rfl, rfl, HVN.out⟩
     case measure => first | (simp [intOf]; done) | (simp [intOf]; omega)
end Go.Proofs.YthfefbmkgebmkaaGreatDoor
namespace Go.Proofs.YthfefbmkgebmkaaGreatDoor
open Go.RowKit
set_option maxRecDepth 100000
set_option maxHeartbeats 8000000

/-- The places of those that are more than may be. -/
def limF {α : Type} (p : Nat → α → Bool) (f : α → Nat) : Nat → List α → List Nat
 | _, [] => []
 | i, x :: l => (if p i x then [f x] else []) ++ limF p f (i + 1) l
theorem limF_take {α : Type} {p : Nat → α → Bool} {f : α → Nat} : ∀ (l : List α) (i k : Nat) (h : k < l.length), limF p f i (l.take (k + 1)) = limF p f i (l.take k) ++ (if p (i + k) l[k] then [f l[k]] else [])
 | [], _, _, h => by simp at h
 | x :: l, i, 0, h => by simp [limF]
 | x :: l, i, k + 1, h => by
  have := limF_take l (i + 1) k (by simpa using h) (p := p) (f := f)
  simp only [List.take_succ_cons, limF, List.getElem_cons_succ]
  rw [this, show i + 1 + k = i + (k + 1) by omega, List.append_assoc]
theorem limF_len {α : Type} {p : Nat → α → Bool} {f : α → Nat} : ∀ (l : List α) (i : Nat), (limF p f i l).length ≤ l.length
 | [], _ => Nat.le_refl _
 | x :: l, i => by
  have := limF_len l (i + 1) (p := p) (f := f)
  simp only [limF, List.length_append, List.length_cons]
  split <;> simp <;> omega
def bigR (N : List Rn) (i : Nat) (r : Rr) : Bool := decide (32 ≤ i) || (decide (32 < r.nm.length) || decide (16 < hg N r.body))
def bigN (i : Nat) (x : Rn) : Bool := decide (2048 ≤ i) || grtF x.nd (tx x.nm)
def limA (R : List Rr) (N : List Rn) : List Nat := limF (bigR N) Rr.at_ 0 R ++ limF bigN Rn.at_ 0 N
def limV (l : List Nat) : Array Value := match l with
 | [] => #[.int .i64 0, .int .i64 0]
 | _ => #[.int .i64 3, .int .i64 (minF (l.map fun (k : Nat) => (k : Int)))]
def incN (l : List Nat) : List Value := inc (l.map fun (k : Nat) => (k : Int))
theorem incN_app (l m : List Nat) : incN (l ++ m) = incN l ++ incN m := by simp [incN, inc]
/-- append(all, k). -/
theorem app_int1 {ops : Array Oper} {rest : List Oper} {o : Oper} {a : Act} {w0 w : World} {Q : Exit → Act → World → Prop} (hgd : o.guard = none) (s x : Operand) (ho : o.op = .call { callee := .builtin .append, args := #[s, x], argTypes := #[27, 27] })
  (v : Value) (l : List Nat) (hs : a.eval s = v) (hO : Own w0 w 3 1 v l.length (incN l)) (k : Nat) (hx : a.eval x = .slice (some ⟨w.heap.size, 0, none⟩) 1 1) (hn : l.length ≤ 1000000)
  (h : ∀ v' w', Own w0 w' 3 1 v' (l ++ [k]).length (incN (l ++ [k])) → wpList Tryz.prog ops Q rest (a.put o.dst v') w') :
  wpList Tryz.prog ops Q (o :: rest) a (w.alloc (.cells #[.int .i64 k] 3)) := by
 have hB := hO.2.size
 refine wpList_append_tag _ hgd s x 27 3 ho elIntS w0.heap.size v l.length _ hs (hO.1.alloc _) ⟨w.heap.size, 0, none⟩ 1 1 [.int .i64 k] hx (Sv.lit w 3 #[.int .i64 k] 1 1 (by unfold maxLen; omega) rfl) (by simp [Value.oneCell']) (by omega) (by unfold maxLen; omega) (by rw [World.size_alloc]; omega) ?_
 intro v' w' h1 h2 h3
 refine h v' w' ⟨?_, ?_⟩
 ·rw [List.length_append, incN_app]; exact h1
 ·have hA : Below w0.heap.size w0 (w.alloc (.cells #[.int .i64 k] 3)) := hO.2.alloc hB _
  refine hA.grown h2 (by rw [World.size_alloc]; omega) (fun k hk => (hO.1.lt k hk).1)
theorem dg_info : (Tryz.prog.info? 33).map (·.size) = some 2 := by decide +kernel
/-- The store of a Diag into a block; what is answered out of it. -/
theorem store_diag {ops : Array Oper} {rest : List Oper} {o : Oper} {a : Act} {w : World} {Q : Exit → Act → World → Prop} (hgd : o.guard = none) (x y : Operand) (ho : o.op = .store 33 x y)
  (g : Nat) (e k e0 k0 : Int) (hx : a.eval x = .pointer (some ⟨g, 0, none⟩)) (hy : a.eval y = .agg #[.int .i64 e, .int .i64 k]) (hg : hrow w g #[.int .i64 e0, .int .i64 k0] 33)
  (h : wpList Tryz.prog ops Q rest (a.put o.dst undef) (w.setRow g #[.int .i64 e, .int .i64 k])) : wpList Tryz.prog ops Q (o :: rest) a w :=
 wpList_store_row hgd _ x y ho g _ hx hy _ _ hg.h dg_info rfl (by simp [Value.oneCell']) h
theorem results_diag {fn : Func} {p : Tmp} (h : fn.results = #[.cell p 33]) (tmps : Array Value) (w : World) (g : Nat) (e k e0 k0 : Int)
  (hp : tmps.getD p undef = .pointer (some ⟨g, 0, none⟩)) (hg : hrow w g #[.int .i64 e0, .int .i64 k0] 33) : (results fn tmps).run Tryz.prog (w.setRow g #[.int .i64 e, .int .i64 k]) = .ok (.agg #[.int .i64 e, .int .i64 k]) (w.setRow g #[.int .i64 e, .int .i64 k]) :=
 results_cell_row h tmps _ g 33 _ _ _ hp (setRow_heap _ _ _ _ _ _ hg) Tryz.underlying33 rfl dg_info
theorem node_later {wx : World} {g : Nat} {cs : Array Value} (h : hrow wx g cs 41) (hs : cs.size = 9) : ∀ x : Later wx, (loadVar 41 ⟨g, 0, none⟩).run Tryz.prog x.val = .ok (.agg cs) x.val := fun x =>
 run_loadVar_row (P := Tryz.prog) x.val g _ _ cs _ _ (h.below x.ok).h Tryz.underlying41 rfl (hs ▸ nd_sz9)
/-- A tree in an object of whatever type: five slices. -/
structure TrX (ty : TypeId) (g : Nat) (ro no ao bo co : Option Addr) (rc nc ac bc cc : Nat) (NK : List Nk) (R : List Rr) (N : List Rn) (w : World) : Prop where
 tr : hrow w g #[.slice ro R.length rc, .slice no N.length nc, .slice ao R.length ac, .slice bo N.length bc, .slice co N.length cc] ty
 gr : GrW w ro R.length rc no N.length nc NK ⟨R.map Rr.ru, N.map Rn.nd⟩
 ra : Sv w ao R.length ac 1 (inc (R.map fun r => (r.at_ : Int)))
 na : Sv w bo N.length bc 1 (inc (N.map fun x => (x.at_ : Int)))
 nm : Sv w co N.length cc 1 ((N.map fun x => tx x.nm).map Value.string)
section
variable {ty : TypeId} {g : Nat} {ro no ao bo co : Option Addr} {rc nc ac bc cc : Nat} {NK : List Nk} {R : List Rr} {N : List Rn} {w w' : World}
theorem TrX.below (h : TrX ty g ro no ao bo co rc nc ac bc cc NK R N w) (hb : Below w.heap.size w w') : TrX ty g ro no ao bo co rc nc ac bc cc NK R N w' :=
 ⟨h.tr.below hb, h.gr.below hb, h.ra.below hb, h.na.below hb, h.nm.below hb⟩
theorem TrX.rat (h : TrX ty g ro no ao bo co rc nc ac bc cc NK R N w) {k : Nat} (hk : k < R.length) : ∃ a, ao = some a ∧ w.cell? (a.add k) = some (.int .i64 R[k].at_) := by
 obtain ⟨a, ha, hc⟩ := h.ra.intc k (by simpa using hk)
 exact ⟨a, ha, by rw [hc, ← bt_get (by simpa using hk)]; simp⟩
theorem TrX.nat (h : TrX ty g ro no ao bo co rc nc ac bc cc NK R N w) {k : Nat} (hk : k < N.length) : ∃ a, bo = some a ∧ w.cell? (a.add k) = some (.int .i64 N[k].at_) := by
 obtain ⟨a, ha, hc⟩ := h.na.intc k (by simpa using hk)
 exact ⟨a, ha, by rw [hc, ← bt_get (by simpa using hk)]; simp⟩
theorem TrX.nnm (h : TrX ty g ro no ao bo co rc nc ac bc cc NK R N w) {k : Nat} (hk : k < N.length) : ∃ a, co = some a ∧ w.cell? (a.add k) = some (.string (tx N[k].nm)) := by
 obtain ⟨a, ha, hc⟩ := h.nm.str k (by simpa using hk)
 exact ⟨a, ha, by rw [hc]; simp⟩
/-- A node's nine cells. -/
theorem TrX.nd (h : TrX ty g ro no ao bo co rc nc ac bc cc NK R N w) {k : Nat} (hk : k < N.length) : ∃ a ko kc, no = some a ∧ ∀ j v, (#[.int .i64 N[k].kind, .int .u64 (clsW N[k].cl 0), .int .u64 (clsW N[k].cl 1), .int .u64 (clsW N[k].cl 2), .int .u64 (clsW N[k].cl 3), .string (tx N[k].tx), .int .i64 0, .int .i64 N[k].lv, .slice ko N[k].kids.length kc] : Array Value).toList[j]? = some v → w.cell? ((a.add (k * 9)).add j) = some v := by
 have hl : NK.length = N.length := by have := congrArg List.length h.gr.eq; simpa using this
 have hk' : k < NK.length := by omega
 have e : (NK[k]'hk').1 = Rn.nd N[k] := by
  have := congrArg (fun l => l[k]?) h.gr.eq
  simpa [hk, hk'] using this
 obtain ⟨a, ha, hc⟩ := h.gr.nod.sv.at ndc_len (by decide) k hk'
 obtain ⟨⟨q, ko, kc⟩, hq⟩ : ∃ y, NK[k]'hk' = y := ⟨_, rfl⟩
 rw [hq] at hc e
 simp only [] at e
 subst e
 refine ⟨a, ko, kc, ha, ?_⟩
 have hkl : (Rn.nd N[k]).kids.length = N[k].kids.length := by show (N[k].kids.map fun (j : Nat) => (j : Int)).length = _; rw [List.length_map]
 unfold ndc at hc
 simp only [hkl] at hc
 exact hc
theorem TrX.rul (h : TrX ty g ro no ao bo co rc nc ac bc cc NK R N w) {k : Nat} (hk : k < R.length) : ∃ a, ro = some a ∧ w.cell? (a.add (k * 2)) = some (.string (tx R[k].nm)) ∧ w.cell? ⟨(a.add (k * 2)).block, (a.add (k * 2)).off + 1, none⟩ = some (.int .i64 R[k].body) := by
 obtain ⟨a, ha, h1, h2⟩ := h.gr.rul.ru2 (k := k) (by simpa using hk)
 simp only [List.getElem_map] at h1 h2
 exact ⟨a, ha, h1, h2⟩
end
end Go.Proofs.YthfefbmkgebmkaaGreatDoor
namespace Go.Proofs.YthfefbmkgebmkaaGreatDoor
open Go.RowKit
set_option maxRecDepth 100000
set_option maxHeartbeats 8000000
/-- Texts and names of what was read are no longer than the text. -/
theorem readT_tx {l : List UInt8} {R : List Rr} {N : List Rn} {e a : Nat} (h : readT l = ((R, N), e, a)) : (∀ x ∈ N, x.tx.length ≤ l.length) ∧ (∀ r ∈ R, r.nm.length ≤ l.length) := by
 by_cases he : e = 0
 ·subst he
  obtain ⟨-, -, -, -, E, hE, -, hNm, -⟩ := preorder h
  refine ⟨fun x hx => ?_, fun r hr => ?_⟩
  ·obtain ⟨i, hi, rfl⟩ := List.mem_iff_getElem.1 hx
   exact (hE i hi).2.2.2.2.2.2
  ·obtain ⟨-, w, h1, h2⟩ := hNm r hr
   rw [← h2]; exact nextW_tx h1
 ·obtain ⟨hX, -, -⟩ := readT_err h he
  cases hX
  exact ⟨fun x hx => by simp at hx, fun x hx => by simp at hx⟩
/-- What Text gives back: a tree (an empty one where it errs), its slices, the error. -/
theorem TxtP.tree {l : List UInt8} {w w' : World} {e : Ending} {R : List Rr} {N : List Rn} {e0 a0 : Nat} (h : TxtP l w e w') (hr : readT l = ((R, N), e0, a0)) (hl : l.length ≤ 1000000) :
  ∃ (ro no ao bo co : Option Addr) (rc nc ac bc cc : Nat) (NK : List Nk), e = .returned (.tuple #[.agg #[.slice ro R.length rc, .slice no N.length nc, .slice ao R.length ac, .slice bo N.length bc, .slice co N.length cc], .agg #[.int .i64 e0, .int .i64 a0]]) ∧
   GrW w' ro R.length rc no N.length nc NK ⟨R.map Rr.ru, N.map Rn.nd⟩ ∧ Sv w' ao R.length ac 1 (inc (R.map fun r => (r.at_ : Int))) ∧ Sv w' bo N.length bc 1 (inc (N.map fun x => (x.at_ : Int))) ∧ Sv w' co N.length cc 1 ((N.map fun x => tx x.nm).map Value.string) ∧ Below w.heap.size w w' := by
 obtain ⟨v1, v2, v3, v4, v5, rfl, ht, hb⟩ := h
 rw [hr] at ht
 obtain ⟨h1, h2⟩ := readT_tx hr
 obtain ⟨ro, no, ao, bo, co, rc, nc, ac, bc, cc, NK, rfl, rfl, rfl, rfl, rfl, hG, hRA, hNA, hNM⟩ := ht.gr (fun x hx => by have := h1 x hx; omega) (fun r hr => by have := h2 r hr; omega)
 exact ⟨ro, no, ao, bo, co, rc, nc, ac, bc, cc, NK, by rw [hr], hG, hRA, hNA, hNM, hb⟩
theorem two_blocks (y : World) (g : Nat) (hg : y.heap.size = g) (a b : Array Value) (ta tb : TypeId) : ∃ z, (y.alloc (.cells a ta)).alloc (.cells b tb) = z ∧ hrow z g a ta ∧ hrow z (g + 1) b tb ∧ Below y.heap.size y z := by
 subst hg
 have h2 := hrow.new (y.alloc (.cells a ta)) b tb
 rw [World.size_alloc] at h2
 exact ⟨_, rfl, (hrow.new y a ta).below ((Below.refl _ _).alloc (Nat.le_refl _) _), h2, al2 (Below.refl _ _) _ _⟩
/-- A tree that was read, with its error, in two objects. -/
structure TrD (g : Nat) (ro no ao bo co : Option Addr) (rc nc ac bc cc : Nat) (NK : List Nk) (R : List Rr) (N : List Rn) (e a : Nat) (w : World) : Prop where
 tr : hrow w g #[.slice ro R.length rc, .slice no N.length nc, .slice ao R.length ac, .slice bo N.length bc, .slice co N.length cc] 30
 dg : hrow w (g + 1) #[.int .i64 e, .int .i64 a] 33
 gr : GrW w ro R.length rc no N.length nc NK ⟨R.map Rr.ru, N.map Rn.nd⟩
section
variable {g : Nat} {ro no ao bo co : Option Addr} {rc nc ac bc cc : Nat} {NK : List Nk} {R : List Rr} {N : List Rn} {e a : Nat} {w w' : World}
theorem TrD.below (h : TrD g ro no ao bo co rc nc ac bc cc NK R N e a w) (hb : Below w.heap.size w w') : TrD g ro no ao bo co rc nc ac bc cc NK R N e a w' := ⟨h.tr.below hb, h.dg.below hb, h.gr.below hb⟩
theorem TrD.new (y : World) (hg : y.heap.size = g) (h : GrW y ro R.length rc no N.length nc NK ⟨R.map Rr.ru, N.map Rn.nd⟩) : ∃ z, (y.alloc (.cells #[.slice ro R.length rc, .slice no N.length nc, .slice ao R.length ac, .slice bo N.length bc, .slice co N.length cc] 30)).alloc (.cells #[.int .i64 e, .int .i64 a] 33) = z ∧ TrD g ro no ao bo co rc nc ac bc cc NK R N e a z ∧ Below y.heap.size y z := by
 obtain ⟨z, hz, z1, z2, zb⟩ := two_blocks y g hg #[.slice ro R.length rc, .slice no N.length nc, .slice ao R.length ac, .slice bo N.length bc, .slice co N.length cc] #[.int .i64 e, .int .i64 a] 30 33
 exact ⟨z, hz, ⟨z1, z2, h.below zb⟩, zb⟩
end
end Go.Proofs.YthfefbmkgebmkaaGreatDoor
namespace Go.Proofs.YthfefbmkgebmkaaGreatDoor
open Go.RowKit
set_option maxRecDepth 100000
set_option maxHeartbeats 60000000

theorem limits_any (w : World) (ro no ao bo co : Option Addr) (rc nc ac bc cc : Nat) (NK : List Nk) (R : List Rr) (N : List Rn) (hG : GrW w ro R.length rc no N.length nc NK ⟨R.map Rr.ru, N.map Rn.nd⟩)
  (hra : Sv w ao R.length ac 1 (inc (R.map fun r => (r.at_ : Int)))) (hna : Sv w bo N.length bc 1 (inc (N.map fun x => (x.at_ : Int)))) (hnm : Sv w co N.length cc 1 ((N.map fun x => tx x.nm).map Value.string))
  (hup : KidsUp N) (hbd : ∀ r ∈ R, r.body < N.length) (hn : N.length ≤ 40000) (hr : R.length ≤ 40000) :
  Calls Tryz.prog 30 #[.agg #[.slice ro R.length rc, .slice no N.length nc, .slice ao R.length ac, .slice bo N.length bc, .slice co N.length cc]] w fun e w' => e = .returned (.agg (limV (limA R N))) ∧ Below w.heap.size w w' := by
 have HUP := Lib.hid hup; have HBD := Lib.hid hbd; have HN := Lib.hid hn; have HRn := Lib.hid hr
 have hbR := hG.rul.bound; have hbN := hG.nod.sv.bound
 obtain ⟨g, hg0⟩ : ∃ g, w.heap.size = g := ⟨_, rfl⟩
 obtain ⟨z, hz, z1, z2, zb⟩ := two_blocks w g hg0 #[.slice ro R.length rc, .slice no N.length nc, .slice ao R.length ac, .slice bo N.length bc, .slice co N.length cc] #[.int .i64 0, .int .i64 0] 30 33
 have HX : Hid (TrX 30 g ro no ao bo co rc nc ac bc cc NK R N z) := ⟨z1, hG.below zb, hra.below zb, hna.below zb, hnm.below zb⟩
 have HD := Lib.hid z2; have HB := Lib.hid zb
 have HZ := Lib.hid hz; have HG0 := Lib.hid hg0
 clear hG hra hna hnm hup hbd hn hr hz z1 z2 zb hg0
 go_enter Tryz.func30, Tryz.ntmps30
 go_upto_region 2 with (fail)
 rw [HZ.out, HG0.out]
 have t0 := HX.out.tr.cell 0; have t1 := HX.out.tr.cell 1; have t2 := HX.out.tr.cell 2; have t3 := HX.out.tr.cell 3; have t4 := HX.out.tr.cell 4
 go_wp2_with fail
 refine (heights_any z ro no ao bo co rc nc ac bc cc NK R N HX.out.gr HUP.out HN.out).mono ?_
 rintro e w2 ⟨gh, rfl, hh, hb⟩
 have HX2 := Lib.hid (HX.out.below hb); have HD2 := Lib.hid (HD.out.below hb); have HH := Lib.hid hh
 have HB2 := Lib.hid (HB.out.trans (hb.mono HB.out.size))
 clear hb hh t0 t1 t2 t3 t4 HX HD HB HZ
 have t0 := HX2.out.tr.cell 0
 go_upto_region 4 with (fail)
 clear t0
 go_loopw [3, 5, 6, 15] (fun t3 _ _ t15 wr => ∃ (k : Nat) (v : Value), k ≤ R.length ∧ t15 = .int .i64 k ∧ t3 = v ∧ Hid (Own w2 wr 3 1 v (limF (bigR N) Rr.at_ 0 (R.take k)).length (incN (limF (bigR N) Rr.at_ 0 (R.take k))))) (fun _ _ _ t15 _ => R.length - (intOf t15).toNat)
 case atStart => exact ⟨0, .slice none 0 0, Nat.zero_le _, by go_num, rfl, Own.nil _ _ _⟩
 case round =>
  obtain ⟨k, v, hk, rfl, rfl, HO⟩ := hrel
  have HX3 := Lib.hid (HX2.out.below HO.out.2)
  by_cases hlt : k < R.length
  ·have hltI : (k : Int) < R.length := by omega
   have hst := limF_take (p := bigR N) (f := Rr.at_) R 0 k hlt
   rw [Nat.zero_add] at hst
   have hbody := HBD.out R[k] (List.getElem_mem _)
   obtain ⟨rr, rfl, r0, r1⟩ := HX3.out.rul hlt
   obtain ⟨Y, hY⟩ : ∃ Y, R[k] = Y := ⟨_, rfl⟩
   rw [hY] at hst hbody r0 r1
   have HY := Lib.hid hY
   have hll : (limF (bigR N) Rr.at_ 0 (R.take k)).length ≤ 1000000 := by
    have h1 := limF_len (p := bigR N) (f := Rr.at_) (R.take k) 0
    have h2 : (R.take k).length ≤ R.length := by rw [List.length_take]; omega
    have := HRn.out; omega
   have HLL := Lib.hid hll
   have e5 := hts_cell (HH.out.below HO.out.2) hbody
   obtain ⟨H, hH⟩ : ∃ H, hg N Y.body = H := ⟨_, rfl⟩
   rw [hH] at e5
   have hbI : (Y.body : Int) < N.length := by omega
   have hbig : bigR N k Y = (decide (32 ≤ k) || (decide (32 < Y.nm.length) || decide (16 < H))) := by unfold bigR; rw [hH]
   have HBIG := Lib.hid hbig; have HST0 := Lib.hid hst
   clear hst hbig hY hH hll
   go_upto_region 6 with (fail)
   have hbl := (Below.refl wr.heap.size wr).alloc (Nat.le_refl _) (.cells #[.string (tx Y.nm), .int .i64 Y.body] 48)
   have HX4 := Lib.hid (HX3.out.below hbl); have HO4 := Lib.hid (HO.out.below hbl)
   have HN6 := Lib.hid (hrow.new wr #[.string (tx Y.nm), .int .i64 Y.body] 48)
   have e6 := (hbl.cell (World.block_lt_of_cell? wr _ e5)).trans e5
   clear hbl HX3 HO e5 r0 r1
   generalize wr.alloc (.cells #[.string (tx Y.nm), .int .i64 Y.body] 48) = wx at *
   obtain ⟨g6, hg6⟩ : ∃ g, wr.heap.size = g := ⟨_, rfl⟩
   rw [hg6] at HN6 ⊢
   clear hg6
   have n0 : wx.cell? ⟨g6, 0, none⟩ = some (.string (tx Y.nm)) := HN6.out.cell 0
   have n1 : wx.cell? ⟨g6, 1, none⟩ = some (.int .i64 Y.body) := HN6.out.cell 1
   by_cases q1 : 32 ≤ k
   ·have HST : Hid (limF (bigR N) Rr.at_ 0 (R.take (k + 1)) = limF (bigR N) Rr.at_ 0 (R.take k) ++ [Y.at_]) := by
     have hb := HBIG.out
     unfold Hid; rw [HST0.out, hb]; simp [q1]
    have qI : (32 : Int) ≤ k := by omega
    clear q1
    obtain ⟨aa, rfl, ra0⟩ := HX4.out.rat hlt
    have hba := HX4.out.ra.bound
    have t2 := HX4.out.tr.cell 2
    rw [HY.out] at ra0
    go_upto_region 7 with (fail)
    go_wp2_with (at_builtin; refine app_int1 rfl (.tmp 36) (.tmp 42) rfl _ _ rfl HO4.out Y.at_ rfl HLL.out ?_; intro v' w8 hO8; have HO8 := Lib.hid hO8; clear hO8)
    rw [← HST.out] at HO8
    go_roundw
    case rel => exact ⟨k + 1, _, hlt, by go_num, rfl, HO8.out⟩
    case measure => first | (simp [intOf]; done) | (simp [intOf]; omega)
   ·have qI : ¬ (32 : Int) ≤ k := by omega
    by_cases q2 : 32 < Y.nm.length
    ·have HST : Hid (limF (bigR N) Rr.at_ 0 (R.take (k + 1)) = limF (bigR N) Rr.at_ 0 (R.take k) ++ [Y.at_]) := by
      have hb := HBIG.out
      unfold Hid; rw [HST0.out, hb]; simp [q2]
     have qJ : (32 : Int) < ((tx Y.nm).size : Int) := by rw [tx_size]; omega
     clear q1 q2
     obtain ⟨aa, rfl, ra0⟩ := HX4.out.rat hlt
     have hba := HX4.out.ra.bound
     have t2 := HX4.out.tr.cell 2
     rw [HY.out] at ra0
     go_upto_region 7 with (fail)
     go_wp2_with (at_builtin; refine app_int1 rfl (.tmp 36) (.tmp 42) rfl _ _ rfl HO4.out Y.at_ rfl HLL.out ?_; intro v' w8 hO8; have HO8 := Lib.hid hO8; clear hO8)
     rw [← HST.out] at HO8
     go_roundw
     case rel => exact ⟨k + 1, _, hlt, by go_num, rfl, HO8.out⟩
     case measure => first | (simp [intOf]; done) | (simp [intOf]; omega)
    ·have qJ : ¬ (32 : Int) < ((tx Y.nm).size : Int) := by rw [tx_size]; omega
     by_cases q3 : 16 < H
     ·have HST : Hid (limF (bigR N) Rr.at_ 0 (R.take (k + 1)) = limF (bigR N) Rr.at_ 0 (R.take k) ++ [Y.at_]) := by
       have hb := HBIG.out
       unfold Hid; rw [HST0.out, hb]; simp [q3]
      have qK : (16 : Int) < H := by omega
      clear q1 q2 q3
      obtain ⟨aa, rfl, ra0⟩ := HX4.out.rat hlt
      have hba := HX4.out.ra.bound
      have t2 := HX4.out.tr.cell 2
      rw [HY.out] at ra0
      go_upto_region 7 with (fail)
      go_wp2_with (at_builtin; refine app_int1 rfl (.tmp 36) (.tmp 42) rfl _ _ rfl HO4.out Y.at_ rfl HLL.out ?_; intro v' w8 hO8; have HO8 := Lib.hid hO8; clear hO8)
      rw [← HST.out] at HO8
      go_roundw
      case rel => exact ⟨k + 1, _, hlt, by go_num, rfl, HO8.out⟩
      case measure => first | (simp [intOf]; done) | (simp [intOf]; omega)
     ·have HST : Hid (limF (bigR N) Rr.at_ 0 (R.take (k + 1)) = limF (bigR N) Rr.at_ 0 (R.take k)) := by
       have hb := HBIG.out
       unfold Hid; rw [HST0.out, hb]; simp [q1, q2, q3]
      have qK : ¬ (16 : Int) < H := by omega
      clear q1 q2 q3
      go_wp2_with fail
      rw [← HST.out] at HO4
      go_roundw
      case rel => exact ⟨k + 1, _, hlt, by go_num, rfl, HO4.out⟩
      case measure => first | (simp [intOf]; done) | (simp [intOf]; omega)
  ·have hltI : ¬ (k : Int) < R.length := by omega
   obtain rfl : k = R.length := by omega
   have HO2 := Lib.hid HO.out
   rw [List.take_length] at HO2
   obtain ⟨lA, hlA⟩ : ∃ l, limF (bigR N) Rr.at_ 0 R = l := ⟨_, rfl⟩
   have hlAl : lA.length ≤ R.length := by rw [← hlA]; exact limF_len _ _
   rw [hlA] at HO2
   have HLA := Lib.hid hlA; have HLAL := Lib.hid hlAl
   clear hlA hlAl HO hk hlt
   have t1 := HX3.out.tr.cell 1
   go_upto_region 10 with (fail)
   clear t1 HX3
   go_loopw [3, 7, 8, 49] (fun t3 _ _ t49 wr => ∃ (k : Nat) (v : Value), k ≤ N.length ∧ t49 = .int .i64 k ∧ t3 = v ∧ Hid (Own w2 wr 3 1 v (lA ++ limF bigN Rn.at_ 0 (N.take k)).length (incN (lA ++ limF bigN Rn.at_ 0 (N.take k))))) (fun _ _ _ t49 _ => N.length - (intOf t49).toNat)
   case atStart => exact ⟨0, _, Nat.zero_le _, by go_num, rfl, by have := HO2.out; unfold Hid; simpa [limF] using this⟩
   case round =>
    clear HO2
    obtain ⟨k, v, hk, rfl, rfl, HO⟩ := hrel
    have HX3 := Lib.hid (HX2.out.below HO.out.2)
    by_cases hlt : k < N.length
    ·have hltI : (k : Int) < N.length := by omega
     have hst := limF_take (p := bigN) (f := Rn.at_) N 0 k hlt
     rw [Nat.zero_add] at hst
     have hll : (lA ++ limF bigN Rn.at_ 0 (N.take k)).length ≤ 1000000 := by
      have h1 := limF_len (p := bigN) (f := Rn.at_) (N.take k) 0
      have h2 : (N.take k).length ≤ N.length := by rw [List.length_take]; omega
      have := HRn.out; have := HN.out; have := HLAL.out
      rw [List.length_append]; omega
     have HLL := Lib.hid hll
     obtain ⟨a, ko, kc, rfl, hnd⟩ := HX3.out.nd hlt
     obtain ⟨Y, hY⟩ : ∃ Y, N[k] = Y := ⟨_, rfl⟩
     rw [hY] at hst hnd
     have HY := Lib.hid hY
     have hbig : bigN k Y = (decide (2048 ≤ k) || grtF Y.nd (tx Y.nm)) := rfl
     have HBIG := Lib.hid hbig; have HST0 := Lib.hid hst; have HND := Lib.hid hnd
     clear hst hbig hY hll hnd
     go_upto_region 11 with (fail)
     have t1 := HX3.out.tr.cell 1
     go_wp2_with (refine wpList_load_part rfl 41 (.tmp 52) rfl (a.add (k * 9)) rfl #[.int .i64 Y.kind, .int .u64 (clsW Y.cl 0), .int .u64 (clsW Y.cl 1), .int .u64 (clsW Y.cl 2), .int .u64 (clsW Y.cl 3), .string (tx Y.tx), .int .i64 0, .int .i64 Y.lv, .slice ko Y.kids.length kc] _ HND.out Tryz.underlying41 rfl nd_sz9 ?_)
     have hbl := (Below.refl wr.heap.size wr).alloc (Nat.le_refl _) (.cells #[.int .i64 Y.kind, .int .u64 (clsW Y.cl 0), .int .u64 (clsW Y.cl 1), .int .u64 (clsW Y.cl 2), .int .u64 (clsW Y.cl 3), .string (tx Y.tx), .int .i64 0, .int .i64 Y.lv, .slice ko Y.kids.length kc] 41)
     have HX4 := Lib.hid (HX3.out.below hbl); have HO4 := Lib.hid (HO.out.below hbl)
     have HNr := Lib.hid (hrow.new wr #[.int .i64 Y.kind, .int .u64 (clsW Y.cl 0), .int .u64 (clsW Y.cl 1), .int .u64 (clsW Y.cl 2), .int .u64 (clsW Y.cl 3), .string (tx Y.tx), .int .i64 0, .int .i64 Y.lv, .slice ko Y.kids.length kc] 41)
     clear hbl HX3 HO t1
     generalize wr.alloc (.cells #[.int .i64 Y.kind, .int .u64 (clsW Y.cl 0), .int .u64 (clsW Y.cl 1), .int .u64 (clsW Y.cl 2), .int .u64 (clsW Y.cl 3), .string (tx Y.tx), .int .i64 0, .int .i64 Y.lv, .slice ko Y.kids.length kc] 41) = wx at *
     obtain ⟨g8, hg8⟩ : ∃ g, wr.heap.size = g := ⟨_, rfl⟩
     rw [hg8] at HNr ⊢
     clear hg8
     by_cases q1 : 2048 ≤ k
     ·have HST : Hid (lA ++ limF bigN Rn.at_ 0 (N.take (k + 1)) = lA ++ limF bigN Rn.at_ 0 (N.take k) ++ [Y.at_]) := by
       have hb := HBIG.out
       unfold Hid; rw [HST0.out, hb]; simp [q1]
      have qB : decide ((2048 : Int) ≤ k) = true := by simp; omega
      clear q1
      refine wp_region_later (by kernel_rfl) (by kernel_rfl) ?_
      repeat (go_big_quiet_step (fail))
      refine wpQuiet_nil ?_
      intro w5 hw5
      obtain ⟨y, rfl⟩ := hw5
      have HX5 := Lib.hid (HX4.out.below y.ok); have HO5 := Lib.hid (HO4.out.below y.ok)
      clear HX4 HO4 HNr qB
      generalize y.val = w6 at *
      clear y
      obtain ⟨aa, rfl, ra0⟩ := HX5.out.nat hlt
      have hba := HX5.out.na.bound
      have t2 := HX5.out.tr.cell 3
      rw [HY.out] at ra0
      go_upto_region 13 with (fail)
      go_wp2_with (at_builtin; refine app_int1 rfl (.tmp 65) (.tmp 71) rfl _ _ rfl HO5.out Y.at_ rfl HLL.out ?_; intro v' w8 hO8; have HO8 := Lib.hid hO8; clear hO8)
      rw [← HST.out] at HO8
      go_roundw
      case rel => exact ⟨k + 1, _, hlt, by go_num, rfl, HO8.out⟩
      case measure => first | (simp [intOf]; done) | (simp [intOf]; omega)
     ·have qB : decide ((2048 : Int) ≤ k) = false := by simp; omega
      have HGt : Hid (∀ x : Later wx, Calls Tryz.prog 59 #[.agg #[.int .i64 Y.kind, .int .u64 (clsW Y.cl 0), .int .u64 (clsW Y.cl 1), .int .u64 (clsW Y.cl 2), .int .u64 (clsW Y.cl 3), .string (tx Y.tx), .int .i64 0, .int .i64 Y.lv, .slice ko Y.kids.length kc], .string (tx Y.nm)] x.val fun e w' => e = .returned (.bool (grtF Y.nd (tx Y.nm))) ∧ ∃ y : Later wx, w' = y.val) := fun x => Calls.later (by have h := great_any Y.nd (tx Y.nm) ko kc x.val; rw [show (Rn.nd Y).kids.length = Y.kids.length by show (Y.kids.map fun (j : Nat) => (j : Int)).length = _; rw [List.length_map]] at h; exact h)
      obtain ⟨cn, rfl, nn⟩ := HX4.out.nnm hlt
      rw [HY.out] at nn
      have c4 : ∀ x : Later wx, x.val.cell? ⟨g, 4, none⟩ = some (.slice (some cn) N.length cc) := fun x => (HX4.out.below x.ok).tr.cell 4
      have cnn : ∀ x : Later wx, x.val.cell? (cn.add k) = some (.string (tx Y.nm)) := fun x => (x.ok.cell (World.block_lt_of_cell? wx _ nn)).trans nn
      have hbc := HX4.out.nm.bound
      have HPN := Lib.hid (later_all (node_later HNr.out rfl))
      obtain ⟨G, hG⟩ : ∃ G, grtF Y.nd (tx Y.nm) = G := ⟨_, rfl⟩
      rw [hG] at HGt HBIG
      have HQ1 := Lib.hid q1
      clear nn hG q1
      refine wp_region_later (by kernel_rfl) (by kernel_rfl) ?_
      repeat (first | go_big_quiet_step ((go_at_call 59; with_reducible exact HGt.out _)) | (refine wpQuiet_load_part rfl 41 (.tmp 8) rfl ⟨g8, 0, none⟩ rfl _ HPN.out ?_; simp only [Act.put, List.setIfInBounds_toArray, List.set_cons_succ, List.set_cons_zero]))
      refine wpQuiet_nil ?_
      intro w5 hw5
      obtain ⟨y, rfl⟩ := hw5
      have HX5 := Lib.hid (HX4.out.below y.ok); have HO5 := Lib.hid (HO4.out.below y.ok)
      clear HX4 HO4 HNr qB c4 cnn HPN HGt
      generalize y.val = w6 at *
      clear y
      cases G with
      | true =>
       have HST : Hid (lA ++ limF bigN Rn.at_ 0 (N.take (k + 1)) = lA ++ limF bigN Rn.at_ 0 (N.take k) ++ [Y.at_]) := by
        have hb := HBIG.out
        unfold Hid; rw [HST0.out, hb]; simp
       obtain ⟨aa, rfl, ra0⟩ := HX5.out.nat hlt
       have hba := HX5.out.na.bound
       have t2 := HX5.out.tr.cell 3
       rw [HY.out] at ra0
       go_upto_region 13 with (fail)
       go_wp2_with (at_builtin; refine app_int1 rfl (.tmp 65) (.tmp 71) rfl _ _ rfl HO5.out Y.at_ rfl HLL.out ?_; intro v' w8 hO8; have HO8 := Lib.hid hO8; clear hO8)
       rw [← HST.out] at HO8
       go_roundw
       case rel => exact ⟨k + 1, _, hlt, by go_num, rfl, HO8.out⟩
       case measure => first | (simp [intOf]; done) | (simp [intOf]; omega)
      | false =>
       have HST : Hid (lA ++ limF bigN Rn.at_ 0 (N.take (k + 1)) = lA ++ limF bigN Rn.at_ 0 (N.take k)) := by
        have hb := HBIG.out
        unfold Hid; rw [HST0.out, hb]; simp [HQ1.out]
       go_wp2_with fail
       rw [← HST.out] at HO5
       go_roundw
       case rel => exact ⟨k + 1, _, hlt, by go_num, rfl, HO5.out⟩
       case measure => first | (simp [intOf]; done) | (simp [intOf]; omega)
    ·have hltI : ¬ (k : Int) < N.length := by omega
     obtain rfl : k = N.length := by omega
     have hO := HO.out
     rw [List.take_length] at hO
     obtain ⟨l, hl⟩ : ∃ l, lA ++ limF bigN Rn.at_ 0 N = l := ⟨_, rfl⟩
     rw [hl] at hO
     have HLM : Hid (limA R N = l) := by unfold Hid limA; rw [HLA.out, hl]
     obtain ⟨ao3, cap3, rfl, hsv⟩ := hO.sv
     have hbl3 := hsv.bound
     have HSV := Lib.hid hsv
     have HBF := Lib.hid (HB2.out.trans (hO.2.mono HB2.out.size))
     have HD3 := Lib.hid (HD2.out.below hO.2)
     have HGE : Hid (w.heap.size ≤ g + 1) := by have := HG0.out; unfold Hid; omega
     obtain ⟨n, hn⟩ : ∃ n, l.length = n := ⟨_, rfl⟩
     rw [hn] at HSV hbl3 ⊢
     have HNL := Lib.hid hn
     clear hl hO hsv HO hk hlt hn
     by_cases hn0 : n = 0
     ·subst hn0
      have HL0 : Hid (l = []) := List.eq_nil_of_length_eq_zero HNL.out
      go_wp2_with (refine store_diag rfl (.tmp 2) (.tmp 77) rfl (g + 1) 0 0 0 0 rfl rfl HD3.out ?_)
      refine bodyPost_ret (results_diag rfl _ _ (g + 1) _ _ _ _ rfl HD3.out) rfl ?_
      exact ⟨by rw [HLM.out, HL0.out]; rfl, below_setRow HBF.out HGE.out _⟩
     ·have hnB : ((n : Int) == 0) = false := by simp; omega
      have HLne : Hid (l ≠ []) := by intro e; have := HNL.out; rw [e] at this; exact hn0 (by simpa using this.symm)
      have HMn := Lib.hid (min_any wr ao3 n cap3 (l.map fun (k : Nat) => (k : Int)) HSV.out (by have := HLne.out; simpa using this))
      clear hn0
      go_wp2_with fail
      refine HMn.out.mono ?_
      rintro e w5 ⟨rfl, hb⟩
      have HD5 := Lib.hid (HD3.out.below hb); have HBG := Lib.hid (HBF.out.trans (hb.mono HBF.out.size))
      clear hb HMn
      go_wp2_with (refine store_diag rfl (.tmp 2) (.tmp 80) rfl (g + 1) 3 (minF (l.map fun (k : Nat) => (k : Int))) 0 0 rfl rfl HD5.out ?_)
      refine bodyPost_ret (results_diag rfl _ _ (g + 1) _ _ _ _ rfl HD5.out) rfl ?_
      refine ⟨?_, below_setRow HBG.out HGE.out _⟩
      rw [HLM.out]
      have hne := HLne.out
      cases l with
      | nil => exact absurd rfl hne
      | cons x l => rfl
end Go.Proofs.YthfefbmkgebmkaaGreatDoor
