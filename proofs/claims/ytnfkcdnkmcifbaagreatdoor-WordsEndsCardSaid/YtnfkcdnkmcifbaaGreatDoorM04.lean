/- Walks and plain laws: E3 Es Ed Ee Ef Eg Eh Ei. -/
import Derived.Test.YtnfkcdnkmcifbaaGreatDoorM02
import Derived.Test.YtnfkcdnkmcifbaaGreatDoorM03
import Derived.Maps.Own
import Derived.BigQuiet
import Derived.Laws.IdiomRangeMap
import Derived.Maps.RangeRun
import Derived.Lib.ConvBytes
import Derived.Lib.AtoiErrMem
import Derived.Shelf.Strings.SlTrimAscii
namespace Go.Proofs.YtnfkcdnkmcifbaaGreatDoor
open Go.RowKit Go.ChangeMaps
set_option maxRecDepth 100000
set_option maxHeartbeats 2000000

theorem setBlock_new (w : World) (o o' : Obj) : setBlock (w.alloc o) w.heap.size o' = w.alloc o' := by
 unfold setBlock
 show ({ w with heap := (w.heap.push o).setIfInBounds w.heap.size o' } : World) = { w with heap := w.heap.push o' }
 congr 1
 apply Array.ext
 ·simp
 ·intro i h1 h2
  rw [Array.getElem_setIfInBounds (by simpa using h1)]
  by_cases h : w.heap.size = i
  ·subst h; simp
  ·rw [if_neg h, Array.getElem_push, Array.getElem_push]
   have : i < w.heap.size := by simp at h2; omega
   rw [dif_pos this, dif_pos this]

/-- The letters, as the map has them. -/
def shE : Array MapEntry := #[⟨.int .u8 10, .int .u8 110, 0⟩, ⟨.int .u8 13, .int .u8 114, 1⟩, ⟨.int .u8 9, .int .u8 116, 2⟩]
theorem byte_und : Tryz.prog.underlying 5 = some (.int .u8) := by kernel_rfl
theorem short_und : Tryz.prog.underlying 121 = some (.map 5 5) := by kernel_rfl
theorem mapUp (w : World) (es : Array MapEntry) (clock : Nat) (n : Int) (v : Value) (h1 : ∀ x ∈ es.toList, ∃ a, x.key = .int .u8 a) (h2 : ∀ x ∈ es.toList, x.key ≠ .int .u8 n) :
  (Instr.mapUpdate 121 (.map (some w.heap.size)) (.int .u8 n) v).run Tryz.prog (w.alloc (.map es clock)) = .ok () (w.alloc (.map (es.push ⟨.int .u8 n, v, clock⟩) (clock + 1))) := by
 rw [run_map_new (keyInt byte_und) short_und (heap_alloc_new _ _) h1 ⟨n, rfl⟩ h2, setBlock_new]
theorem short_any (w : World) : Calls Tryz.prog 73 #[] w fun e w' => e = .returned (.map (some w.heap.size)) ∧ w' = w.alloc (.map shE 3) := by
 have hmm := @run_makeMap Tryz.prog
 have hmu := mapUp
 go_enter Tryz.func73, Tryz.ntmps73
 go_wp2_with fail
 go_ret
 exact ⟨rfl, rfl⟩
end Go.Proofs.YtnfkcdnkmcifbaaGreatDoor
namespace Go.Proofs.YtnfkcdnkmcifbaaGreatDoor
open Go.RowKit
set_option maxRecDepth 100000
set_option maxHeartbeats 4000000

/-- What is read at a place of a text. -/
def rdA (p : Int) (l : List UInt8) (a : Int) : Option (UInt8 × Nat) := if 0 ≤ a ∧ a < l.length then rd p (l.drop a.toNat) else none
/-- .. as it is handed back. -/
def rdV (a : Int) : Option (UInt8 × Nat) → Value
 | some (b, n) => .tuple #[.int .u8 b.toNat, .int .i64 (a + n), .bool true]
 | none => .tuple #[.int .u8 0, .int .i64 0, .bool false]
theorem drop_at {s : ByteArray} {k : Nat} (hk : k < s.size) : s.data.toList.drop k = s[k] :: s.data.toList.drop (k + 1) := by
 rw [List.drop_eq_getElem_cons (by simpa using hk)]; rfl
theorem rdA_in {p : Int} {s : ByteArray} {k : Nat} (hk : k < s.size) : rdA p s.data.toList (k : Int) = rd p (s[k] :: s.data.toList.drop (k + 1)) := by
 unfold rdA
 have h2 : s.data.toList.length = s.size := by simp
 rw [if_pos ⟨by omega, by omega⟩, Int.toNat_natCast, drop_at hk]
theorem rdA_out {p : Int} {s : ByteArray} {a : Int} (h : a < 0 ∨ (s.size : Int) ≤ a) : rdA p s.data.toList a = none := by
 unfold rdA
 have h2 : s.data.toList.length = s.size := by simp
 rw [if_neg (by omega)]
theorem rdA_no {p : Int} (hp : isPl p = false) (l : List UInt8) (a : Int) : rdA p l a = none := by
 unfold rdA
 split
 ·unfold rd
  split
  ·rfl
  ·rw [hp]; rfl
 ·rfl
theorem rd_bare {p : Int} (hp : isPl p = true) {c : UInt8} (hs : spec p c = false) (t : List UInt8) : rd p (c :: t) = some (c, 1) := by unfold rd; simp [hp, hs]
theorem rd_spec {p : Int} (hp : isPl p = true) {c : UInt8} (hs : spec p c = true) (hc : c ≠ 92) (t : List UInt8) : rd p (c :: t) = none := by unfold rd; simp [hp, hs, hc]
theorem rd_back {p : Int} (hp : isPl p = true) (t : List UInt8) : rd p (92 :: t) = esc t := by
 have : spec p 92 = true := by unfold spec; simp
 unfold rd; simp [hp, this]
theorem hexv_lt {c x : UInt8} (h : hexv c = some x) : x < 16 := by
 have := u8_all (P := fun c => (hexv c).all (fun x => decide (x < 16)) = true) (by decide +kernel) c
 rw [h] at this; simpa using this
theorem hex_sum {x y : UInt8} (hx : x < 16) (hy : y < 16) : (16 * (x.toNat : Int) + y.toNat) = ((16 * x + y : UInt8).toNat : Int) := by
 have h1 := UInt8.lt_iff_toNat_lt.1 hx
 have h2 := UInt8.lt_iff_toNat_lt.1 hy
 simp [UInt8.toNat_add, UInt8.toNat_mul] at *
 omega
theorem belowN {B : Nat} {a w : World} (h : Below B a w) (n : Nat) : Below B a (w.drewN n) := ⟨h.os, h.tape, h.output, h.size, h.block⟩
theorem ba_len (s : ByteArray) : s.data.toList.length = s.size := by simp
theorem esc_x_short {l : List UInt8} (h : l.length ≤ 1) : esc (120 :: l) = none := by
 match l, h with
 | [], _ => rfl
 | [x], _ => rfl
theorem wrap8 (c : UInt8) : IntKind.u8.wrap (c.toNat : Int) = c.toNat := u8_all (P := fun c => IntKind.u8.wrap (c.toNat : Int) = c.toNat) (by decide +kernel) c
end Go.Proofs.YtnfkcdnkmcifbaaGreatDoor
namespace Go.Proofs.YtnfkcdnkmcifbaaGreatDoor
open Go.RowKit
set_option maxRecDepth 100000
set_option maxHeartbeats 4000000

theorem byte_no (s : ByteArray) (a f : Int) (w : World) (hs : s.size ≤ 1000000) (hf0 : 0 ≤ f) (hf : f ≤ 3) (h : a < 0 ∨ (s.size : Int) - f ≤ a) : Calls Tryz.prog 71 #[.agg #[.string s, .int .i64 a], .int .i64 f] w fun e w' => e = .returned (.tuple #[.int .u8 0, .bool false]) ∧ Below w.heap.size w w' := by
 by_cases ha : a < 0
 ·clear h
  go_enter Tryz.func71, Tryz.ntmps71
  go_wp2_with fail
  go_ret2
  exact ⟨rfl, (Below.refl _ _).alloc (Nat.le_refl _) _⟩
 ·have h2 : (s.size : Int) - f ≤ a := by omega
  clear h
  go_enter Tryz.func71, Tryz.ntmps71
  go_wp2_with fail
  go_ret2
  exact ⟨rfl, (Below.refl _ _).alloc (Nat.le_refl _) _⟩
theorem byte_yes' (s : ByteArray) (k f : Nat) (w : World) (hs : s.size ≤ 1000000) (hf : f ≤ 3) (hk : k + f < s.size) : Calls Tryz.prog 71 #[.agg #[.string s, .int .i64 k], .int .i64 f] w fun e w' => e = .returned (.tuple #[.int .u8 s[k + f].toNat, .bool true]) ∧ Below w.heap.size w w' := by
 have h1 : (k : Int) < (s.size : Int) - f := by omega
 have h0 : (0 : Int) ≤ k := by omega
 have h3 : (k : Int) + f < s.size := by omega
 go_enter Tryz.func71, Tryz.ntmps71
 go_wp2_with fail
 go_ret2
 exact ⟨rfl, (Below.refl _ _).alloc (Nat.le_refl _) _⟩
theorem byte_yes (s : ByteArray) (k f : Nat) (g : Int) (w : World) (hs : s.size ≤ 1000000) (hf : f ≤ 3) (hk : k + f < s.size) (hg : g = f) : Calls Tryz.prog 71 #[.agg #[.string s, .int .i64 k], .int .i64 g] w fun e w' => e = .returned (.tuple #[.int .u8 s[k + f].toNat, .bool true]) ∧ Below w.heap.size w w' := by
 subst hg; exact byte_yes' s k f w hs hf hk
end Go.Proofs.YtnfkcdnkmcifbaaGreatDoor
namespace Go.Proofs.YtnfkcdnkmcifbaaGreatDoor
open Go.RowKit
set_option maxRecDepth 100000
set_option maxHeartbeats 4000000

/-- What a reader tells: the byte and how long it is. -/
def rdT : Option (UInt8 × Nat) → Value
 | some (b, n) => .tuple #[.int .u8 b.toNat, .int .i64 n]
 | none => .tuple #[.int .u8 0, .int .i64 0]
def bareA (p : Int) (l : List UInt8) (a : Int) : Option (UInt8 × Nat) := if 0 ≤ a ∧ a < l.length then (match l.drop a.toNat with | c :: _ => if isPl p && !spec p c then some (c, 1) else none | [] => none) else none
theorem bareA_out {p : Int} {s : ByteArray} {a : Int} (h : a < 0 ∨ (s.size : Int) ≤ a) : bareA p s.data.toList a = none := by
 unfold bareA
 rw [if_neg (by rw [ba_len]; omega)]
theorem bareA_in {p : Int} {s : ByteArray} {k : Nat} (hk : k < s.size) : bareA p s.data.toList k = if isPl p && !spec p s[k] then some (s[k], 1) else none := by
 unfold bareA
 rw [if_pos ⟨by omega, by rw [ba_len]; omega⟩, Int.toNat_natCast, drop_at hk]
abbrev rdC (s : ByteArray) (a p : Int) : Array Value := #[.string s, .int .i64 a, .int .i64 p]
theorem rbare_any (s : ByteArray) (a p : Int) (w : World) (hs : s.size ≤ 1000000) : Calls Tryz.prog 59 #[.agg #[.string s, .int .i64 a, .int .i64 p]] w fun e w' => e = .returned (rdT (bareA p s.data.toList a)) ∧ Below w.heap.size w w' := by
 have HA := Lib.hid (show Below w.heap.size w (w.alloc (.cells #[.string s, .int .i64 a, .int .i64 p] 103)) from (Below.refl _ _).alloc (Nat.le_refl _) _)
 have HZ := Lib.hid (show w.heap.size ≤ (w.alloc (.cells #[.string s, .int .i64 a, .int .i64 p] 103)).heap.size by simp)
 have HR := Lib.hid (hrow.new w #[.string s, .int .i64 a, .int .i64 p] 103)
 by_cases h : a < 0 ∨ (s.size : Int) ≤ a
 ·rw [bareA_out h]
  have HB := Lib.hid (byte_no s a 0 (w.alloc (.cells #[.string s, .int .i64 a, .int .i64 p] 103)) hs (by omega) (by omega) (by omega))
  clear h
  go_enter Tryz.func59, Tryz.ntmps59
  go_wp2_with fail
  refine HB.out.mono ?_
  rintro e x ⟨rfl, hb⟩
  have H1 := Lib.hid (HA.out.trans (hb.mono HZ.out)); clear hb
  go_wp2_with fail
  go_ret2
  exact ⟨rfl, H1.out⟩
 ·obtain ⟨k, rfl⟩ : ∃ k : Nat, a = k := ⟨a.toNat, by omega⟩
  have hk : k < s.size := by omega
  rw [bareA_in hk]
  have HB := Lib.hid (byte_yes s k 0 0 (w.alloc (.cells #[.string s, .int .i64 k, .int .i64 p] 103)) hs (by omega) hk rfl)
  have e0 : s[k + 0]'hk = s[k]'hk := rfl
  rw [e0] at HB
  generalize s[k]'hk = c at HB ⊢
  clear h e0 hk
  have HC := Lib.hid (fun x => bare_any p c x)
  generalize (isPl p && !spec p c) = q at HC ⊢
  go_enter Tryz.func59, Tryz.ntmps59
  go_wp2_with fail
  refine HB.out.mono ?_
  rintro e x ⟨rfl, hb⟩
  have H1 := Lib.hid (HA.out.trans (hb.mono HZ.out))
  have c1 := (HR.out.below hb).c3
  clear hb
  go_wp2_with fail
  refine (HC.out _).mono ?_
  rintro e x2 ⟨rfl, rfl⟩
  cases q with
  | true =>
   go_wp2_with fail
   go_ret2
   exact ⟨rfl, H1.out⟩
  | false =>
   go_wp2_with fail
   go_ret2
   exact ⟨rfl, H1.out⟩
end Go.Proofs.YtnfkcdnkmcifbaaGreatDoor
namespace Go.Proofs.YtnfkcdnkmcifbaaGreatDoor
open Go.RowKit Go.ChangeMaps
set_option maxRecDepth 100000
set_option maxHeartbeats 4000000

def lett (d : UInt8) : Option (UInt8 × Nat) := if d == 110 then some (10, 2) else if d == 114 then some (13, 2) else if d == 116 then some (9, 2) else if d == 92 || d == 34 || d == 93 || d == 45 then some (d, 2) else none
def lettA (l : List UInt8) (a : Int) : Option (UInt8 × Nat) := if 0 ≤ a ∧ a < l.length then (match l.drop a.toNat with | c :: d :: _ => if c == 92 then lett d else none | _ => none) else none
theorem lettA_out {s : ByteArray} {a : Int} (h : a < 0 ∨ (s.size : Int) ≤ a) : lettA s.data.toList a = none := by
 unfold lettA
 rw [if_neg (by rw [ba_len]; omega)]
theorem lettA_last {s : ByteArray} {k : Nat} (hk : k + 1 = s.size) : lettA s.data.toList k = none := by
 unfold lettA
 rw [if_pos ⟨by omega, by rw [ba_len]; omega⟩, Int.toNat_natCast, drop_at (by omega), List.drop_eq_nil_of_le (by rw [ba_len]; omega)]
theorem lettA_in {s : ByteArray} {k : Nat} (hk : k + 1 < s.size) : lettA s.data.toList k = if s[k] == 92 then lett s[k + 1] else none := by
 unfold lettA
 rw [if_pos ⟨by omega, by rw [ba_len]; omega⟩, Int.toNat_natCast, drop_at (by omega), drop_at hk]
/-- A world that is another but for what was drawn. -/
def Sim (v w : World) : Prop := v.heap = w.heap ∧ v.os = w.os ∧ v.tape = w.tape ∧ v.output = w.output
theorem Sim.below {v w : World} (h : Sim v w) {B : Nat} {a : World} (hb : Below B a w) : Below B a v := ⟨h.2.1.trans hb.os, h.2.2.1.trans hb.tape, h.2.2.2.trans hb.output, by rw [h.1]; exact hb.size, fun k hk => by rw [h.1]; exact hb.block k hk⟩
/-- The next entry of a map that is gone through. -/
theorem next_it {P : Program} (v : World) (bm since : Nat) (seen : Array Nat) (es : Array MapEntry) (hb : v.heap[bm]? = some (.map es since)) (hold : ∀ x ∈ es.toList, x.born < since) :
  ((leftOf es seen).size = 0 ∧ ∀ ty, (Instr.next (.pointer (some ⟨v.heap.size, 0, none⟩)) false ty).run P (v.alloc (.mapIter (some bm) since seen since)) = .ok (.tuple #[.bool false]) (v.alloc (.mapIter (some bm) since seen since))) ∨
  ∃ e ∈ (leftOf es seen).toList, ∃ v' : World, Sim v' v ∧ (∀ ty, (Instr.next (.pointer (some ⟨v.heap.size, 0, none⟩)) false ty).run P (v.alloc (.mapIter (some bm) since seen since)) = .ok (.tuple #[.bool true, e.key, e.val]) (v'.alloc (.mapIter (some bm) since (seen.push e.born) since))) := by
 have hlt := lt_block hb
 have h1 : (v.alloc (.mapIter (some bm) since seen since)).heap[v.heap.size]? = some (.mapIter (some bm) since seen since) := heap_alloc_new _ _
 have h2 : (v.alloc (.mapIter (some bm) since seen since)).heap[bm]? = some (.map es since) := by rw [heap_alloc_old v _ hlt]; exact hb
 by_cases h0 : (leftOf es seen).size = 0
 ·refine .inl ⟨h0, fun ty => ?_⟩
  rcases run_next_at (P := P) (v.alloc (.mapIter (some bm) since seen since)) ty v.heap.size bm since since seen es since h1 h2 hold (Nat.le_refl _) with ⟨_, h⟩ | ⟨e, he, _⟩
  ·exact h
  ·have : (leftOf es seen).toList = [] := List.eq_nil_of_length_eq_zero (by simpa using h0)
   rw [this] at he; cases he
 ·have hty : ∀ ty ty', (Instr.next (.pointer (some ⟨v.heap.size, 0, none⟩)) false ty).run P (v.alloc (.mapIter (some bm) since seen since)) = (Instr.next (.pointer (some ⟨v.heap.size, 0, none⟩)) false ty').run P (v.alloc (.mapIter (some bm) since seen since)) := by
   intro ty ty'
   simp only [Instr.next, getObj, Sem.run_bind, Sem.run, h1, h2, Result.andThen]
  rcases run_next_at (P := P) (v.alloc (.mapIter (some bm) since seen since)) 0 v.heap.size bm since since seen es since h1 h2 hold (Nat.le_refl _) with ⟨h, _⟩ | ⟨e, he, w1, hw, hrun⟩
  ·exact absurd h h0
  ·rcases hw with rfl | rfl
   ·exact .inr ⟨e, he, v, ⟨rfl, rfl, rfl, rfl⟩, fun ty => by rw [hty ty 0, hrun, setBlock_new]⟩
   ·refine .inr ⟨e, he, v.drew, ⟨rfl, rfl, rfl, rfl⟩, fun ty => ?_⟩
    rw [hty ty 0, hrun]
    exact congrArg _ (setBlock_new v.drew _ _)
end Go.Proofs.YtnfkcdnkmcifbaaGreatDoor
namespace Go.Proofs.YtnfkcdnkmcifbaaGreatDoor
open Go.RowKit Go.ChangeMaps
set_option maxRecDepth 100000
set_option maxHeartbeats 4000000

def valI : Value → Int | .int _ n => n | _ => 0
theorem shE_st : (∀ x ∈ shE.toList, x.born < 3) ∧ (shE.toList.map (·.born)).Nodup := by
 constructor
 ·intro x hx
  simp only [shE, List.mem_cons, List.not_mem_nil, or_false] at hx
  rcases hx with rfl | rfl | rfl <;> simp
 ·decide
/-- A letter that is found. -/
theorem shE_hit {e : MapEntry} (he : e ∈ shE.toList) (d : UInt8) : ∃ b v : UInt8, e.key = .int .u8 b.toNat ∧ e.val = .int .u8 v.toNat ∧ (v = d → lett d = some (b, 2)) := by
 simp only [shE, List.mem_cons, List.not_mem_nil, or_false] at he
 rcases he with rfl | rfl | rfl
 ·exact ⟨10, 110, rfl, rfl, fun h => by subst h; rfl⟩
 ·exact ⟨13, 114, rfl, rfl, fun h => by subst h; rfl⟩
 ·exact ⟨9, 116, rfl, rfl, fun h => by subst h; rfl⟩
theorem shE_miss {d : UInt8} (h : ∀ x ∈ shE.toList, ¬ valI x.val = (d.toNat : Int)) : lett d = if d == 92 || d == 34 || d == 93 || d == 45 then some (d, 2) else none := by
 have h1 := h ⟨.int .u8 10, .int .u8 110, 0⟩ (by simp [shE])
 have h2 := h ⟨.int .u8 13, .int .u8 114, 1⟩ (by simp [shE])
 have h3 := h ⟨.int .u8 9, .int .u8 116, 2⟩ (by simp [shE])
 simp only [valI] at h1 h2 h3
 unfold lett
 rw [if_neg (by intro e; rw [beq_iff_eq] at e; subst e; exact h1 rfl), if_neg (by intro e; rw [beq_iff_eq] at e; subst e; exact h2 rfl), if_neg (by intro e; rw [beq_iff_eq] at e; subst e; exact h3 rfl)]
theorem ix_four (d : UInt8) : decide (Lib.indexByte (ByteArray.mk #[92, 34, 93, 45]).data.toList d < 0) = !(d == 92 || d == 34 || d == 93 || d == 45) :=
 u8_all (P := fun d => decide (Lib.indexByte [92, 34, 93, 45] d < 0) = !(d == 92 || d == 34 || d == 93 || d == 45)) (by decide +kernel) d
theorem letter_any (s : ByteArray) (a p : Int) (w : World) (hs : s.size ≤ 1000000) : Calls Tryz.prog 60 #[.agg #[.string s, .int .i64 a, .int .i64 p]] w fun e w' => e = .returned (rdT (lettA s.data.toList a)) ∧ Below w.heap.size w w' := by
 have HA := Lib.hid (show Below w.heap.size w (w.alloc (.cells #[.string s, .int .i64 a, .int .i64 p] 103)) from (Below.refl _ _).alloc (Nat.le_refl _) _)
 have HZ := Lib.hid (show w.heap.size ≤ (w.alloc (.cells #[.string s, .int .i64 a, .int .i64 p] 103)).heap.size by simp)
 have HR := Lib.hid (hrow.new w #[.string s, .int .i64 a, .int .i64 p] 103)
 by_cases h : a < 0 ∨ (s.size : Int) ≤ a
 ·rw [lettA_out h]
  have HB := Lib.hid (byte_no s a 0 (w.alloc (.cells #[.string s, .int .i64 a, .int .i64 p] 103)) hs (by omega) (by omega) (by omega))
  have HB2 := Lib.hid (fun x => byte_no s a 1 x hs (by omega) (by omega) (by omega))
  clear h
  go_enter Tryz.func60, Tryz.ntmps60
  go_wp2_with fail
  refine HB.out.mono ?_
  rintro e x ⟨rfl, hb⟩
  have H1 := Lib.hid (HA.out.trans (hb.mono HZ.out))
  have c1 := (HR.out.below hb).c3
  clear hb
  go_wp2_with fail
  refine (HB2.out _).mono ?_
  rintro e x2 ⟨rfl, hb⟩
  have H2 := Lib.hid (H1.out.trans (hb.mono H1.out.size))
  clear hb c1
  go_wp2_with fail
  go_ret2
  exact ⟨rfl, H2.out⟩
 ·obtain ⟨k, rfl⟩ : ∃ k : Nat, a = k := ⟨a.toNat, by omega⟩
  have hk : k < s.size := by omega
  have HB := Lib.hid (byte_yes s k 0 0 (w.alloc (.cells #[.string s, .int .i64 k, .int .i64 p] 103)) hs (by omega) hk rfl)
  have e0 : s[k + 0]'hk = s[k]'hk := rfl
  rw [e0] at HB
  by_cases hk2 : k + 1 < s.size
  ·rw [lettA_in hk2]
   have HB2 := Lib.hid (fun x => byte_yes s k 1 1 x hs (by omega) hk2 rfl)
   generalize s[k]'hk = c at HB ⊢
   generalize s[k + 1]'hk2 = d at HB2 ⊢
   clear h e0 hk hk2
   by_cases hc : c = 92
   ·subst hc
    rw [if_pos (show ((92 : UInt8) == 92) = true from rfl)]
    go_enter Tryz.func60, Tryz.ntmps60
    go_wp2_with fail
    refine HB.out.mono ?_
    rintro e x ⟨rfl, hb⟩
    have H1 := Lib.hid (HA.out.trans (hb.mono HZ.out))
    have c1 := (HR.out.below hb).c3
    clear hb
    go_wp2_with fail
    refine (HB2.out _).mono ?_
    rintro e x2 ⟨rfl, hb⟩
    have H2 := Lib.hid (H1.out.trans (hb.mono H1.out.size))
    clear hb c1 H1 HB HB2 HA HZ HR
    go_wp2_with fail
    have hsh := short_any x2
    have hb1 : (x2.alloc (.map shE 3)).heap[x2.heap.size]? = some (.map shE 3) := heap_alloc_new _ _
    have H3 := Lib.hid (H2.out.alloc H2.out.size (.map shE 3)); clear H2
    have hrg := run_range_map (P := Tryz.prog) (x2.alloc (.map shE 3)) 121 5 5 x2.heap.size shE 3 short_und hb1
    have HM := Lib.hid hb1; clear hb1
    generalize x2.alloc (.map shE 3) = y0 at *
    generalize x2.heap.size = g at *
    refine hsh.mono ?_
    rintro e y ⟨rfl, rfl⟩
    clear hsh
    go_wp2_with fail
    go_loopw [] (fun wr => ∃ (v : World) (seen : Array Nat), Sim v y ∧ wr = v.alloc (.mapIter (some g) 3 seen 3) ∧ Hid (∀ x ∈ shE.toList, seen.contains x.born = true → ¬ valI x.val = (d.toNat : Int))) (fun wr => (leftOf shE (wr.iterSeen y.heap.size)).size)
    case atStart => exact ⟨y, #[], ⟨rfl, rfl, rfl, rfl⟩, rfl, fun x _ h => by simp at h⟩
    case round =>
     obtain ⟨v, seen, hsim, rfl, hno⟩ := hrel
     have hsz : v.heap.size = y.heap.size := by rw [hsim.1]
     have hbv : v.heap[g]? = some (.map shE 3) := by rw [hsim.1]; exact HM.out
     have law := next_it (P := Tryz.prog) v g 3 seen shE hbv shE_st.1
     rw [hsz] at law
     rcases law with ⟨h0, hnx⟩ | ⟨e, he, v2, hs2, hnx⟩
     ·have HM2 := Lib.hid (shE_miss (d := d) (fun x hx => hno.out x hx (all_seen shE seen h0 x hx)))
      have H4 := Lib.hid (hsim.below H3.out)
      have HX := Lib.hid (ix_four d)
      have hix : d.toNat.toUInt8 = d := by simp
      have HIX := Lib.hid hix
      clear hno hsim hbv h0 HM H3 hix
      generalize hq : (d == 92 || d == 34 || d == 93 || d == 45) = q at HM2 HX
      clear hq
      generalize y.heap.size = n at *
      have H5 := Lib.hid (H4.out.alloc H4.out.size (.mapIter (some g) 3 seen 3))
      generalize v.alloc (.mapIter (some g) 3 seen 3) = z at *
      clear H4 hsz
      go_wp2_with fail
      refine (Tryz.strings_IndexByte _ d.toNat z).mono ?_
      rintro e x4 ⟨rfl, rfl⟩
      rw [Int.toNat_natCast, HIX.out]
      generalize Lib.indexByte _ d = r at HX ⊢
      cases q with
      | true =>
       have hr : ¬ r < 0 := by simpa using HX.out
       go_wp2_with fail
       go_ret2
       exact ⟨by rw [HM2.out]; rfl, H5.out⟩
      | false =>
       have hr : r < 0 := by simpa using HX.out
       go_wp2_with fail
       go_ret2
       exact ⟨by rw [HM2.out]; rfl, H5.out⟩
     ·obtain ⟨b, l, hkey, hval, hhit⟩ := shE_hit (mem_left he).1 d
      rw [hkey, hval] at hnx
      have hsz2 : v2.heap.size = y.heap.size := by rw [hs2.1, hsim.1]
      have hb2 : v2.heap[g]? = some (.map shE 3) := by rw [hs2.1]; exact hbv
      have hs3 : Sim v2 y := ⟨hs2.1.trans hsim.1, hs2.2.1.trans hsim.2.1, hs2.2.2.1.trans hsim.2.2.1, hs2.2.2.2.trans hsim.2.2.2⟩
      have hr1 : (v2.alloc (.mapIter (some g) 3 (seen.push e.born) 3)).heap[y.heap.size]? = some (.mapIter (some g) 3 (seen.push e.born) 3) := by rw [← hsz2]; exact heap_alloc_new _ _
      have hr2 : (v2.alloc (.mapIter (some g) 3 (seen.push e.born) 3)).heap[g]? = some (.map shE 3) := by rw [heap_alloc_old _ _ (lt_block hb2)]; exact hb2
      have hen := run_entry_at (P := Tryz.prog) (v2.alloc (.mapIter (some g) 3 (seen.push e.born) 3)) y.heap.size g 3 seen shE 3 e hr1 hr2 (mem_left he).1 shE_st.2
      rw [hkey, hval] at hen
      have HHit := Lib.hid hhit; have HS3 := Lib.hid hs3; have HE := Lib.hid he; have HSZ := Lib.hid hsz; have HSZ2 := Lib.hid hsz2
      have HV := Lib.hid hval
      have H5 := Lib.hid ((hs3.below H3.out).alloc (by rw [hsz2]; exact H3.out.size) (.mapIter (some g) 3 (seen.push e.born) 3))
      clear hhit hs3 he hsz hsz2 hr1 hr2 hb2 hs2 hsim hbv hkey hval hrg
      by_cases hld : l = d
      ·subst hld
       go_wp2_with fail
       go_ret2
       exact ⟨by rw [HHit.out trivial]; rfl, H5.out⟩
      ·have hne : ((l.toNat : Int) == (d.toNat : Int)) = false := by
        have := mt UInt8.toNat_inj.1 hld
        simp; omega
       have HN := Lib.hid hld
       clear hld
       go_wp2_with fail
       go_roundw
       case rel =>
        refine ⟨v2, seen.push e.born, HS3.out, rfl, fun x hx hc => ?_⟩
        rw [contains_push] at hc
        rcases Bool.or_eq_true _ _ ▸ hc with h1 | h1
        ·exact hno.out x hx h1
        ·have : x = e := born_inj shE_st.2 hx (mem_left HE.out).1 (beq_iff_eq.1 h1)
         subst this
         rw [HV.out]
         intro h
         exact HN.out (UInt8.toNat_inj.1 (by simp only [valI] at h; omega))
       case measure =>
        have e1 := HSZ.out; have e2 := HSZ2.out
        rw [← e2, World.iterSeen_alloc, e2, ← e1, World.iterSeen_alloc]
        exact left_shrinks shE seen e HE.out
   ·have hne : ((c.toNat : Int) == 92) = false := by have := mt UInt8.toNat_inj.1 hc; simp at this ⊢; omega
    have hne2 : ((c.toNat : Int) != 92) = true := by rw [bne, hne]; rfl
    rw [if_neg (by simpa using hc)]
    clear hc
    go_enter Tryz.func60, Tryz.ntmps60
    go_wp2_with fail
    refine HB.out.mono ?_
    rintro e x ⟨rfl, hb⟩
    have H1 := Lib.hid (HA.out.trans (hb.mono HZ.out))
    have c1 := (HR.out.below hb).c3
    clear hb
    go_wp2_with fail
    refine (HB2.out _).mono ?_
    rintro e x2 ⟨rfl, hb⟩
    have H2 := Lib.hid (H1.out.trans (hb.mono H1.out.size))
    clear hb c1
    go_wp2_with fail
    go_ret2
    exact ⟨rfl, H2.out⟩
  ·rw [lettA_last (by omega)]
   have HB2 := Lib.hid (fun x => byte_no s k 1 x hs (by omega) (by omega) (by omega))
   generalize s[k]'hk = c at HB
   clear h e0 hk hk2
   go_enter Tryz.func60, Tryz.ntmps60
   go_wp2_with fail
   refine HB.out.mono ?_
   rintro e x ⟨rfl, hb⟩
   have H1 := Lib.hid (HA.out.trans (hb.mono HZ.out))
   have c1 := (HR.out.below hb).c3
   clear hb
   go_wp2_with fail
   refine (HB2.out _).mono ?_
   rintro e x2 ⟨rfl, hb⟩
   have H2 := Lib.hid (H1.out.trans (hb.mono H1.out.size))
   clear hb c1
   go_wp2_with fail
   go_ret2
   exact ⟨rfl, H2.out⟩
end Go.Proofs.YtnfkcdnkmcifbaaGreatDoor
namespace Go.Proofs.YtnfkcdnkmcifbaaGreatDoor
open Go.RowKit
set_option maxRecDepth 100000
set_option maxHeartbeats 4000000

theorem lower_any (c : UInt8) (w : World) : Calls Tryz.prog 87 #[.int .u8 c.toNat] w fun e w' => e = .returned (.int .u8 (c ||| 32).toNat) ∧ w' = w := by
 have h : bits BinOp.or IntKind.u8 (c.toNat : Int) 32 = ((c ||| 32).toNat : Int) := u8_all (P := fun c => bits BinOp.or IntKind.u8 (c.toNat : Int) 32 = ((c ||| 32).toNat : Int)) (by decide +kernel) c
 go_enter Tryz.func87, Tryz.ntmps87
 go_wp2_with fail
 go_ret
 exact ⟨rfl, rfl⟩
/-- The number of a digit, as ParseUint reckons it. -/
theorem hex_low {c x : UInt8} (h : hexv c = some x) : (48 ≤ (c.toNat : Int) ∧ (c.toNat : Int) ≤ 57 ∧ (c.toNat : Int) - 48 = x.toNat) ∨ (57 < (c.toNat : Int) ∧ 97 ≤ ((c ||| 32).toNat : Int) ∧ ((c ||| 32).toNat : Int) ≤ 102 ∧ ((c ||| 32).toNat : Int) - 97 + 10 = x.toNat) := by
 have := u8_all (P := fun c => (hexv c).all (fun x => decide ((48 ≤ (c.toNat : Int) ∧ (c.toNat : Int) ≤ 57 ∧ (c.toNat : Int) - 48 = x.toNat) ∨ (57 < (c.toNat : Int) ∧ 97 ≤ ((c ||| 32).toNat : Int) ∧ ((c ||| 32).toNat : Int) ≤ 102 ∧ ((c ||| 32).toNat : Int) - 97 + 10 = x.toNat))) = true) (by decide +kernel) c
 rw [h] at this; simpa using this
theorem hex_95 {c x : UInt8} (h : hexv c = some x) : ((c.toNat : Int) == 95) = false := by
 have := u8_all (P := fun c => (hexv c).isSome = true → ((c.toNat : Int) == 95) = false) (by decide +kernel) c
 exact this (by rw [h]; rfl)
/-- A number past which a digit more is too much. -/
def cut16 : Int := 1152921504606846976
theorem cut16_lt (a : UInt8) : (a.toNat : Int) < cut16 ∧ 0 < cut16 := by have := a.toNat_lt; unfold cut16; omega
theorem ipu_any (u v a b : UInt8) (hu : hexv u = some a) (hv : hexv v = some b) (w : World) : Calls Tryz.prog 81 #[.string ⟨#[u, v]⟩, .int .i64 16, .int .i64 8] w fun e w' => e = .returned (.tuple #[.int .u64 (16 * (a.toNat : Int) + b.toNat), .nilIface]) ∧ Below w.heap.size w w' := by
 have hcv : (convert 9 25 (.string ⟨#[u, v]⟩)).run Tryz.prog w = .ok (.slice (some ⟨w.heap.size, 0, none⟩) 2 (grownCap w 2 0 5)) (Lib.bytesWorld w 5 ⟨#[u, v]⟩) := Lib.run_convert_string_bytes (P := Tryz.prog) w 9 25 5 ⟨#[u, v]⟩ Tryz.underlying9 Tryz.underlying25 Tryz.underlying5
 have c0 : (Lib.bytesWorld w 5 ⟨#[u, v]⟩).cell? ⟨w.heap.size, 0, none⟩ = some (.int .u8 u.toNat) := Lib.bytesWorld_cell w 5 ⟨#[u, v]⟩ 0 (by show 0 < 2; omega)
 have c1 : (Lib.bytesWorld w 5 ⟨#[u, v]⟩).cell? ⟨w.heap.size, 1, none⟩ = some (.int .u8 v.toNat) := Lib.bytesWorld_cell w 5 ⟨#[u, v]⟩ 1 (by show 1 < 2; omega)
 have HB := Lib.hid (Lib.bytesWorld_below w 5 ⟨#[u, v]⟩)
 generalize Lib.bytesWorld w 5 ⟨#[u, v]⟩ = x at *
 generalize grownCap w 2 0 5 = cap at *
 have HU := Lib.hid (hex_low hu)
 have HV := Lib.hid (hex_low hv)
 have ha0 : (0 : Int) ≤ a.toNat := by omega
 have hb0 : (0 : Int) ≤ b.toNat := by omega
 have ha1 : (a.toNat : Int) < 16 := by have := UInt8.lt_iff_toNat_lt.1 (hexv_lt hu); simp at this ⊢; omega
 have hb1 : (b.toNat : Int) < 16 := by have := UInt8.lt_iff_toNat_lt.1 (hexv_lt hv); simp at this ⊢; omega
 have hu0 : (0 : Int) ≤ u.toNat := by omega
 have hv0 : (0 : Int) ≤ v.toNat := by omega
 have hu1 : (u.toNat : Int) ≤ 255 := by have := u.toNat_lt; omega
 have hv1 : (v.toNat : Int) ≤ 255 := by have := v.toNat_lt; omega
 have hu9 := hex_95 hu
 have hv9 := hex_95 hv
 clear hu hv
 go_enter Tryz.func81, Tryz.ntmps81
 go_wp2_with fail
 generalize hC : (1152921504606846976 : Int) = C
 obtain ⟨hct, hct0⟩ : (a.toNat : Int) < C ∧ 0 < C := by rw [← hC]; exact cut16_lt a
 clear hC
 go_loop [12, 13, 101] (fun z n i => z = .bool false ∧ Hid ((i = .int .i64 0 ∧ n = .int .u64 0) ∨ (i = .int .i64 1 ∧ n = .int .u64 a.toNat) ∨ (i = .int .i64 2 ∧ n = .int .u64 (16 * (a.toNat : Int) + b.toNat)))) (fun _ _ i => 2 - (intOf i).toNat)
 case atStart => exact ⟨rfl, .inl ⟨rfl, rfl⟩⟩
 case round =>
  obtain ⟨rfl, hI⟩ := hrel
  rcases hI.out with ⟨rfl, rfl⟩ | ⟨rfl, rfl⟩ | ⟨rfl, rfl⟩
  ·clear hI
   rcases HU.out with ⟨g1, g2, g3⟩ | ⟨g1, g2, g3, g4⟩
   ·have G3 := Lib.hid g3; clear g3
    go_wp2_with fail
    go_round
    case rel => exact ⟨rfl, .inr (.inl ⟨rfl, by first | rw [G3.out] | rw [G4.out]⟩)⟩
    case measure => simp [intOf]
   ·have G4 := Lib.hid g4; clear g4
    have hl := Lib.hid (fun y => lower_any u y)
    generalize (u ||| 32).toNat = L at *
    go_wp2_with fail
    refine (hl.out _).mono ?_
    rintro e y ⟨rfl, rfl⟩
    go_wp2_with fail
    refine (hl.out _).mono ?_
    rintro e y2 ⟨rfl, rfl⟩
    go_wp2_with fail
    refine (hl.out _).mono ?_
    rintro e y3 ⟨rfl, rfl⟩
    go_wp2_with fail
    go_round
    case rel => exact ⟨rfl, .inr (.inl ⟨rfl, by first | rw [G3.out] | rw [G4.out]⟩)⟩
    case measure => simp [intOf]
  ·clear hI
   rcases HV.out with ⟨g1, g2, g3⟩ | ⟨g1, g2, g3, g4⟩
   ·have G3 := Lib.hid g3; clear g3
    go_wp2_with fail
    go_round
    case rel => exact ⟨rfl, .inr (.inr ⟨rfl, by first | rw [← G3.out, Int.mul_comm] | rw [← G4.out, Int.mul_comm]⟩)⟩
    case measure => simp [intOf]
   ·have G4 := Lib.hid g4; clear g4
    have hl := Lib.hid (fun y => lower_any v y)
    generalize (v ||| 32).toNat = L at *
    go_wp2_with fail
    refine (hl.out _).mono ?_
    rintro e y ⟨rfl, rfl⟩
    go_wp2_with fail
    refine (hl.out _).mono ?_
    rintro e y2 ⟨rfl, rfl⟩
    go_wp2_with fail
    refine (hl.out _).mono ?_
    rintro e y3 ⟨rfl, rfl⟩
    go_wp2_with fail
    go_round
    case rel => exact ⟨rfl, .inr (.inr ⟨rfl, by first | rw [← G3.out, Int.mul_comm] | rw [← G4.out, Int.mul_comm]⟩)⟩
    case measure => simp [intOf]
  ·clear hI
   go_wp2_with fail
   go_ret2
   exact ⟨rfl, HB.out⟩
theorem pu_any (u v a b : UInt8) (hu : hexv u = some a) (hv : hexv v = some b) (w : World) : Calls Tryz.prog 75 #[.string ⟨#[u, v]⟩, .int .i64 16, .int .i64 8] w fun e w' => e = .returned (.tuple #[.int .u64 (16 * (a.toNat : Int) + b.toNat), .nilIface]) ∧ Below w.heap.size w w' := by
 have H := Lib.hid (ipu_any u v a b hu hv w)
 clear hu hv
 generalize 16 * (a.toNat : Int) + b.toNat = n at *
 go_enter Tryz.func75, Tryz.ntmps75
 go_wp2_with fail
 refine H.out.mono ?_
 rintro e x ⟨rfl, hb⟩
 have HB := Lib.hid hb; clear hb
 go_wp2_with fail
 go_ret2
 exact ⟨rfl, HB.out⟩
end Go.Proofs.YtnfkcdnkmcifbaaGreatDoor
namespace Go.Proofs.YtnfkcdnkmcifbaaGreatDoor
open Go.RowKit
set_option maxRecDepth 100000
set_option maxHeartbeats 4000000

def digA (l : List UInt8) (a : Int) : Option (UInt8 × Nat) := if 0 ≤ a ∧ a < l.length then (match l.drop a.toNat with
 | c :: d :: u :: v :: _ => if c == 92 && d == 120 then (match hexv u, hexv v with | some x, some y => some (16 * x + y, 4) | _, _ => none) else none
 | _ => none) else none
theorem digA_out {s : ByteArray} {a : Int} (h : a < 0 ∨ (s.size : Int) - 3 ≤ a) : digA s.data.toList a = none := by
 unfold digA
 split
 ·rename_i h2
  rw [ba_len] at h2
  have hl : (s.data.toList.drop a.toNat).length ≤ 3 := by rw [List.length_drop, ba_len]; omega
  generalize s.data.toList.drop a.toNat = l at hl
  match l, hl with
  | [], _ => rfl
  | [_], _ => rfl
  | [_, _], _ => rfl
  | [_, _, _], _ => rfl
  | _ :: _ :: _ :: _ :: _, h => simp at h
 ·rfl
theorem digA_in {s : ByteArray} {k : Nat} (hk : k + 3 < s.size) : digA s.data.toList k = if s[k] == 92 && s[k + 1] == 120 then (match hexv s[k + 2], hexv s[k + 3] with | some x, some y => some (16 * x + y, 4) | _, _ => none) else none := by
 unfold digA
 rw [if_pos ⟨by omega, by rw [ba_len]; omega⟩, Int.toNat_natCast, drop_at (by omega), drop_at (show k + 1 < s.size by omega), drop_at (show k + 1 + 1 < s.size by omega), drop_at (show k + 1 + 1 + 1 < s.size by omega)]
/-- Two bytes of a text. -/
theorem sub2 (s : ByteArray) (k : Nat) (h : k + 1 < s.size) : s.extract k (k + 2) = ⟨#[s[k], s[k + 1]]⟩ := by
 apply ByteArray.ext
 rw [ByteArray.data_extract]
 apply Array.ext
 ·have : s.data.size = s.size := rfl
  simp; omega
 ·intro i h1 h2
  simp at h2
  obtain rfl | rfl : i = 0 ∨ i = 1 := by omega
  ·simp; rfl
  ·simp; rfl
theorem slice2 {P : Program} (t : TypeId) (ht : P.underlying t = some .string) (s : ByteArray) (k : Nat) (a b : Int) (ha : a = k) (hb : b = k + 2) (h : k + 1 < s.size) (wx : World) :
  (Instr.slice t (.string s) (some (.int .i64 a)) (some (.int .i64 b)) none).run P wx = .ok (.string ⟨#[s[k], s[k + 1]]⟩) wx := by
 subst ha hb
 rw [run_slice_string (P := P) wx t s .i64 .i64 k (k + 2) ht (by omega) (by omega) (by omega), ← sub2 s k h]
 rfl
def digR (c d u v : UInt8) : Option (UInt8 × Nat) := if c == 92 && d == 120 then (match hexv u, hexv v with | some x, some y => some (16 * x + y, 4) | _, _ => none) else none
def hexS : ByteArray := ⟨#[48, 49, 50, 51, 52, 53, 54, 55, 56, 57, 97, 98, 99, 100, 101, 102, 65, 66, 67, 68, 69, 70]⟩
theorem hexS_mem (c : UInt8) : hexS.data.toList.contains c = (hexv c).isSome := u8_all (P := fun c => hexS.data.toList.contains c = (hexv c).isSome) (by decide +kernel) c
theorem trim_hex (u v : UInt8) : (Lib.trimS [u, v] hexS.data.toList = [] ∧ (∃ a, hexv u = some a) ∧ ∃ b, hexv v = some b) ∨ ((∃ x t, Lib.trimS [u, v] hexS.data.toList = x :: t) ∧ ∀ c d, digR c d u v = none) := by
 unfold Lib.trimS Lib.trimRightS Lib.trimLeftS
 simp only [List.reverse_cons, List.reverse_nil, List.nil_append, List.singleton_append, List.dropWhile_cons, hexS_mem]
 have hno : (hexv u).isSome = false ∨ (hexv v).isSome = false → ∀ c d, digR c d u v = none := by
  intro h c d
  unfold digR
  split
  ·rcases h with h | h
   ·rw [Option.isSome_eq_false_iff, Option.isNone_iff_eq_none] at h; rw [h]
   ·rw [Option.isSome_eq_false_iff, Option.isNone_iff_eq_none] at h; rw [h]; cases hexv u <;> rfl
  ·rfl
 cases hv : (hexv v).isSome with
 | false => 
  refine .inr ⟨?_, hno (.inr hv)⟩
  cases hu : (hexv u).isSome with
  | false => exact ⟨u, [v], by simp [hu]⟩
  | true => exact ⟨v, [], by simp [hu, hv]⟩
 | true =>
  cases hu : (hexv u).isSome with
  | false => exact .inr ⟨⟨u, [], by simp [hu]⟩, hno (.inl hu)⟩
  | true => exact .inl ⟨by simp, Option.isSome_iff_exists.1 hu, Option.isSome_iff_exists.1 hv⟩
theorem trim_call (u v : UInt8) (w : World) : Calls Tryz.prog 74 #[.string ⟨#[u, v]⟩, .string hexS] w fun e w' => e = .returned (.string ⟨(Lib.trimS [u, v] hexS.data.toList).toArray⟩) ∧ Below w.heap.size w w' :=
 Any.strings_Trim_laid Tryz.lays160 (by kernel_rfl) ⟨#[u, v]⟩ hexS w (by show 2 ≤ 9223372036854775807; omega) (by decide) (ascii_of_all (by decide))
theorem digits_any (s : ByteArray) (a p : Int) (w : World) (hs : s.size ≤ 1000000) : Calls Tryz.prog 61 #[.agg #[.string s, .int .i64 a, .int .i64 p]] w fun e w' => e = .returned (rdT (digA s.data.toList a)) ∧ Below w.heap.size w w' := by
 have HA := Lib.hid (show Below w.heap.size w (w.alloc (.cells #[.string s, .int .i64 a, .int .i64 p] 103)) from (Below.refl _ _).alloc (Nat.le_refl _) _)
 have HZ := Lib.hid (show w.heap.size ≤ (w.alloc (.cells #[.string s, .int .i64 a, .int .i64 p] 103)).heap.size by simp)
 have HR := Lib.hid (hrow.new w #[.string s, .int .i64 a, .int .i64 p] 103)
 by_cases h : a < 0 ∨ (s.size : Int) - 3 ≤ a
 ·rw [digA_out h]
  have HB := Lib.hid (byte_no s a 3 (w.alloc (.cells #[.string s, .int .i64 a, .int .i64 p] 103)) hs (by omega) (by omega) (by omega))
  clear h
  go_enter Tryz.func61, Tryz.ntmps61
  go_wp2_with fail
  refine HB.out.mono ?_
  rintro e x ⟨rfl, hb⟩
  have H1 := Lib.hid (HA.out.trans (hb.mono HZ.out))
  have c1 := (HR.out.below hb).c3
  clear hb
  go_wp2_with fail
  go_ret2
  exact ⟨rfl, H1.out⟩
 ·obtain ⟨k, rfl⟩ : ∃ k : Nat, a = k := ⟨a.toNat, by omega⟩
  have hk : k + 3 < s.size := by omega
  have hk4 : (k : Int) + 4 ≤ s.size := by omega
  have hk0 : (0 : Int) ≤ k := by omega
  have hk2 : (k : Int) + 2 ≤ s.size := by omega
  have HB := Lib.hid (byte_yes s k 3 3 (w.alloc (.cells #[.string s, .int .i64 k, .int .i64 p] 103)) hs (by omega) hk rfl)
  clear h
  have hk8 : k + 1 < s.size := by clear hk4 hk0 hk2 HB; omega
  have hk9 : k + 2 < s.size := by clear hk4 hk0 hk2 HB; omega
  have hk7 : k < s.size := by clear hk4 hk0 hk2 HB; omega
  rw [digA_in hk]
  change Calls _ _ _ _ fun e w' => e = .returned (rdT (digR (s[k]'hk7) (s[k + 1]'hk8) (s[k + 2]'hk9) (s[k + 3]'hk))) ∧ Below w.heap.size w w'
  have hs1 := slice2 (P := Tryz.prog) 9 Tryz.underlying9 s k k (k + 2) rfl rfl hk8
  have hs2 := slice2 (P := Tryz.prog) 9 Tryz.underlying9 s (k + 2) (k + 2) (k + 4) (by clear hk4 hk0 hk2 hs1; omega) (by clear hk4 hk0 hk2 hs1; omega) hk
  have e3 : s[k + 2 + 1]'hk = s[k + 3]'hk := rfl
  rw [e3] at hs2
  clear e3
  generalize s[k] = c at *
  generalize s[k + 1] = d at *
  generalize s[k + 2] = u at *
  generalize s[k + 3] = v at *
  by_cases hc : c = 92
  ·subst hc
   by_cases hd : d = 120
   ·subst hd
    have HT := Lib.hid (fun x => trim_call u v x)
    have HX := trim_hex u v
    generalize Lib.trimS [u, v] hexS.data.toList = L at HT HX
    rcases HX with ⟨rfl, ⟨a, hu⟩, b, hv⟩ | ⟨⟨y, t, rfl⟩, hno⟩
    ·have HP := Lib.hid (fun x => pu_any u v a b hu hv x)
     have H3 : Hid (digR 92 120 u v = some (16 * a + b, 4)) := by unfold Hid digR; rw [hu, hv]; rfl
     have H4 := Lib.hid (hex_sum (hexv_lt hu) (hexv_lt hv))
     have hn0 : (0 : Int) ≤ 16 * (a.toNat : Int) + b.toNat := by omega
     have hn1 : 16 * (a.toNat : Int) + b.toNat ≤ 255 := by have h1 := UInt8.lt_iff_toNat_lt.1 (hexv_lt hu); have h2 := UInt8.lt_iff_toNat_lt.1 (hexv_lt hv); simp at h1 h2; omega
     clear hu hv
     generalize 16 * (a.toNat : Int) + b.toNat = n at HP H4 hn0 hn1
     go_enter Tryz.func61, Tryz.ntmps61
     go_wp2_with fail
     refine HB.out.mono ?_
     rintro e x ⟨rfl, hb⟩
     have H1 := Lib.hid (HA.out.trans (hb.mono HZ.out))
     have H7 := Lib.hid (HR.out.below hb)
     have c1 := H7.out.c3
     clear hb
     go_wp2_with fail
     refine (HT.out _).mono ?_
     rintro e x2 ⟨rfl, hb⟩
     have H2 := Lib.hid (H1.out.trans (hb.mono H1.out.size))
     have c2 := (H7.out.below hb).c3
     clear hb c1
     go_wp2_with fail
     refine (HP.out _).mono ?_
     rintro e x3 ⟨rfl, hb⟩
     have H5 := Lib.hid (H2.out.trans (hb.mono H2.out.size))
     clear hb c2
     go_wp2_with fail
     go_ret2
     exact ⟨by rw [H3.out, H4.out]; rfl, H5.out⟩
    ·have H3 := Lib.hid (hno 92 120)
     clear hno
     go_enter Tryz.func61, Tryz.ntmps61
     go_wp2_with fail
     refine HB.out.mono ?_
     rintro e x ⟨rfl, hb⟩
     have H1 := Lib.hid (HA.out.trans (hb.mono HZ.out))
     have H7 := Lib.hid (HR.out.below hb)
     have c1 := H7.out.c3
     clear hb
     go_wp2_with fail
     refine (HT.out _).mono ?_
     rintro e x2 ⟨rfl, hb⟩
     have H2 := Lib.hid (H1.out.trans (hb.mono H1.out.size))
     clear hb c1
     go_wp2_with fail
     go_ret2
     exact ⟨by rw [H3.out]; rfl, H2.out⟩
   ·have H3 : Hid (digR 92 d u v = none) := if_neg (by simpa using hd)
    go_enter Tryz.func61, Tryz.ntmps61
    go_wp2_with fail
    refine HB.out.mono ?_
    rintro e x ⟨rfl, hb⟩
    have H1 := Lib.hid (HA.out.trans (hb.mono HZ.out))
    have H7 := Lib.hid (HR.out.below hb)
    have c1 := H7.out.c3
    clear hb
    go_wp2_with fail
    go_ret2
    exact ⟨by rw [H3.out]; rfl, H1.out⟩
  ·have H3 : Hid (digR c d u v = none) := if_neg (by simp [hc])
   go_enter Tryz.func61, Tryz.ntmps61
   go_wp2_with fail
   refine HB.out.mono ?_
   rintro e x ⟨rfl, hb⟩
   have H1 := Lib.hid (HA.out.trans (hb.mono HZ.out))
   have H7 := Lib.hid (HR.out.below hb)
   have c1 := H7.out.c3
   clear hb
   go_wp2_with fail
   go_ret2
   exact ⟨by rw [H3.out]; rfl, H1.out⟩
end Go.Proofs.YtnfkcdnkmcifbaaGreatDoor
