/- Walks: words: a place, a reader. -/
import Derived.Test.YtnfkcdnkmcifbaaDoorV2
import Derived.Laws.Runes
import Derived.BigRegion
import Derived.RegionTactic
namespace Go.Proofs.YtnfkcdnkmcifbaaDoor
open Go.RowKit
set_option maxRecDepth 100000
set_option maxHeartbeats 4000000

/-- A reader of a text, at a place. -/
def Rdr (w : World) (g : Nat) (s : ByteArray) (k : Nat) : Prop := hrow w g #[.string s, .int .i64 k] 50
theorem Rdr.below {w w' : World} {g : Nat} {s : ByteArray} {k : Nat} (h : Rdr w g s k) (hb : Below w.heap.size w w') : Rdr w' g s k := hrow.below h hb
theorem left_any (s : ByteArray) (k g : Nat) (w : World) (hr : Rdr w g s k) (hk : k ≤ s.size) : Calls Tryd.prog 25 #[.pointer (some ⟨g, 0, none⟩)] w fun e w' => e = .returned (.string (tx (s.data.toList.drop k))) ∧ Below w.heap.size w w' := by
 have h1 : (k : Int) ≤ s.size := by omega
 have h0 : (0 : Int) ≤ k := by omega
 obtain ⟨c0, c1⟩ := hrow.c2 hr
 have hsl := from_run (P := Tryd.prog) 9 Tryd.underlying9 s k k rfl hk
 clear hr
 go_enter Tryd.func25, Tryd.ntmps25
 go_wp2_with fail
 go_quiet (fail)
 go_wp2_with fail
 go_ret
 exact ⟨rfl, belowN (Below.refl _ _) _⟩
theorem here_any (c : UInt8) (d : ByteArray) (hd : Utf8.encode c.toNat = d) (hd1 : d = ⟨#[c]⟩) (s : ByteArray) (k g : Nat) (w : World) (hr : Rdr w g s k) (hk : k ≤ s.size) :
  Calls Tryd.prog 28 #[.pointer (some ⟨g, 0, none⟩), .int .u8 c.toNat] w fun e w' => e = .returned (.bool ((s.data.toList.drop k).head? == some c)) ∧ Below w.heap.size w w' := by
 have HL := Lib.hid (left_any s k g w hr hk)
 have HP : Hid (Lib.hasPrefix (s.data.toList.drop k) d.data.toList = ((s.data.toList.drop k).head? == some c)) := by
  rw [hd1]
  cases s.data.toList.drop k with
  | nil => rfl
  | cons x u =>
   refine (pre1 c x u).trans ?_
   rw [Bool.eq_iff_iff]; simp only [beq_iff_eq, List.head?_cons, Option.some.injEq]; exact ⟨Eq.symm, Eq.symm⟩
 clear hr hd1
 generalize ((s.data.toList.drop k).head? == some c) = q at *
 go_enter Tryd.func28, Tryd.ntmps28
 go_wp2_with fail
 refine HL.out.mono ?_
 rintro e x ⟨rfl, hb⟩
 have HB := Lib.hid hb; clear hb
 go_wp2_with fail
 refine (Tryd.strings_HasPrefix _ _ x).mono ?_
 rintro e x2 ⟨rfl, rfl⟩
 rw [tx_list, HP.out]
 go_wp2_with fail
 go_ret
 exact ⟨rfl, HB.out⟩
theorem here_34 (s : ByteArray) (k g : Nat) (w : World) (hr : Rdr w g s k) (hk : k ≤ s.size) : Calls Tryd.prog 28 #[.pointer (some ⟨g, 0, none⟩), .int .u8 34] w fun e w' => e = .returned (.bool ((s.data.toList.drop k).head? == some 34)) ∧ Below w.heap.size w w' :=
 here_any 34 ⟨#[34]⟩ (by decide +kernel) rfl s k g w hr hk
theorem here_91 (s : ByteArray) (k g : Nat) (w : World) (hr : Rdr w g s k) (hk : k ≤ s.size) : Calls Tryd.prog 28 #[.pointer (some ⟨g, 0, none⟩), .int .u8 91] w fun e w' => e = .returned (.bool ((s.data.toList.drop k).head? == some 91)) ∧ Below w.heap.size w w' :=
 here_any 91 ⟨#[91]⟩ (by decide +kernel) rfl s k g w hr hk
/-- A reader's byte. -/
theorem rbyte_any (p : Int) (s : ByteArray) (k g : Nat) (a : Int) (w : World) (hr : Rdr w g s k) (hs : s.size ≤ 1000000) :
  Calls Tryd.prog 30 #[.pointer (some ⟨g, 0, none⟩), .int .i64 p, .int .i64 a] w fun e w' => e = .returned (rdV a (rdA p s.data.toList a)) ∧ Below w.heap.size w w' := by
 obtain ⟨c0, c1⟩ := hrow.c2 hr
 have HR := Lib.hid (read_any p s a w hs)
 clear hr
 generalize rdA p s.data.toList a = q at *
 go_enter Tryd.func30, Tryd.ntmps30
 go_wp2_with fail
 refine HR.out.mono ?_
 rintro e x ⟨rfl, hb⟩
 have HB := Lib.hid hb; clear hb
 cases q with
 | none =>
  unfold rdV
  go_wp2_with fail
  go_ret3
  exact ⟨rfl, HB.out⟩
 | some q =>
  obtain ⟨b, n⟩ := q
  unfold rdV
  go_wp2_with fail
  go_ret3
  exact ⟨rfl, HB.out⟩
/-- A word's cells. -/
def wdA (kind at_ nx : Int) (t : ByteArray) (lv c0 c1 c2 c3 : Int) : Array Value := #[.int .i64 kind, .int .i64 at_, .int .i64 nx, .string t, .int .i64 lv, .int .u64 c0, .int .u64 c1, .int .u64 c2, .int .u64 c3]
theorem word_any (kd a0 n0 lv c0 c1 c2 c3 n : Int) (t s : ByteArray) (k g : Nat) (w : World) (hr : Rdr w g s k) (hk : k ≤ 1000000) (hn0 : 0 ≤ n) (hn : n ≤ 1000000) :
  Calls Tryd.prog 24 #[.pointer (some ⟨g, 0, none⟩), .agg (wdA kd a0 n0 t lv c0 c1 c2 c3), .int .i64 n] w fun e w' => e = .returned (.tuple #[.agg (wdA kd k (k + n) t lv c0 c1 c2 c3), .bool true]) ∧ Below w.heap.size w w' := by
 obtain ⟨r0, r1⟩ := hrow.c2 hr
 have hlt := hrow.lt hr
 have hkI : (k : Int) ≤ 1000000 := by omega
 have hk0 : (0 : Int) ≤ k := by omega
 unfold wdA
 clear hr
 go_enter Tryd.func24, Tryd.ntmps24
 go_wp2_with fail
 go_region
 go_wp2_with fail
 exact bodyPost_ret (v := .tuple #[.agg #[.int .i64 kd, .int .i64 k, .int .i64 (k + n), .string t, .int .i64 lv, .int .u64 c0, .int .u64 c1, .int .u64 c2, .int .u64 c3], .bool true]) (by simp [results, Tryd.results24, go_sem]) rfl ⟨rfl, (((Below.refl _ _).alloc (Nat.le_refl _) _).alloc (by simp) _).drew⟩
end Go.Proofs.YtnfkcdnkmcifbaaDoor
