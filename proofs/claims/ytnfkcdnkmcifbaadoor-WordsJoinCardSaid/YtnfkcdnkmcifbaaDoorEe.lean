/- Walks: escape: a byte as it stands. -/
import Derived.Test.YtnfkcdnkmcifbaaDoorEd
namespace Go.Proofs.YtnfkcdnkmcifbaaDoor
open Go.RowKit
set_option maxRecDepth 100000
set_option maxHeartbeats 4000000

/-- What a reader tells: the byte and how long it is. -/
def rdT : Option (UInt8 × Nat) → Value
 | some (b, n) => .tuple #[.int .u8 b.toNat, .int .i64 n]
 | none => .tuple #[.int .u8 0, .int .i64 0]
def bareA (p : Int) (l : List UInt8) (a : Int) : Option (UInt8 × Nat) := if 0 ≤ a ∧ a < l.length then (match l.drop a.toNat with | c :: _ => if isPl p && !spec p c then some (c, 1) else none | [] => none) else none
theorem bareA_out {p : Int} {s : ByteArray} {a : Int} (h : a < 0 ∨ (s.size : Int) ≤ a) : bareA p s.data.toList a = none := by
 unfold bareA
 rw [if_neg (by rw [ba_len]; omega)]
theorem bareA_in {p : Int} {s : ByteArray} {k : Nat} (hk : k < s.size) : bareA p s.data.toList k = if isPl p && !spec p s[k] then some (s[k], 1) else none := by
 unfold bareA
 rw [if_pos ⟨by omega, by rw [ba_len]; omega⟩, Int.toNat_natCast, drop_at hk]
abbrev rdC (s : ByteArray) (a p : Int) : Array Value := #[.string s, .int .i64 a, .int .i64 p]
theorem rbare_any (s : ByteArray) (a p : Int) (w : World) (hs : s.size ≤ 1000000) : Calls Tryd.prog 49 #[.agg #[.string s, .int .i64 a, .int .i64 p]] w fun e w' => e = .returned (rdT (bareA p s.data.toList a)) ∧ Below w.heap.size w w' := by
 have HA := Lib.hid (show Below w.heap.size w (w.alloc (.cells #[.string s, .int .i64 a, .int .i64 p] 96)) from (Below.refl _ _).alloc (Nat.le_refl _) _)
 have HZ := Lib.hid (show w.heap.size ≤ (w.alloc (.cells #[.string s, .int .i64 a, .int .i64 p] 96)).heap.size by simp)
 have HR := Lib.hid (hrow.new w #[.string s, .int .i64 a, .int .i64 p] 96)
 by_cases h : a < 0 ∨ (s.size : Int) ≤ a
 ·rw [bareA_out h]
  have HB := Lib.hid (byte_no s a 0 (w.alloc (.cells #[.string s, .int .i64 a, .int .i64 p] 96)) hs (by omega) (by omega) (by omega))
  clear h
  go_enter Tryd.func49, Tryd.ntmps49
  go_wp2_with fail
  refine HB.out.mono ?_
  rintro e x ⟨rfl, hb⟩
  have H1 := Lib.hid (HA.out.trans (hb.mono HZ.out)); clear hb
  go_wp2_with fail
  go_ret2
  exact ⟨rfl, H1.out⟩
 ·obtain ⟨k, rfl⟩ : ∃ k : Nat, a = k := ⟨a.toNat, by omega⟩
  have hk : k < s.size := by omega
  rw [bareA_in hk]
  have HB := Lib.hid (byte_yes s k 0 0 (w.alloc (.cells #[.string s, .int .i64 k, .int .i64 p] 96)) hs (by omega) hk rfl)
  have e0 : s[k + 0]'hk = s[k]'hk := rfl
  rw [e0] at HB
  generalize s[k]'hk = c at HB ⊢
  clear h e0 hk
  have HC := Lib.hid (fun x => bare_any p c x)
  generalize (isPl p && !spec p c) = q at HC ⊢
  go_enter Tryd.func49, Tryd.ntmps49
  go_wp2_with fail
  refine HB.out.mono ?_
  rintro e x ⟨rfl, hb⟩
  have H1 := Lib.hid (HA.out.trans (hb.mono HZ.out))
  have c1 := (HR.out.below hb).c3
  clear hb
  go_wp2_with fail
  refine (HC.out _).mono ?_
  rintro e x2 ⟨rfl, rfl⟩
  cases q with
  | true =>
   go_wp2_with fail
   go_ret2
   exact ⟨rfl, H1.out⟩
  | false =>
   go_wp2_with fail
   go_ret2
   exact ⟨rfl, H1.out⟩
end Go.Proofs.YtnfkcdnkmcifbaaDoor
