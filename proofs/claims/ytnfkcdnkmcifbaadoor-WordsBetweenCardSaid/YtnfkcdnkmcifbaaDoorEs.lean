/- Plain and small: a byte that is read at a place; later worlds. -/
import Derived.Test.YtnfkcdnkmcifbaaDoorE3
import Derived.Test.YtnfkcdnkmcifbaaDoorLib
namespace Go.Proofs.YtnfkcdnkmcifbaaDoor
open Go.RowKit
set_option maxRecDepth 100000
set_option maxHeartbeats 4000000

/-- What is read at a place of a text. -/
def rdA (p : Int) (l : List UInt8) (a : Int) : Option (UInt8 × Nat) := if 0 ≤ a ∧ a < l.length then rd p (l.drop a.toNat) else none
/-- .. as it is handed back. -/
def rdV (a : Int) : Option (UInt8 × Nat) → Value
 | some (b, n) => .tuple #[.int .u8 b.toNat, .int .i64 (a + n), .bool true]
 | none => .tuple #[.int .u8 0, .int .i64 0, .bool false]
theorem drop_at {s : ByteArray} {k : Nat} (hk : k < s.size) : s.data.toList.drop k = s[k] :: s.data.toList.drop (k + 1) := by
 rw [List.drop_eq_getElem_cons (by simpa using hk)]; rfl
theorem rdA_in {p : Int} {s : ByteArray} {k : Nat} (hk : k < s.size) : rdA p s.data.toList (k : Int) = rd p (s[k] :: s.data.toList.drop (k + 1)) := by
 unfold rdA
 have h2 : s.data.toList.length = s.size := by simp
 rw [if_pos ⟨by omega, by omega⟩, Int.toNat_natCast, drop_at hk]
theorem rdA_out {p : Int} {s : ByteArray} {a : Int} (h : a < 0 ∨ (s.size : Int) ≤ a) : rdA p s.data.toList a = none := by
 unfold rdA
 have h2 : s.data.toList.length = s.size := by simp
 rw [if_neg (by omega)]
theorem rdA_no {p : Int} (hp : isPl p = false) (l : List UInt8) (a : Int) : rdA p l a = none := by
 unfold rdA
 split
 ·unfold rd
  split
  ·rfl
  ·rw [hp]; rfl
 ·rfl
theorem rd_bare {p : Int} (hp : isPl p = true) {c : UInt8} (hs : spec p c = false) (t : List UInt8) : rd p (c :: t) = some (c, 1) := by unfold rd; simp [hp, hs]
theorem rd_spec {p : Int} (hp : isPl p = true) {c : UInt8} (hs : spec p c = true) (hc : c ≠ 92) (t : List UInt8) : rd p (c :: t) = none := by unfold rd; simp [hp, hs, hc]
theorem rd_back {p : Int} (hp : isPl p = true) (t : List UInt8) : rd p (92 :: t) = esc t := by
 have : spec p 92 = true := by unfold spec; simp
 unfold rd; simp [hp, this]
theorem hexv_lt {c x : UInt8} (h : hexv c = some x) : x < 16 := by
 have := u8_all (P := fun c => (hexv c).all (fun x => decide (x < 16)) = true) (by decide +kernel) c
 rw [h] at this; simpa using this
theorem hex_sum {x y : UInt8} (hx : x < 16) (hy : y < 16) : (16 * (x.toNat : Int) + y.toNat) = ((16 * x + y : UInt8).toNat : Int) := by
 have h1 := UInt8.lt_iff_toNat_lt.1 hx
 have h2 := UInt8.lt_iff_toNat_lt.1 hy
 simp [UInt8.toNat_add, UInt8.toNat_mul] at *
 omega
theorem belowN {B : Nat} {a w : World} (h : Below B a w) (n : Nat) : Below B a (w.drewN n) := ⟨h.os, h.tape, h.output, h.size, h.block⟩
theorem ba_len (s : ByteArray) : s.data.toList.length = s.size := by simp
theorem esc_x_short {l : List UInt8} (h : l.length ≤ 1) : esc (120 :: l) = none := by
 match l, h with
 | [], _ => rfl
 | [x], _ => rfl
theorem wrap8 (c : UInt8) : IntKind.u8.wrap (c.toNat : Int) = c.toNat := u8_all (P := fun c => IntKind.u8.wrap (c.toNat : Int) = c.toNat) (by decide +kernel) c
end Go.Proofs.YtnfkcdnkmcifbaaDoor
