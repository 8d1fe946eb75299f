/- Walks: a byte's digits to base 16. -/
import Derived.Test.YtlfnniipkdcpdaaDoorE5
import Derived.Laws.IdiomStrings
import Derived.Test.YtlfnniipkdcpdaaDoorLib
namespace Go.Proofs.YtlfnniipkdcpdaaDoor
open Go.RowKit
set_option maxRecDepth 100000
set_option maxHeartbeats 4000000

theorem tz_any (w : World) (h : TzOk w) : Calls Tryd.prog 69 #[.int .u64 16] w fun e w' => e = .returned (.int .i64 4) ∧ w' = w := by
 go_enter Tryd.func69, Tryd.ntmps69
 go_wp2_with fail
 refine (tz64_any w h).mono ?_
 rintro e x ⟨rfl, rfl⟩
 go_wp2_with fail
 go_ret
 exact ⟨rfl, rfl⟩
theorem pow2_any (w : World) : Calls Tryd.prog 68 #[.int .i64 16] w fun e w' => e = .returned (.bool true) ∧ w' = w := by
 have e2 : bits BinOp.and IntKind.i64 16 15 = 0 := by decide +kernel
 go_enter Tryd.func68, Tryd.ntmps68
 go_wp2_with fail
 go_ret
 exact ⟨rfl, rfl⟩
/-- A byte's digits. -/
def hexs (c : UInt8) : List UInt8 := if c < 16 then [dig c] else [dig (c / 16), dig (c % 16)]
/-- The row that formatBits writes into. -/
def Zs : Array Value := Array.replicate 65 (.int .u8 0)
def Z1 (x : UInt8) : Array Value := Zs.set! 64 (.int .u8 x.toNat)
def FbI (c : UInt8) (w : World) (i u : Value) (wr : World) : Prop :=
 (i = .int .i64 65 ∧ u = .int .u64 c.toNat ∧ wr = w.alloc (.cells Zs 109)) ∨ (16 ≤ c ∧ i = .int .i64 64 ∧ u = .int .u64 (c / 16).toNat ∧ wr = w.alloc (.cells (Z1 (dig (c % 16))) 109))
/-- 'string(b)' of cells in a block that has just been laid. -/
theorem conv_new (w : World) (cs : Array Value) (t : TypeId) (off : Nat) (l : List UInt8) (n cap : Nat) (hn : n = l.length) (hc : ∀ j (hj : j < l.length), cs[off + j]? = some (.int .u8 (l[j].toNat : Int))) :
 (convert 22 9 (.slice (some ⟨w.heap.size, off, none⟩) n cap)).run Tryd.prog (w.alloc (.cells cs t)) = .ok (.string ⟨l.toArray⟩) (w.alloc (.cells cs t)) := by
 subst hn
 refine run_convert_bytes_back _ _ _ 5 ⟨w.heap.size, off, none⟩ cap l (by kernel_rfl) (by kernel_rfl) (by kernel_rfl) (fun j hj => ?_)
 have e : (⟨w.heap.size, off, none⟩ : Addr).add j = ⟨w.heap.size, off + j, none⟩ := by unfold Addr.add; split <;> simp_all
 rw [e]
 have := (hrow.new w cs t).cell (off + j)
 rw [this]
 exact hc j hj
theorem digit_at (n : UInt8) (h : n < 16) (hi : n.toNat < (ByteArray.mk #[48, 49, 50, 51, 52, 53, 54, 55, 56, 57, 97, 98, 99, 100, 101, 102, 103, 104, 105, 106, 107, 108, 109, 110, 111, 112, 113, 114, 115, 116, 117, 118, 119, 120, 121, 122]).size) : (ByteArray.mk #[48, 49, 50, 51, 52, 53, 54, 55, 56, 57, 97, 98, 99, 100, 101, 102, 103, 104, 105, 106, 107, 108, 109, 110, 111, 112, 113, 114, 115, 116, 117, 118, 119, 120, 121, 122])[n.toNat]'hi = dig n := by
 have := u8_all (P := fun n => n < 16 → (ByteArray.mk #[48, 49, 50, 51, 52, 53, 54, 55, 56, 57, 97, 98, 99, 100, 101, 102, 103, 104, 105, 106, 107, 108, 109, 110, 111, 112, 113, 114, 115, 116, 117, 118, 119, 120, 121, 122]).data[n.toNat]? = some (dig n)) (by decide +kernel) n h
 exact (Array.getElem?_eq_some_iff.1 this).2
theorem and15 (c : UInt8) : bits BinOp.and IntKind.u64 (c.toNat : Int) 15 = ((c % 16).toNat : Int) :=
 u8_all (P := fun c => bits BinOp.and IntKind.u64 (c.toNat : Int) 15 = ((c % 16).toNat : Int)) (by decide +kernel) c
theorem div16 (c : UInt8) : (c.toNat : Int) / 16 = ((c / 16).toNat : Int) := by simp [UInt8.toNat_div]
theorem fbits_any (c : UInt8) (w : World) (h : TzOk w) : Calls Tryd.prog 50 #[.slice none 0 0, .int .u64 c.toNat, .int .i64 16, .bool false, .bool false] w fun e w' => e = .returned (.tuple #[.slice none 0 0, .string ⟨(hexs c).toArray⟩]) ∧ Below w.heap.size w w' := by
 have hz : Tryd.zeroCells109 = Zs := by kernel_rfl
 go_enter Tryd.func50, Tryd.ntmps50
 go_wp2_with fail
 refine (pow2_any _).mono ?_
 rintro e x ⟨rfl, rfl⟩
 have HT := h.below (show Below w.heap.size w (w.alloc (.cells Tryd.zeroCells109 109)) from (Below.refl _ _).alloc (Nat.le_refl _) _)
 go_wp2_with fail
 refine (tz_any _ HT).mono ?_
 rintro e x ⟨rfl, rfl⟩
 clear HT
 go_wp2_with fail
 go_loopw [13, 1] (fun i u wr => FbI c w i u wr) (fun _ u _ => (intOf u).toNat)
 case atStart => exact .inl ⟨rfl, rfl, rfl⟩
 case round =>
  clear hz h
  rcases hrel with ⟨rfl, rfl, rfl⟩ | ⟨hc, rfl, rfl, rfl⟩
  ·have h0 : (0 : Int) ≤ c.toNat := by omega
   have h255 : (c.toNat : Int) ≤ 255 := by have := c.toNat_lt; omega
   have hz64 : Zs[64]? = some (.int .u8 0) := by kernel_rfl
   by_cases hc : 16 ≤ c
   ·have hc' : (16 : Int) ≤ c.toNat := by have := UInt8.le_iff_toNat_le.1 hc; simp at this; omega
    have ha := and15 c
    have hm0 : (0 : Int) ≤ (c % 16).toNat := by omega
    have hml : c % 16 < 16 := u8_all (P := fun c => c % 16 < 16) (by decide +kernel) c
    have hm : ((c % 16).toNat : Int) < 36 := by have := UInt8.lt_iff_toNat_lt.1 hml; simp at this ⊢; omega
    have hd := digit_at _ hml
    have H2 : Hid (FbI c w (.int .i64 64) (.int .u64 ((c / 16).toNat : Int)) (w.alloc (.cells (Zs.setIfInBounds 64 (.int .u8 (dig (c % 16)).toNat)) 109))) := .inr ⟨hc, rfl, rfl, rfl⟩
    have H3 := Lib.hid (div16 c)
    generalize c % 16 = q at ha hm0 hm hd hml H2 ⊢
    go_wp2_with fail
    go_roundw
    case rel => rw [H3.out]; exact H2.out
    case measure => simp [intOf]; omega
   ·have hc' : (c.toNat : Int) < 16 := by have := mt UInt8.le_iff_toNat_le.2 hc; simp at this; omega
    have hd := digit_at c (UInt8.not_le.1 hc)
    have hcv := conv_new w (Zs.setIfInBounds 64 (.int .u8 (dig c).toNat)) 109 64 [dig c] 1 1 rfl (fun j hj => (by
     obtain rfl : j = 0 := by simpa using hj
     rw [Array.getElem?_setIfInBounds]
     simp [Zs]))
    go_wp2_with fail
    go_ret2
    exact ⟨by rw [hexs, if_pos (UInt8.not_le.1 hc)]; rfl, (Below.refl _ _).alloc (Nat.le_refl _) _⟩
  ·have h0 : (0 : Int) ≤ (c / 16).toNat := by omega
   have hq : c / 16 < 16 := u8_all (P := fun c => c / 16 < 16) (by decide +kernel) c
   have h15 : ((c / 16).toNat : Int) < 16 := by have := UInt8.lt_iff_toNat_lt.1 hq; simp at this ⊢; omega
   have hd := digit_at _ hq
   have hz63 : (Z1 (dig (c % 16)))[63]? = some (.int .u8 0) := by rw [Z1, Array.set!_eq_setIfInBounds, Array.getElem?_setIfInBounds]; simp; kernel_rfl
   have hcv := conv_new w ((Z1 (dig (c % 16))).setIfInBounds 63 (.int .u8 (dig (c / 16)).toNat)) 109 63 [dig (c / 16), dig (c % 16)] 2 2 rfl (fun j hj => (by
    obtain rfl | rfl : j = 0 ∨ j = 1 := by simp at hj; omega
    ·rw [Array.getElem?_setIfInBounds]; simp [Z1, Zs]
    ·rw [Array.getElem?_setIfInBounds]; simp [Z1, Zs]))
   have H2 : Hid (hexs c = [dig (c / 16), dig (c % 16)]) := if_neg (UInt8.not_lt.2 hc)
   generalize c / 16 = q at h0 hq h15 hd hcv H2 ⊢
   generalize dig (c % 16) = r at hz63 hcv H2 ⊢
   clear hc
   go_wp2_with fail
   go_ret2
   exact ⟨by rw [H2.out]; rfl, (Below.refl _ _).alloc (Nat.le_refl _) _⟩
theorem ifu_any (c : UInt8) (w : World) (h : TzOk w) : Calls Tryd.prog 37 #[.int .u64 c.toNat, .int .i64 16] w fun e w' => e = .returned (.string ⟨(hexs c).toArray⟩) ∧ Below w.heap.size w w' := by
 go_enter Tryd.func37, Tryd.ntmps37
 go_wp2_with fail
 refine (fbits_any c _ h).mono ?_
 rintro e x ⟨rfl, hb⟩
 have H := Lib.hid hb; clear hb
 go_wp2_with fail
 go_ret
 exact ⟨rfl, H.out⟩
theorem fu_any (c : UInt8) (w : World) (h : TzOk w) : Calls Tryd.prog 26 #[.int .u64 c.toNat, .int .i64 16] w fun e w' => e = .returned (.string ⟨(hexs c).toArray⟩) ∧ Below w.heap.size w w' := by
 go_enter Tryd.func26, Tryd.ntmps26
 go_wp2_with fail
 refine (ifu_any c _ h).mono ?_
 rintro e x ⟨rfl, hb⟩
 have H := Lib.hid hb; clear hb
 go_wp2_with fail
 go_ret
 exact ⟨rfl, H.out⟩
end Go.Proofs.YtlfnniipkdcpdaaDoor
