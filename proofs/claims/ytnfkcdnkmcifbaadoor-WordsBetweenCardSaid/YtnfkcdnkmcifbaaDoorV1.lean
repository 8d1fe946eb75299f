/- Walks: words: fronts of classes of bytes, what is skipped. -/
import Derived.Test.YtnfkcdnkmcifbaaDoorEj
import Derived.Test.YtnfkcdnkmcifbaaDoorWd
namespace Go.Proofs.YtnfkcdnkmcifbaaDoor
open Go.RowKit
set_option maxRecDepth 100000
set_option maxHeartbeats 4000000

/-- A list of bytes, as a text. -/
def tx (l : List UInt8) : ByteArray := ⟨l.toArray⟩
theorem tx_list (l : List UInt8) : (tx l).data.toList = l := rfl
theorem tx_size (l : List UInt8) : (tx l).size = l.length := by simp [tx, ByteArray.size]
theorem tx_self (s : ByteArray) : tx s.data.toList = s := rfl
theorem trimL_any (S : ByteArray) (p : UInt8 → Bool) (hS : ∀ c, S.data.toList.contains c = p c) (hz : S.size < 4294967281) (hasc : ∀ (j : Nat) b, S.data.toList[j]? = some b → b.toNat < 128) (s : ByteArray) (w : World) :
  Calls Tryd.prog 21 #[.string s, .string S] w fun e w' => e = .returned (.string (tx (s.data.toList.dropWhile p))) ∧ Below w.heap.size w w' :=
 (Any.strings_TrimLeft_laid Tryd.lays161 (by kernel_rfl) s S w hz hasc).mono fun e w' ⟨he, hb⟩ => ⟨by rw [he, trim_is hS]; rfl, hb⟩
theorem span_any (S : ByteArray) (p : UInt8 → Bool) (hS : ∀ c, S.data.toList.contains c = p c) (hz : S.size < 4294967281) (hasc : ∀ (j : Nat) b, S.data.toList[j]? = some b → b.toNat < 128) (s : ByteArray) (w : World) (hs : s.size ≤ 1000000) :
  Calls Tryd.prog 11 #[.string s, .string S] w fun e w' => e = .returned (.int .i64 (s.data.toList.takeWhile p).length) ∧ Below w.heap.size w w' := by
 have HT := Lib.hid (trimL_any S p hS hz hasc s w)
 have hl := tw_le p s.data.toList
 rw [ba_len] at hl
 have hd : (tx (s.data.toList.dropWhile p)).size = (s.data.toList.dropWhile p).length := tx_size _
 have h1 : ((s.data.toList.dropWhile p).length : Int) ≤ s.size := by omega
 have HE := Lib.hid (show (s.size : Int) - ((s.data.toList.dropWhile p).length : Int) = (s.data.toList.takeWhile p).length by omega)
 clear hl
 generalize tx (s.data.toList.dropWhile p) = t at *
 generalize (s.data.toList.dropWhile p).length = n at *
 generalize (s.data.toList.takeWhile p).length = m at *
 go_enter Tryd.func11, Tryd.ntmps11
 go_wp2_with fail
 refine HT.out.mono ?_
 rintro e x ⟨rfl, hb⟩
 have HB := Lib.hid hb; clear hb
 go_wp2_with fail
 go_ret
 exact ⟨by rw [← HE.out]; rfl, HB.out⟩
theorem blS_small : blS.size < 4294967281 := by show 4 < 4294967281; omega
theorem dgS_small : dgS.size < 4294967281 := by show 10 < 4294967281; omega
theorem ltS_small : ltS.size < 4294967281 := by show 53 < 4294967281; omega
theorem ldS_small : ldS.size < 4294967281 := by show 63 < 4294967281; omega
theorem span_bl (s : ByteArray) (w : World) (hs : s.size ≤ 1000000) : Calls Tryd.prog 11 #[.string s, .string blS] w fun e w' => e = .returned (.int .i64 (s.data.toList.takeWhile isBl).length) ∧ Below w.heap.size w w' := span_any blS isBl blS_is blS_small (ascii_of_all (by decide)) s w hs
theorem span_dg (s : ByteArray) (w : World) (hs : s.size ≤ 1000000) : Calls Tryd.prog 11 #[.string s, .string dgS] w fun e w' => e = .returned (.int .i64 (s.data.toList.takeWhile isDg).length) ∧ Below w.heap.size w w' := span_any dgS isDg dgS_is dgS_small (ascii_of_all (by decide)) s w hs
theorem span_lt (s : ByteArray) (w : World) (hs : s.size ≤ 1000000) : Calls Tryd.prog 11 #[.string s, .string ltS] w fun e w' => e = .returned (.int .i64 (s.data.toList.takeWhile isLt).length) ∧ Below w.heap.size w w' := span_any ltS isLt ltS_is ltS_small (ascii_of_all (by decide)) s w hs
theorem span_ld (s : ByteArray) (w : World) (hs : s.size ≤ 1000000) : Calls Tryd.prog 11 #[.string s, .string ldS] w fun e w' => e = .returned (.int .i64 (s.data.toList.takeWhile isLD).length) ∧ Below w.heap.size w w' := span_any ldS isLD ldS_is ldS_small (ascii_of_all (by decide)) s w hs
/-- A text from a place on. -/
theorem ext_from (s : ByteArray) (k : Nat) : s.extract k s.size = tx (s.data.toList.drop k) := by
 apply ByteArray.ext
 rw [ByteArray.data_extract]
 unfold tx
 apply Array.toList_inj.1
 have : s.data.size = s.size := rfl
 simp [List.take_of_length_le, this]
theorem from_run {P : Program} (t : TypeId) (ht : P.underlying t = some .string) (s : ByteArray) (k : Nat) (a : Int) (ha : a = k) (h : k ≤ s.size) (wx : World) :
  (Instr.slice t (.string s) (some (.int .i64 a)) none none).run P wx = .ok (.string (tx (s.data.toList.drop k))) wx := by
 subst ha
 have := run_slice_string_from_if (P := P) wx t s .i64 k ht
 rw [this, if_pos (by omega)]
 rw [Int.toNat_natCast, ext_from s k]
end Go.Proofs.YtnfkcdnkmcifbaaDoor
