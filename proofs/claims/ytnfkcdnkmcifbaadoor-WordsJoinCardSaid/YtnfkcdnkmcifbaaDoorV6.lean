/- Walks: words: an arrow, a sign. -/
import Derived.Test.YtnfkcdnkmcifbaaDoorV5
namespace Go.Proofs.YtnfkcdnkmcifbaaDoor
open Go.RowKit
set_option maxRecDepth 100000
set_option maxHeartbeats 4000000

theorem arr_none {l : List UInt8} (h : Lib.hasPrefix l [60, 45] = false) : arrR l = none := by
 unfold arrR
 match l, h with
 | [], _ => rfl
 | [_], _ => rfl
 | c :: d :: t, h =>
  simp [Lib.hasPrefix] at h ⊢
  intro h1 h2
  rw [h1, h2] at h
  simp [List.isPrefixOf] at h
theorem arr_some {l : List UInt8} (h : Lib.hasPrefix l [60, 45] = true) : arrR l = some ⟨5, 2, [60, 45], 0, []⟩ := by
 unfold arrR
 match l, h with
 | [], h => simp [Lib.hasPrefix] at h
 | [_], h => simp [Lib.hasPrefix] at h
 | c :: d :: t, h =>
  simp [Lib.hasPrefix] at h ⊢
  simpa [eq_comm] using h
theorem arrow_any (s : ByteArray) (k g : Nat) (w : World) (hr : Rdr w g s k) (hs : s.size ≤ 1000000) (hk : k ≤ s.size) :
  Calls Tryd.prog 18 #[.pointer (some ⟨g, 0, none⟩)] w fun e w' => e = .returned (rdO (arrR (s.data.toList.drop k)) k) ∧ Below w.heap.size w w' := by
 have HRD := Lib.hid hr
 have HS := Lib.hid hs
 have HK := Lib.hid hk
 clear hr hs hk
 go_enter Tryd.func18, Tryd.ntmps18
 go_wp2_with fail
 have HB := Lib.hid ((Below.refl w.heap.size w).alloc (Nat.le_refl _) (.cells #[.int .i64 0, .int .i64 0, .int .i64 0, .string ⟨#[]⟩, .int .i64 0, .int .u64 0, .int .u64 0, .int .u64 0, .int .u64 0] 33))
 have HR := Lib.hid (show hrow (w.alloc (.cells #[.int .i64 0, .int .i64 0, .int .i64 0, .string ⟨#[]⟩, .int .i64 0, .int .u64 0, .int .u64 0, .int .u64 0, .int .u64 0] 33)) w.heap.size wd0 33 from hrow.new _ _ _)
 replace HRD := Lib.hid (Rdr.below HRD.out HB.out)
 revert HB HR HRD
 generalize w.alloc (.cells #[.int .i64 0, .int .i64 0, .int .i64 0, .string ⟨#[]⟩, .int .i64 0, .int .u64 0, .int .u64 0, .int .u64 0, .int .u64 0] 33) = wb
 intro HB HR HRD
 have HRN : Hid (∀ n, hrow (wb.drewN n) w.heap.size wd0 33) := Lib.hid (fun _ => HR.out)
 obtain ⟨c0, c1⟩ := hrow.c2 HRD.out
 go_wp2_with fail
 refine (left_any s k g _ HRD.out HK.out).mono ?_
 rintro e x ⟨rfl, hb⟩
 replace HR := Lib.hid (HR.out.below hb)
 replace HRD := Lib.hid (HRD.out.below hb)
 replace HB := Lib.hid (HB.out.trans (hb.mono HB.out.size))
 clear hb HRN c0 c1
 obtain ⟨c0, c1⟩ := hrow.c2 HRD.out
 go_wp2_with fail
 refine (Tryd.strings_HasPrefix _ _ x).mono ?_
 rintro e x2 ⟨rfl, rfl⟩
 rw [tx_list]
 cases hp : Lib.hasPrefix (s.data.toList.drop k) (ByteArray.mk #[60, 45]).data.toList with
 | false =>
  have HE := Lib.hid (arr_none hp)
  clear hp
  go_wp2_with (with_reducible refine store_word rfl (.tmp 2) (.tmp 10) rfl w.heap.size _ _ _ _ _ _ _ _ _ rfl rfl HR.out ?_)
  refine bodyPost_ret (results_word rfl _ _ w.heap.size _ _ rfl rfl HR.out ?_) rfl ?_
  next => rfl
  next => first | exact ⟨rfl, below_setRow HB.out (Nat.le_refl _) _⟩ | exact ⟨by rw [HE.out]; rfl, below_setRow HB.out (Nat.le_refl _) _⟩
 | true =>
  have HE := Lib.hid (arr_some hp)
  clear hp
  go_wp2_with fail
  refine (word_any 5 0 0 0 0 0 0 0 2 ⟨#[60, 45]⟩ s k g _ HRD.out (by have := HS.out; have := HK.out; omega) (by omega) (by omega)).mono ?_
  rintro e wx ⟨rfl, hb⟩
  have HRX := Lib.hid (HR.out.below hb)
  have HBX := Lib.hid (HB.out.trans (hb.mono HB.out.size))
  clear hb
  go_wp2_with (with_reducible refine store_word rfl (.tmp 2) (.tmp 14) rfl w.heap.size _ _ _ _ _ _ _ _ _ rfl rfl HRX.out ?_)
  refine bodyPost_ret (results_word rfl _ _ w.heap.size _ _ rfl rfl HRX.out ?_) rfl ?_
  next => rfl
  next => first | exact ⟨rfl, below_setRow HBX.out (Nat.le_refl _) _⟩ | exact ⟨by rw [HE.out]; rfl, below_setRow HBX.out (Nat.le_refl _) _⟩
theorem to_run {P : Program} (t : TypeId) (ht : P.underlying t = some .string) (l : List UInt8) (k : Nat) (a : Int) (ha : a = k) (h : k ≤ l.length) (wx : World) :
  (Instr.slice t (.string (tx l)) none (some (.int .i64 a)) none).run P wx = .ok (.string (tx (l.take k))) wx := by
 subst ha
 have := run_slice_string_to_if (P := P) wx t (tx l) .i64 k ht
 rw [this, if_pos (by rw [tx_size]; omega)]
 rw [Int.toNat_natCast]
 congr 2
 apply ByteArray.ext
 rw [ByteArray.data_extract]
 unfold tx
 apply Array.toList_inj.1
 simp
def sgB : ByteArray := ⟨#[47, 40, 41, 46, 59, 42, 43, 63, 33, 38]⟩
theorem sg_ix (c : UInt8) : decide (Lib.indexByte sgB.data.toList c < 0) = !sgs.contains c := u8_all (P := fun c => decide (Lib.indexByte sgB.data.toList c < 0) = !sgs.contains c) (by decide +kernel) c
theorem sign_any (s : ByteArray) (k g : Nat) (w : World) (hr : Rdr w g s k) (hs : s.size ≤ 1000000) (hk : k < s.size) :
  Calls Tryd.prog 19 #[.pointer (some ⟨g, 0, none⟩)] w fun e w' => e = .returned (rdO (sgnR (s.data.toList.drop k)) k) ∧ Below w.heap.size w w' := by
 have HRD := Lib.hid hr
 have HS := Lib.hid hs
 have hI : (k : Int) < s.size := by omega
 have h0 : (0 : Int) ≤ k := by omega
 have HK := Lib.hid (Nat.le_of_lt hk)
 have HX := Lib.hid (sg_ix s[k])
 have HD := Lib.hid (drop_at hk)
 have HI : Hid (∀ x : World, Calls Tryd.prog 13 #[.string sgB, .int .u8 s[k].toNat] x fun e w' => e = .returned (.int .i64 (Lib.indexByte sgB.data.toList s[k])) ∧ w' = x) := Lib.hid (fun x => by
  have := Tryd.strings_IndexByte sgB s[k].toNat x
  rwa [Int.toNat_natCast, show s[k].toNat.toUInt8 = s[k] by simp] at this)
 clear hr hs
 go_enter Tryd.func19, Tryd.ntmps19
 go_wp2_with fail
 have HB := Lib.hid ((Below.refl w.heap.size w).alloc (Nat.le_refl _) (.cells #[.int .i64 0, .int .i64 0, .int .i64 0, .string ⟨#[]⟩, .int .i64 0, .int .u64 0, .int .u64 0, .int .u64 0, .int .u64 0] 33))
 have HR := Lib.hid (show hrow (w.alloc (.cells #[.int .i64 0, .int .i64 0, .int .i64 0, .string ⟨#[]⟩, .int .i64 0, .int .u64 0, .int .u64 0, .int .u64 0, .int .u64 0] 33)) w.heap.size wd0 33 from hrow.new _ _ _)
 replace HRD := Lib.hid (Rdr.below HRD.out HB.out)
 revert HB HR HRD
 generalize w.alloc (.cells #[.int .i64 0, .int .i64 0, .int .i64 0, .string ⟨#[]⟩, .int .i64 0, .int .u64 0, .int .u64 0, .int .u64 0, .int .u64 0] 33) = wb
 intro HB HR HRD
 have HRN : Hid (∀ n, hrow (wb.drewN n) w.heap.size wd0 33) := Lib.hid (fun _ => HR.out)
 obtain ⟨c0, c1⟩ := hrow.c2 HRD.out
 go_quiet ((go_at_call 13; exact Calls.quiet_of_same (HI.out _)))
 by_cases hlt : Lib.indexByte sgB.data.toList s[k] < 0
 ·have HE : Hid (sgnR (s.data.toList.drop k) = none) := by
   have := HX.out
   rw [decide_eq_true hlt] at this
   unfold Hid sgnR
   rw [HD.out]
   simp only [] at this ⊢
   rw [if_neg (by simpa using this)]
  clear HD HI HX c0 c1
  go_wp2_with (with_reducible refine store_word rfl (.tmp 2) (.tmp 17) rfl w.heap.size _ _ _ _ _ _ _ _ _ rfl rfl (HRN.out _) ?_)
  refine bodyPost_ret (results_word rfl _ _ w.heap.size _ _ rfl rfl (HRN.out _) ?_) rfl ?_
  next => rfl
  next => first | exact ⟨rfl, below_setRow (belowN HB.out _) (Nat.le_refl _) _⟩ | exact ⟨by rw [HE.out]; rfl, below_setRow (belowN HB.out _) (Nat.le_refl _) _⟩
 ·have HE : Hid (sgnR (s.data.toList.drop k) = some ⟨5, 1, [s[k]], 0, []⟩) := by
   have := HX.out
   rw [decide_eq_false hlt] at this
   unfold Hid sgnR
   rw [HD.out]
   simp only [] at this ⊢
   rw [if_pos (by simpa using this)]
  have hsl : ∀ wx, (Instr.slice 9 (.string (tx (s.data.toList.drop k))) none (some (.int .i64 1)) none).run Tryd.prog wx = .ok (.string (tx [s[k]])) wx := fun wx => by
   rw [HD.out]
   exact to_run 9 Tryd.underlying9 _ 1 1 rfl (by simp) wx
  clear HD HI HX c0 c1
  go_wp2_with fail
  refine (left_any s k g _ (HRD.out.below (belowN (Below.refl _ _) _)) HK.out).mono ?_
  rintro e x ⟨rfl, hb⟩
  replace HR := Lib.hid ((HRN.out _).below hb)
  replace HRD := Lib.hid (Rdr.below (HRD.out.below (belowN (Below.refl _ _) _)) hb)
  replace HB := Lib.hid ((belowN HB.out _).trans (hb.mono HB.out.size))
  clear hb HRN
  go_wp2_with fail
  refine (word_any 5 0 0 0 0 0 0 0 1 (tx [s[k]]) s k g _ HRD.out (by have := HS.out; have := HK.out; omega) (by omega) (by omega)).mono ?_
  rintro e wx ⟨rfl, hb⟩
  have HRX := Lib.hid (HR.out.below hb)
  have HBX := Lib.hid (HB.out.trans (hb.mono HB.out.size))
  clear hb
  go_wp2_with (with_reducible refine store_word rfl (.tmp 2) (.tmp 26) rfl w.heap.size _ _ _ _ _ _ _ _ _ rfl rfl HRX.out ?_)
  refine bodyPost_ret (results_word rfl _ _ w.heap.size _ _ rfl rfl HRX.out ?_) rfl ?_
  next => rfl
  next => first | exact ⟨rfl, below_setRow HBX.out (Nat.le_refl _) _⟩ | exact ⟨by rw [HE.out]; rfl, below_setRow HBX.out (Nat.le_refl _) _⟩
end Go.Proofs.YtnfkcdnkmcifbaaDoor
