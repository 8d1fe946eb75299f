/- Walks: escape: two digits behind a backslash and an x. -/
import Derived.Test.YtnfkcdnkmcifbaaDoorEh
import Derived.Shelf.Strings.SlTrimAscii
namespace Go.Proofs.YtnfkcdnkmcifbaaDoor
open Go.RowKit
set_option maxRecDepth 100000
set_option maxHeartbeats 4000000

def digA (l : List UInt8) (a : Int) : Option (UInt8 × Nat) := if 0 ≤ a ∧ a < l.length then (match l.drop a.toNat with
 | c :: d :: u :: v :: _ => if c == 92 && d == 120 then (match hexv u, hexv v with | some x, some y => some (16 * x + y, 4) | _, _ => none) else none
 | _ => none) else none
theorem digA_out {s : ByteArray} {a : Int} (h : a < 0 ∨ (s.size : Int) - 3 ≤ a) : digA s.data.toList a = none := by
 unfold digA
 split
 ·rename_i h2
  rw [ba_len] at h2
  have hl : (s.data.toList.drop a.toNat).length ≤ 3 := by rw [List.length_drop, ba_len]; omega
  generalize s.data.toList.drop a.toNat = l at hl
  match l, hl with
  | [], _ => rfl
  | [_], _ => rfl
  | [_, _], _ => rfl
  | [_, _, _], _ => rfl
  | _ :: _ :: _ :: _ :: _, h => simp at h
 ·rfl
theorem digA_in {s : ByteArray} {k : Nat} (hk : k + 3 < s.size) : digA s.data.toList k = if s[k] == 92 && s[k + 1] == 120 then (match hexv s[k + 2], hexv s[k + 3] with | some x, some y => some (16 * x + y, 4) | _, _ => none) else none := by
 unfold digA
 rw [if_pos ⟨by omega, by rw [ba_len]; omega⟩, Int.toNat_natCast, drop_at (by omega), drop_at (show k + 1 < s.size by omega), drop_at (show k + 1 + 1 < s.size by omega), drop_at (show k + 1 + 1 + 1 < s.size by omega)]
/-- Two bytes of a text. -/
theorem sub2 (s : ByteArray) (k : Nat) (h : k + 1 < s.size) : s.extract k (k + 2) = ⟨#[s[k], s[k + 1]]⟩ := by
 apply ByteArray.ext
 rw [ByteArray.data_extract]
 apply Array.ext
 ·have : s.data.size = s.size := rfl
  simp; omega
 ·intro i h1 h2
  simp at h2
  obtain rfl | rfl : i = 0 ∨ i = 1 := by omega
  ·simp; rfl
  ·simp; rfl
theorem slice2 {P : Program} (t : TypeId) (ht : P.underlying t = some .string) (s : ByteArray) (k : Nat) (a b : Int) (ha : a = k) (hb : b = k + 2) (h : k + 1 < s.size) (wx : World) :
  (Instr.slice t (.string s) (some (.int .i64 a)) (some (.int .i64 b)) none).run P wx = .ok (.string ⟨#[s[k], s[k + 1]]⟩) wx := by
 subst ha hb
 rw [run_slice_string (P := P) wx t s .i64 .i64 k (k + 2) ht (by omega) (by omega) (by omega), ← sub2 s k h]
 rfl
def digR (c d u v : UInt8) : Option (UInt8 × Nat) := if c == 92 && d == 120 then (match hexv u, hexv v with | some x, some y => some (16 * x + y, 4) | _, _ => none) else none
def hexS : ByteArray := ⟨#[48, 49, 50, 51, 52, 53, 54, 55, 56, 57, 97, 98, 99, 100, 101, 102, 65, 66, 67, 68, 69, 70]⟩
theorem hexS_mem (c : UInt8) : hexS.data.toList.contains c = (hexv c).isSome := u8_all (P := fun c => hexS.data.toList.contains c = (hexv c).isSome) (by decide +kernel) c
theorem trim_hex (u v : UInt8) : (Lib.trimS [u, v] hexS.data.toList = [] ∧ (∃ a, hexv u = some a) ∧ ∃ b, hexv v = some b) ∨ ((∃ x t, Lib.trimS [u, v] hexS.data.toList = x :: t) ∧ ∀ c d, digR c d u v = none) := by
 unfold Lib.trimS Lib.trimRightS Lib.trimLeftS
 simp only [List.reverse_cons, List.reverse_nil, List.nil_append, List.singleton_append, List.dropWhile_cons, hexS_mem]
 have hno : (hexv u).isSome = false ∨ (hexv v).isSome = false → ∀ c d, digR c d u v = none := by
  intro h c d
  unfold digR
  split
  ·rcases h with h | h
   ·rw [Option.isSome_eq_false_iff, Option.isNone_iff_eq_none] at h; rw [h]
   ·rw [Option.isSome_eq_false_iff, Option.isNone_iff_eq_none] at h; rw [h]; cases hexv u <;> rfl
  ·rfl
 cases hv : (hexv v).isSome with
 | false => 
  refine .inr ⟨?_, hno (.inr hv)⟩
  cases hu : (hexv u).isSome with
  | false => exact ⟨u, [v], by simp [hu]⟩
  | true => exact ⟨v, [], by simp [hu, hv]⟩
 | true =>
  cases hu : (hexv u).isSome with
  | false => exact .inr ⟨⟨u, [], by simp [hu]⟩, hno (.inl hu)⟩
  | true => exact .inl ⟨by simp, Option.isSome_iff_exists.1 hu, Option.isSome_iff_exists.1 hv⟩
theorem trim_call (u v : UInt8) (w : World) : Calls Tryd.prog 58 #[.string ⟨#[u, v]⟩, .string hexS] w fun e w' => e = .returned (.string ⟨(Lib.trimS [u, v] hexS.data.toList).toArray⟩) ∧ Below w.heap.size w w' :=
 Any.strings_Trim_laid Tryd.lays160 (by kernel_rfl) ⟨#[u, v]⟩ hexS w (by show 2 ≤ 9223372036854775807; omega) (by decide) (ascii_of_all (by decide))
theorem digits_any (s : ByteArray) (a p : Int) (w : World) (hs : s.size ≤ 1000000) : Calls Tryd.prog 51 #[.agg #[.string s, .int .i64 a, .int .i64 p]] w fun e w' => e = .returned (rdT (digA s.data.toList a)) ∧ Below w.heap.size w w' := by
 have HA := Lib.hid (show Below w.heap.size w (w.alloc (.cells #[.string s, .int .i64 a, .int .i64 p] 96)) from (Below.refl _ _).alloc (Nat.le_refl _) _)
 have HZ := Lib.hid (show w.heap.size ≤ (w.alloc (.cells #[.string s, .int .i64 a, .int .i64 p] 96)).heap.size by simp)
 have HR := Lib.hid (hrow.new w #[.string s, .int .i64 a, .int .i64 p] 96)
 by_cases h : a < 0 ∨ (s.size : Int) - 3 ≤ a
 ·rw [digA_out h]
  have HB := Lib.hid (byte_no s a 3 (w.alloc (.cells #[.string s, .int .i64 a, .int .i64 p] 96)) hs (by omega) (by omega) (by omega))
  clear h
  go_enter Tryd.func51, Tryd.ntmps51
  go_wp2_with fail
  refine HB.out.mono ?_
  rintro e x ⟨rfl, hb⟩
  have H1 := Lib.hid (HA.out.trans (hb.mono HZ.out))
  have c1 := (HR.out.below hb).c3
  clear hb
  go_wp2_with fail
  go_ret2
  exact ⟨rfl, H1.out⟩
 ·obtain ⟨k, rfl⟩ : ∃ k : Nat, a = k := ⟨a.toNat, by omega⟩
  have hk : k + 3 < s.size := by omega
  have hk4 : (k : Int) + 4 ≤ s.size := by omega
  have hk0 : (0 : Int) ≤ k := by omega
  have hk2 : (k : Int) + 2 ≤ s.size := by omega
  have HB := Lib.hid (byte_yes s k 3 3 (w.alloc (.cells #[.string s, .int .i64 k, .int .i64 p] 96)) hs (by omega) hk rfl)
  clear h
  have hk8 : k + 1 < s.size := by clear hk4 hk0 hk2 HB; omega
  have hk9 : k + 2 < s.size := by clear hk4 hk0 hk2 HB; omega
  have hk7 : k < s.size := by clear hk4 hk0 hk2 HB; omega
  rw [digA_in hk]
  change Calls _ _ _ _ fun e w' => e = .returned (rdT (digR (s[k]'hk7) (s[k + 1]'hk8) (s[k + 2]'hk9) (s[k + 3]'hk))) ∧ Below w.heap.size w w'
  have hs1 := slice2 (P := Tryd.prog) 9 Tryd.underlying9 s k k (k + 2) rfl rfl hk8
  have hs2 := slice2 (P := Tryd.prog) 9 Tryd.underlying9 s (k + 2) (k + 2) (k + 4) (by clear hk4 hk0 hk2 hs1; omega) (by clear hk4 hk0 hk2 hs1; omega) hk
  have e3 : s[k + 2 + 1]'hk = s[k + 3]'hk := rfl
  rw [e3] at hs2
  clear e3
  generalize s[k] = c at *
  generalize s[k + 1] = d at *
  generalize s[k + 2] = u at *
  generalize s[k + 3] = v at *
  by_cases hc : c = 92
  ·subst hc
   by_cases hd : d = 120
   ·subst hd
    have HT := Lib.hid (fun x => trim_call u v x)
    have HX := trim_hex u v
    generalize Lib.trimS [u, v] hexS.data.toList = L at HT HX
    rcases HX with ⟨rfl, ⟨a, hu⟩, b, hv⟩ | ⟨⟨y, t, rfl⟩, hno⟩
    ·have HP := Lib.hid (fun x => pu_any u v a b hu hv x)
     have H3 : Hid (digR 92 120 u v = some (16 * a + b, 4)) := by unfold Hid digR; rw [hu, hv]; rfl
     have H4 := Lib.hid (hex_sum (hexv_lt hu) (hexv_lt hv))
     have hn0 : (0 : Int) ≤ 16 * (a.toNat : Int) + b.toNat := by omega
     have hn1 : 16 * (a.toNat : Int) + b.toNat ≤ 255 := by have h1 := UInt8.lt_iff_toNat_lt.1 (hexv_lt hu); have h2 := UInt8.lt_iff_toNat_lt.1 (hexv_lt hv); simp at h1 h2; omega
     clear hu hv
     generalize 16 * (a.toNat : Int) + b.toNat = n at HP H4 hn0 hn1
     go_enter Tryd.func51, Tryd.ntmps51
     go_wp2_with fail
     refine HB.out.mono ?_
     rintro e x ⟨rfl, hb⟩
     have H1 := Lib.hid (HA.out.trans (hb.mono HZ.out))
     have H7 := Lib.hid (HR.out.below hb)
     have c1 := H7.out.c3
     clear hb
     go_wp2_with fail
     refine (HT.out _).mono ?_
     rintro e x2 ⟨rfl, hb⟩
     have H2 := Lib.hid (H1.out.trans (hb.mono H1.out.size))
     have c2 := (H7.out.below hb).c3
     clear hb c1
     go_wp2_with fail
     refine (HP.out _).mono ?_
     rintro e x3 ⟨rfl, hb⟩
     have H5 := Lib.hid (H2.out.trans (hb.mono H2.out.size))
     clear hb c2
     go_wp2_with fail
     go_ret2
     exact ⟨by rw [H3.out, H4.out]; rfl, H5.out⟩
    ·have H3 := Lib.hid (hno 92 120)
     clear hno
     go_enter Tryd.func51, Tryd.ntmps51
     go_wp2_with fail
     refine HB.out.mono ?_
     rintro e x ⟨rfl, hb⟩
     have H1 := Lib.hid (HA.out.trans (hb.mono HZ.out))
     have H7 := Lib.hid (HR.out.below hb)
     have c1 := H7.out.c3
     clear hb
     go_wp2_with fail
     refine (HT.out _).mono ?_
     rintro e x2 ⟨rfl, hb⟩
     have H2 := Lib.hid (H1.out.trans (hb.mono H1.out.size))
     clear hb c1
     go_wp2_with fail
     go_ret2
     exact ⟨by rw [H3.out]; rfl, H2.out⟩
   ·have H3 : Hid (digR 92 d u v = none) := if_neg (by simpa using hd)
    go_enter Tryd.func51, Tryd.ntmps51
    go_wp2_with fail
    refine HB.out.mono ?_
    rintro e x ⟨rfl, hb⟩
    have H1 := Lib.hid (HA.out.trans (hb.mono HZ.out))
    have H7 := Lib.hid (HR.out.below hb)
    have c1 := H7.out.c3
    clear hb
    go_wp2_with fail
    go_ret2
    exact ⟨by rw [H3.out]; rfl, H1.out⟩
  ·have H3 : Hid (digR c d u v = none) := if_neg (by simp [hc])
   go_enter Tryd.func51, Tryd.ntmps51
   go_wp2_with fail
   refine HB.out.mono ?_
   rintro e x ⟨rfl, hb⟩
   have H1 := Lib.hid (HA.out.trans (hb.mono HZ.out))
   have H7 := Lib.hid (HR.out.below hb)
   have c1 := H7.out.c3
   clear hb
   go_wp2_with fail
   go_ret2
   exact ⟨by rw [H3.out]; rfl, H1.out⟩
end Go.Proofs.YtnfkcdnkmcifbaaDoor
