/- Walks: words: what is skipped. -/
import Derived.Test.YtnfkcdnkmcifbaaDoorV1
namespace Go.Proofs.YtnfkcdnkmcifbaaDoor
open Go.RowKit
set_option maxRecDepth 100000
set_option maxHeartbeats 4000000

/-- The first place at which no blank and no remark begins. -/
def skA (l : List UInt8) (a : Int) : Int := if a < 0 ∨ (l.length : Int) < a then a else a + skp false (l.drop a.toNat)
theorem skA_in {l : List UInt8} {k : Nat} (h : k ≤ l.length) : skA l k = k + skp false (l.drop k) := by
 unfold skA
 rw [if_neg (by omega), Int.toNat_natCast]
theorem skip_in (s : ByteArray) (k0 : Nat) (w : World) (hs : s.size ≤ 1000000) (hk0 : k0 ≤ s.size) : Calls Tryd.prog 7 #[.string s, .int .i64 k0] w fun e w' => e = .returned (.int .i64 (k0 + skp false (s.data.toList.drop k0))) ∧ Below w.heap.size w w' := by
 have h1 : (k0 : Int) ≤ s.size := by omega
 have h0 : (0 : Int) ≤ k0 := by omega
 have HL := Lib.hid (ba_len s)
 have hR := skp_le (s.data.toList.drop k0) false
 obtain ⟨R, HR⟩ : ∃ R, Hid (k0 + skp false (s.data.toList.drop k0) = R) := ⟨_, rfl⟩
 have HE := Lib.hid (show ((k0 : Int) + (skp false (s.data.toList.drop k0) : Int)) = (R : Int) by rw [← HR.out]; omega)
 rw [HE.out]
 clear hR HE
 have hd0 : decide ((k0 : Int) < 0) = false := decide_eq_false (by omega)
 have hd1 : decide (s.size < k0) = false := decide_eq_false (by omega)
 go_enter Tryd.func7, Tryd.ntmps7
 go_wp2_with fail
 go_loopw [1] (fun i wr => ∃ k : Nat, k ≤ s.size ∧ i = .int .i64 k ∧ Hid (k + skp false (s.data.toList.drop k) = R ∧ Below w.heap.size w wr)) (fun i _ => s.size - (intOf i).toNat)
 case atStart => exact ⟨k0, hk0, rfl, HR.out, Below.refl _ _⟩
 case round =>
  obtain ⟨k, hk, rfl, hI⟩ := hrel
  have hkI : (k : Int) ≤ s.size := by omega
  have hk0' : (0 : Int) ≤ k := by omega
  have hsl := from_run (P := Tryd.prog) 9 Tryd.underlying9 s k k rfl hk
  have HB := Lib.hid hI.out.2
  have HI := Lib.hid hI.out.1
  clear hI
  have HSp := Lib.hid (fun x => span_bl (tx (s.data.toList.drop k)) x (by rw [tx_size, List.length_drop, HL.out]; omega))
  rw [tx_list] at HSp
  have hbl := skp_blanks (s.data.toList.drop k)
  have htw := tw_le isBl (s.data.toList.drop k)
  rw [List.length_drop, HL.out] at htw
  have hdw : (s.data.toList.drop k).dropWhile isBl = s.data.toList.drop (k + ((s.data.toList.drop k).takeWhile isBl).length) := by
   rw [← List.drop_drop]; exact drop_tw _
  rw [hdw] at hbl htw
  have HDh := Lib.hid (fun c u (h : (s.data.toList.drop k).dropWhile isBl = c :: u) => drop_head (p := isBl) h)
  rw [hdw] at HDh
  clear hdw
  generalize ((s.data.toList.drop k).takeWhile isBl).length = m at *
  have hm : k + m ≤ s.size := by omega
  have hmI : (k : Int) + m ≤ s.size := by omega
  have hm0 : (0 : Int) ≤ (k : Int) + m := by omega
  have hsl2 := from_run (P := Tryd.prog) 9 Tryd.underlying9 s (k + m) ((k : Int) + m) (by omega) hm
  have HM := Lib.hid hbl
  clear hbl htw
  go_wp2_with fail
  refine (HSp.out _).mono ?_
  rintro e x ⟨rfl, hb⟩
  have HB1 := Lib.hid (HB.out.trans (hb.mono HB.out.size)); clear hb HSp HB
  go_wp2_with fail
  refine (Tryd.strings_HasPrefix _ _ x).mono ?_
  rintro e x2 ⟨rfl, rfl⟩
  rw [tx_list]
  cases hd : s.data.toList.drop (k + m) with
  | nil => 
   have HF : Hid (k + m = R) := by rw [← HI.out, HM.out, hd]; rfl
   have hp : Lib.hasPrefix [] (ByteArray.mk #[35]).data.toList = false := rfl
   rw [hp]
   clear hd
   go_wp2_with fail
   go_ret
   exact ⟨ret_int (by rw [← HF.out]; rfl), HB1.out⟩
  | cons c u =>
   by_cases hc : c = 35
   ·subst hc
    have hp : Lib.hasPrefix (35 :: u) (ByteArray.mk #[35]).data.toList = true := rfl
    rw [hp]
    have hix := ix_ge (35 :: u) 10
    have hsh := skp_hash u
    have hln : (35 :: u).length = s.size - (k + m) := by rw [← hd, List.length_drop, HL.out]
    have HIx := Lib.hid (show Tryd.prog = Tryd.prog from rfl)
    clear HIx
    go_wp2_with fail
    refine (Tryd.strings_IndexByte _ 10 x2).mono ?_
    rintro e x3 ⟨rfl, rfl⟩
    rw [tx_list]
    have h10 : (10 : Int).toNat.toUInt8 = 10 := rfl
    rw [h10]
    have HD := Lib.hid hd
    have HMM := Lib.hid (HM.out.trans (by rw [HD.out]))
    clear hd h10
    rw [hln] at hix hsh
    obtain ⟨hA, hB⟩ := hsh
    generalize hii : Lib.indexByte (35 :: u) 10 = ii at *
    by_cases hlt : ii < 0
    ·have HF : Hid (s.size = R) := by have := hA hlt; have := HI.out; have := HMM.out; unfold Hid; omega
     have HII := Lib.hid hii; clear hii hA hB
     go_wp2_with fail
     go_ret
     exact ⟨ret_int (by rw [HF.out]), HB1.out⟩
    ·obtain ⟨hi1, hi2⟩ := hB (by omega)
     obtain ⟨n, hn⟩ : ∃ n : Nat, ii = n := ⟨ii.toNat, by omega⟩
     subst hn
     rw [Int.toNat_natCast] at hi2
     have hkn : k + m + n ≤ s.size := by omega
     have HF : Hid (k + m + n + skp false (s.data.toList.drop (k + m + n)) = R) := by
      have e1 : s.data.toList.drop (k + m + n) = (35 :: u).drop n := by rw [← List.drop_drop, HD.out]
      have := HI.out; have := HMM.out; unfold Hid; rw [e1]; omega
     have hn1 : 1 ≤ n := by omega
     have hI3 : (k : Int) + m + n ≤ s.size := by omega
     have HII := Lib.hid hii
     have HN := Lib.hid hn1
     clear hii hA hB hi1 hi2 hn1
     go_wp2_with fail
     go_roundw
     case rel => exact ⟨k + m + n, hkn, by go_num, HF.out, HB1.out⟩
     case measure => have := HN.out; simp [intOf]; omega
   ·have HF : Hid (k + m = R) := by rw [← HI.out, HM.out, hd, skp_stop (HDh.out c u hd) hc]; rfl
    have hp : Lib.hasPrefix (c :: u) (ByteArray.mk #[35]).data.toList = false := (pre1 35 c u).trans (by simpa using fun h => hc h.symm)
    rw [hp]
    clear hd
    go_wp2_with fail
    go_ret
    exact ⟨ret_int (by rw [← HF.out]; rfl), HB1.out⟩
theorem skip_any (s : ByteArray) (a : Int) (w : World) (hs : s.size ≤ 1000000) : Calls Tryd.prog 7 #[.string s, .int .i64 a] w fun e w' => e = .returned (.int .i64 (skA s.data.toList a)) ∧ Below w.heap.size w w' := by
 by_cases h : a < 0 ∨ (s.size : Int) < a
 ·have HE : Hid (skA s.data.toList a = a) := by unfold Hid skA; rw [if_pos (by rw [ba_len]; exact h)]
  rw [HE.out]
  rcases h with h | h
  ·go_enter Tryd.func7, Tryd.ntmps7
   go_wp2_with fail
   go_ret
   exact ⟨rfl, Below.refl _ _⟩
  ·by_cases h0 : a < 0
   ·go_enter Tryd.func7, Tryd.ntmps7
    go_wp2_with fail
    go_ret
    exact ⟨rfl, Below.refl _ _⟩
   ·go_enter Tryd.func7, Tryd.ntmps7
    go_wp2_with fail
    go_ret
    exact ⟨rfl, Below.refl _ _⟩
 ·obtain ⟨k, rfl⟩ : ∃ k : Nat, a = k := ⟨a.toNat, by omega⟩
  have hk : k ≤ s.size := by omega
  rw [skA_in (by rw [ba_len]; exact hk)]
  exact skip_in s k w hs hk
end Go.Proofs.YtnfkcdnkmcifbaaDoor
