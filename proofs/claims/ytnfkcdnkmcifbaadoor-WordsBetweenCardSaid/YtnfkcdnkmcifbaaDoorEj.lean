/- Walks: escape: a byte, read. -/
import Derived.Test.YtnfkcdnkmcifbaaDoorEi
namespace Go.Proofs.YtnfkcdnkmcifbaaDoor
open Go.RowKit
set_option maxRecDepth 100000
set_option maxHeartbeats 4000000

theorem rd_alt {p : Int} (hp : isPl p = true) (l : List UInt8) (a : Int) : rdA p l a = (bareA p l a).or ((lettA l a).or (digA l a)) := by
 unfold rdA bareA lettA digA
 by_cases h : 0 ≤ a ∧ a < l.length
 ·rw [if_pos h, if_pos h, if_pos h, if_pos h, hp]
  cases hd : l.drop a.toNat with
  | nil => rfl
  | cons c t =>
   cases hs : spec p c with
   | false => rw [rd_bare hp hs]; simp [hs]
   | true =>
    by_cases hc : c = 92
    ·subst hc
     rw [rd_back hp]
     simp only [hs, Bool.not_true, Bool.and_false, Bool.false_eq_true, if_false, Option.none_or]
     cases t with
     | nil => rfl
     | cons d t =>
      simp only [beq_self_eq_true, if_true]
      unfold esc lett
      simp only []
      by_cases h1 : d = 110
      ·subst h1; rfl
      ·by_cases h2 : d = 114
       ·subst h2; rfl
       ·by_cases h3 : d = 116
        ·subst h3; rfl
        ·by_cases h4 : d = 92 ∨ d = 34 ∨ d = 93 ∨ d = 45
         ·rcases h4 with rfl | rfl | rfl | rfl <;> rfl
         ·have h5 : (d == 92 || d == 34 || d == 93 || d == 45) = false := by
           rw [Bool.eq_false_iff]; intro h; simp only [Bool.or_eq_true, beq_iff_eq] at h; exact h4 (by rcases h with ((h | h) | h) | h <;> simp [h])
          simp only [beq_iff_eq, h1, h2, h3, h5, if_false, Bool.false_eq_true, Option.none_or]
          by_cases h6 : d = 120
          ·subst h6
           match t with
           | [] => rfl
           | [_] => rfl
           | _ :: _ :: _ => rfl
          ·match t with
           | [] => simp [h6]
           | [_] => simp [h6]
           | _ :: _ :: _ => simp [h6]
    ·rw [rd_spec hp hs hc]
     simp only [hs, Bool.not_true, Bool.and_false, Bool.false_eq_true, if_false, Option.none_or]
     match t with
     | [] => rfl
     | [_] => simp [hc]
     | [_, _] => simp [hc]
     | _ :: _ :: _ :: _ => simp [hc]
 ·rw [if_neg h, if_neg h, if_neg h, if_neg h]; rfl
theorem bareA_n {p : Int} {l : List UInt8} {a : Int} {b : UInt8} {n : Nat} (h : bareA p l a = some (b, n)) : 0 < n ∧ n ≤ 4 := by
 unfold bareA at h
 split at h
 ·split at h
  ·split at h
   ·cases h; omega
   ·cases h
  ·cases h
 ·cases h
theorem lettA_n {l : List UInt8} {a : Int} {b : UInt8} {n : Nat} (h : lettA l a = some (b, n)) : 0 < n ∧ n ≤ 4 := by
 unfold lettA at h
 split at h
 ·split at h
  ·split at h
   ·unfold lett at h
    repeat' split at h
    all_goals first | (cases h; omega) | cases h
   ·cases h
  ·cases h
 ·cases h
theorem digA_n {l : List UInt8} {a : Int} {b : UInt8} {n : Nat} (h : digA l a = some (b, n)) : 0 < n ∧ n ≤ 4 := by
 unfold digA at h
 split at h
 ·split at h
  ·split at h
   ·split at h
    ·cases h; omega
    ·cases h
   ·cases h
  ·cases h
 ·cases h
theorem rdA_bd {p : Int} {l : List UInt8} {a : Int} {q : UInt8 × Nat} (h : rdA p l a = some q) : 0 ≤ a ∧ a < l.length := by
 unfold rdA at h
 split at h
 ·assumption
 ·cases h
theorem ix3_0 (x0 x1 x2 : Value) (w : World) : (Instr.index 98 (.agg #[x0, x1, x2]) (.int .i64 0)).run Tryd.prog w = .ok x0 w := by kernel_rfl
theorem ix3_1 (x0 x1 x2 : Value) (w : World) : (Instr.index 98 (.agg #[x0, x1, x2]) (.int .i64 1)).run Tryd.prog w = .ok x1 w := by kernel_rfl
theorem ix3_2 (x0 x1 x2 : Value) (w : World) : (Instr.index 98 (.agg #[x0, x1, x2]) (.int .i64 2)).run Tryd.prog w = .ok x2 w := by kernel_rfl
/-- How far a loop over the three readers has come. -/
def RdI (p : Int) (l : List UInt8) (a : Int) (i : Value) : Prop :=
 i = .int .i64 0 ∨ (i = .int .i64 1 ∧ bareA p l a = none) ∨ (i = .int .i64 2 ∧ bareA p l a = none ∧ lettA l a = none) ∨ (i = .int .i64 3 ∧ bareA p l a = none ∧ lettA l a = none ∧ digA l a = none)
theorem read_any (p : Int) (s : ByteArray) (a : Int) (w : World) (hs : s.size ≤ 1000000) : Calls Tryd.prog 40 #[.int .i64 p, .string s, .int .i64 a] w fun e w' => e = .returned (rdV a (rdA p s.data.toList a)) ∧ Below w.heap.size w w' := by
 have HN := named_any p w
 generalize nmd p = nm at HN
 cases hp : isPl p with
 | false =>
  have H3 := Lib.hid (rdA_no hp s.data.toList a)
  rw [hp] at HN
  clear hp
  go_enter Tryd.func40, Tryd.ntmps40
  go_wp2_with fail
  refine HN.mono ?_
  rintro e x ⟨rfl, rfl⟩
  go_wp2_with fail
  go_ret3
  exact ⟨by rw [H3.out]; rfl, Below.refl _ _⟩
 | true =>
  have H3 := Lib.hid (rd_alt hp s.data.toList a)
  rw [hp] at HN
  clear hp
  have i0 := ix3_0
  have i1 := ix3_1
  have i2 := ix3_2
  have HB := Lib.hid (fun x => rbare_any s a p x hs)
  have HL := Lib.hid (fun x => letter_any s a p x hs)
  have HD := Lib.hid (fun x => digits_any s a p x hs)
  go_enter Tryd.func40, Tryd.ntmps40
  go_wp2_with fail
  refine HN.mono ?_
  rintro e x ⟨rfl, rfl⟩
  go_wp2_with fail
  go_loopw [35] (fun i wr => Hid (RdI p s.data.toList a i ∧ Below x.heap.size x wr)) (fun i _ => 3 - (intOf i).toNat)
  case atStart => exact ⟨.inl rfl, (Below.refl _ _).alloc (Nat.le_refl _) _⟩
  case round =>
   obtain ⟨hI, hJ⟩ := hrel.out
   have HJ := Lib.hid hJ
   clear hrel hJ
   rcases hI with rfl | ⟨rfl, h1⟩ | ⟨rfl, h1, h2⟩ | ⟨rfl, h1, h2, h3⟩
   ·have hO := HB.out wr
    cases hq : bareA p s.data.toList a with
    | none =>
     rw [hq] at hO
     have HO := Lib.hid hO; clear hO
     have HQ := Lib.hid hq; clear hq
     go_wp2_with fail
     refine HO.out.mono ?_
     rintro e y ⟨rfl, hb⟩
     have H2 := Lib.hid (HJ.out.trans (hb.mono HJ.out.size)); clear hb
     unfold rdT
     go_wp2_with fail
     go_roundw
     case rel => exact ⟨.inr (.inl ⟨rfl, HQ.out⟩), H2.out⟩
     case measure => simp [intOf]
    | some q =>
     obtain ⟨b, n⟩ := q
     rw [hq] at hO
     have HR : Hid (rdA p s.data.toList a = some (b, n)) := by rw [H3.out, hq]; rfl
     obtain ⟨hn0, hn1⟩ := bareA_n hq
     obtain ⟨ha0, ha1⟩ := rdA_bd HR.out
     rw [ba_len] at ha1
     have ha2 : a ≤ 1000000 := by omega
     have hn2 : (0 : Int) < n := by omega
     have HO := Lib.hid hO; clear hO hq
     go_wp2_with fail
     refine HO.out.mono ?_
     rintro e y ⟨rfl, hb⟩
     have H2 := Lib.hid (HJ.out.trans (hb.mono HJ.out.size)); clear hb
     unfold rdT
     go_wp2_with fail
     go_ret3
     exact ⟨by rw [HR.out]; rfl, H2.out⟩
   ·have H1 := Lib.hid h1; clear h1
    have hO := HL.out wr
    cases hq : lettA s.data.toList a with
    | none =>
     rw [hq] at hO
     have HO := Lib.hid hO; clear hO
     have HQ := Lib.hid hq; clear hq
     go_wp2_with fail
     refine HO.out.mono ?_
     rintro e y ⟨rfl, hb⟩
     have H2 := Lib.hid (HJ.out.trans (hb.mono HJ.out.size)); clear hb
     unfold rdT
     go_wp2_with fail
     go_roundw
     case rel => exact ⟨.inr (.inr (.inl ⟨rfl, H1.out, HQ.out⟩)), H2.out⟩
     case measure => simp [intOf]
    | some q =>
     obtain ⟨b, n⟩ := q
     rw [hq] at hO
     have HR : Hid (rdA p s.data.toList a = some (b, n)) := by rw [H3.out, H1.out, Option.none_or, hq]; rfl
     obtain ⟨hn0, hn1⟩ := lettA_n hq
     obtain ⟨ha0, ha1⟩ := rdA_bd HR.out
     rw [ba_len] at ha1
     have ha2 : a ≤ 1000000 := by omega
     have hn2 : (0 : Int) < n := by omega
     have HO := Lib.hid hO; clear hO hq
     go_wp2_with fail
     refine HO.out.mono ?_
     rintro e y ⟨rfl, hb⟩
     have H2 := Lib.hid (HJ.out.trans (hb.mono HJ.out.size)); clear hb
     unfold rdT
     go_wp2_with fail
     go_ret3
     exact ⟨by rw [HR.out]; rfl, H2.out⟩
   ·have H1 := Lib.hid h1; clear h1
    have H1b := Lib.hid h2; clear h2
    have hO := HD.out wr
    cases hq : digA s.data.toList a with
    | none =>
     rw [hq] at hO
     have HO := Lib.hid hO; clear hO
     have HQ := Lib.hid hq; clear hq
     go_wp2_with fail
     refine HO.out.mono ?_
     rintro e y ⟨rfl, hb⟩
     have H2 := Lib.hid (HJ.out.trans (hb.mono HJ.out.size)); clear hb
     unfold rdT
     go_wp2_with fail
     go_roundw
     case rel => exact ⟨.inr (.inr (.inr ⟨rfl, H1.out, H1b.out, HQ.out⟩)), H2.out⟩
     case measure => simp [intOf]
    | some q =>
     obtain ⟨b, n⟩ := q
     rw [hq] at hO
     have HR : Hid (rdA p s.data.toList a = some (b, n)) := by rw [H3.out, H1.out, Option.none_or, H1b.out, Option.none_or, hq]; rfl
     obtain ⟨hn0, hn1⟩ := digA_n hq
     obtain ⟨ha0, ha1⟩ := rdA_bd HR.out
     rw [ba_len] at ha1
     have ha2 : a ≤ 1000000 := by omega
     have hn2 : (0 : Int) < n := by omega
     have HO := Lib.hid hO; clear hO hq
     go_wp2_with fail
     refine HO.out.mono ?_
     rintro e y ⟨rfl, hb⟩
     have H2 := Lib.hid (HJ.out.trans (hb.mono HJ.out.size)); clear hb
     unfold rdT
     go_wp2_with fail
     go_ret3
     exact ⟨by rw [HR.out]; rfl, H2.out⟩
   ·have HR : Hid (rdA p s.data.toList a = none) := by rw [H3.out, h1, h2, h3]; rfl
    clear h1 h2 h3
    go_wp2_with fail
    go_ret3
    exact ⟨by rw [HR.out]; rfl, HJ.out⟩
end Go.Proofs.YtnfkcdnkmcifbaaDoor
