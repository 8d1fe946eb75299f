/- Walks and plain laws: Ej Pb Wa Wb Wc. -/
import Derived.Test.YtnfkcdnkmcifbaaGreatDoorM04
import Derived.Test.YtnfkcdnkmcifbaaGreatDoorM01
namespace Go.Proofs.YtnfkcdnkmcifbaaGreatDoor
open Go.RowKit
set_option maxRecDepth 100000
set_option maxHeartbeats 4000000

theorem rd_alt {p : Int} (hp : isPl p = true) (l : List UInt8) (a : Int) : rdA p l a = (bareA p l a).or ((lettA l a).or (digA l a)) := by
 unfold rdA bareA lettA digA
 by_cases h : 0 ≤ a ∧ a < l.length
 ·rw [if_pos h, if_pos h, if_pos h, if_pos h, hp]
  cases hd : l.drop a.toNat with
  | nil => rfl
  | cons c t =>
   cases hs : spec p c with
   | false => rw [rd_bare hp hs]; simp [hs]
   | true =>
    by_cases hc : c = 92
    ·subst hc
     rw [rd_back hp]
     simp only [hs, Bool.not_true, Bool.and_false, Bool.false_eq_true, if_false, Option.none_or]
     cases t with
     | nil => rfl
     | cons d t =>
      simp only [beq_self_eq_true, if_true]
      unfold esc lett
      simp only []
      by_cases h1 : d = 110
      ·subst h1; rfl
      ·by_cases h2 : d = 114
       ·subst h2; rfl
       ·by_cases h3 : d = 116
        ·subst h3; rfl
        ·by_cases h4 : d = 92 ∨ d = 34 ∨ d = 93 ∨ d = 45
         ·rcases h4 with rfl | rfl | rfl | rfl <;> rfl
         ·have h5 : (d == 92 || d == 34 || d == 93 || d == 45) = false := by
           rw [Bool.eq_false_iff]; intro h; simp only [Bool.or_eq_true, beq_iff_eq] at h; exact h4 (by rcases h with ((h | h) | h) | h <;> simp [h])
          simp only [beq_iff_eq, h1, h2, h3, h5, if_false, Bool.false_eq_true, Option.none_or]
          by_cases h6 : d = 120
          ·subst h6
           match t with
           | [] => rfl
           | [_] => rfl
           | _ :: _ :: _ => rfl
          ·match t with
           | [] => simp [h6]
           | [_] => simp [h6]
           | _ :: _ :: _ => simp [h6]
    ·rw [rd_spec hp hs hc]
     simp only [hs, Bool.not_true, Bool.and_false, Bool.false_eq_true, if_false, Option.none_or]
     match t with
     | [] => rfl
     | [_] => simp [hc]
     | [_, _] => simp [hc]
     | _ :: _ :: _ :: _ => simp [hc]
 ·rw [if_neg h, if_neg h, if_neg h, if_neg h]; rfl
theorem bareA_n {p : Int} {l : List UInt8} {a : Int} {b : UInt8} {n : Nat} (h : bareA p l a = some (b, n)) : 0 < n ∧ n ≤ 4 := by
 unfold bareA at h
 split at h
 ·split at h
  ·split at h
   ·cases h; omega
   ·cases h
  ·cases h
 ·cases h
theorem lettA_n {l : List UInt8} {a : Int} {b : UInt8} {n : Nat} (h : lettA l a = some (b, n)) : 0 < n ∧ n ≤ 4 := by
 unfold lettA at h
 split at h
 ·split at h
  ·split at h
   ·unfold lett at h
    repeat' split at h
    all_goals first | (cases h; omega) | cases h
   ·cases h
  ·cases h
 ·cases h
theorem digA_n {l : List UInt8} {a : Int} {b : UInt8} {n : Nat} (h : digA l a = some (b, n)) : 0 < n ∧ n ≤ 4 := by
 unfold digA at h
 split at h
 ·split at h
  ·split at h
   ·split at h
    ·cases h; omega
    ·cases h
   ·cases h
  ·cases h
 ·cases h
theorem rdA_bd {p : Int} {l : List UInt8} {a : Int} {q : UInt8 × Nat} (h : rdA p l a = some q) : 0 ≤ a ∧ a < l.length := by
 unfold rdA at h
 split at h
 ·assumption
 ·cases h
theorem ix3_0 (x0 x1 x2 : Value) (w : World) : (Instr.index 105 (.agg #[x0, x1, x2]) (.int .i64 0)).run Tryz.prog w = .ok x0 w := by kernel_rfl
theorem ix3_1 (x0 x1 x2 : Value) (w : World) : (Instr.index 105 (.agg #[x0, x1, x2]) (.int .i64 1)).run Tryz.prog w = .ok x1 w := by kernel_rfl
theorem ix3_2 (x0 x1 x2 : Value) (w : World) : (Instr.index 105 (.agg #[x0, x1, x2]) (.int .i64 2)).run Tryz.prog w = .ok x2 w := by kernel_rfl
/-- How far a loop over the three readers has come. -/
def RdI (p : Int) (l : List UInt8) (a : Int) (i : Value) : Prop :=
 i = .int .i64 0 ∨ (i = .int .i64 1 ∧ bareA p l a = none) ∨ (i = .int .i64 2 ∧ bareA p l a = none ∧ lettA l a = none) ∨ (i = .int .i64 3 ∧ bareA p l a = none ∧ lettA l a = none ∧ digA l a = none)
theorem read_any (p : Int) (s : ByteArray) (a : Int) (w : World) (hs : s.size ≤ 1000000) : Calls Tryz.prog 44 #[.int .i64 p, .string s, .int .i64 a] w fun e w' => e = .returned (rdV a (rdA p s.data.toList a)) ∧ Below w.heap.size w w' := by
 have HN := named_any p w
 generalize nmd p = nm at HN
 cases hp : isPl p with
 | false =>
  have H3 := Lib.hid (rdA_no hp s.data.toList a)
  rw [hp] at HN
  clear hp
  go_enter Tryz.func44, Tryz.ntmps44
  go_wp2_with fail
  refine HN.mono ?_
  rintro e x ⟨rfl, rfl⟩
  go_wp2_with fail
  go_ret3
  exact ⟨by rw [H3.out]; rfl, Below.refl _ _⟩
 | true =>
  have H3 := Lib.hid (rd_alt hp s.data.toList a)
  rw [hp] at HN
  clear hp
  have i0 := ix3_0
  have i1 := ix3_1
  have i2 := ix3_2
  have HB := Lib.hid (fun x => rbare_any s a p x hs)
  have HL := Lib.hid (fun x => letter_any s a p x hs)
  have HD := Lib.hid (fun x => digits_any s a p x hs)
  go_enter Tryz.func44, Tryz.ntmps44
  go_wp2_with fail
  refine HN.mono ?_
  rintro e x ⟨rfl, rfl⟩
  go_wp2_with fail
  go_loopw [35] (fun i wr => Hid (RdI p s.data.toList a i ∧ Below x.heap.size x wr)) (fun i _ => 3 - (intOf i).toNat)
  case atStart => exact ⟨.inl rfl, (Below.refl _ _).alloc (Nat.le_refl _) _⟩
  case round =>
   obtain ⟨hI, hJ⟩ := hrel.out
   have HJ := Lib.hid hJ
   clear hrel hJ
   rcases hI with rfl | ⟨rfl, h1⟩ | ⟨rfl, h1, h2⟩ | ⟨rfl, h1, h2, h3⟩
   ·have hO := HB.out wr
    cases hq : bareA p s.data.toList a with
    | none =>
     rw [hq] at hO
     have HO := Lib.hid hO; clear hO
     have HQ := Lib.hid hq; clear hq
     go_wp2_with fail
     refine HO.out.mono ?_
     rintro e y ⟨rfl, hb⟩
     have H2 := Lib.hid (HJ.out.trans (hb.mono HJ.out.size)); clear hb
     unfold rdT
     go_wp2_with fail
     go_roundw
     case rel => exact ⟨.inr (.inl ⟨rfl, HQ.out⟩), H2.out⟩
     case measure => simp [intOf]
    | some q =>
     obtain ⟨b, n⟩ := q
     rw [hq] at hO
     have HR : Hid (rdA p s.data.toList a = some (b, n)) := by rw [H3.out, hq]; rfl
     obtain ⟨hn0, hn1⟩ := bareA_n hq
     obtain ⟨ha0, ha1⟩ := rdA_bd HR.out
     rw [ba_len] at ha1
     have ha2 : a ≤ 1000000 := by omega
     have hn2 : (0 : Int) < n := by omega
     have HO := Lib.hid hO; clear hO hq
     go_wp2_with fail
     refine HO.out.mono ?_
     rintro e y ⟨rfl, hb⟩
     have H2 := Lib.hid (HJ.out.trans (hb.mono HJ.out.size)); clear hb
     unfold rdT
     go_wp2_with fail
     go_ret3
     exact ⟨by rw [HR.out]; rfl, H2.out⟩
   ·have H1 := Lib.hid h1; clear h1
    have hO := HL.out wr
    cases hq : lettA s.data.toList a with
    | none =>
     rw [hq] at hO
     have HO := Lib.hid hO; clear hO
     have HQ := Lib.hid hq; clear hq
     go_wp2_with fail
     refine HO.out.mono ?_
     rintro e y ⟨rfl, hb⟩
     have H2 := Lib.hid (HJ.out.trans (hb.mono HJ.out.size)); clear hb
     unfold rdT
     go_wp2_with fail
     go_roundw
     case rel => exact ⟨.inr (.inr (.inl ⟨rfl, H1.out, HQ.out⟩)), H2.out⟩
     case measure => simp [intOf]
    | some q =>
     obtain ⟨b, n⟩ := q
     rw [hq] at hO
     have HR : Hid (rdA p s.data.toList a = some (b, n)) := by rw [H3.out, H1.out, Option.none_or, hq]; rfl
     obtain ⟨hn0, hn1⟩ := lettA_n hq
     obtain ⟨ha0, ha1⟩ := rdA_bd HR.out
     rw [ba_len] at ha1
     have ha2 : a ≤ 1000000 := by omega
     have hn2 : (0 : Int) < n := by omega
     have HO := Lib.hid hO; clear hO hq
     go_wp2_with fail
     refine HO.out.mono ?_
     rintro e y ⟨rfl, hb⟩
     have H2 := Lib.hid (HJ.out.trans (hb.mono HJ.out.size)); clear hb
     unfold rdT
     go_wp2_with fail
     go_ret3
     exact ⟨by rw [HR.out]; rfl, H2.out⟩
   ·have H1 := Lib.hid h1; clear h1
    have H1b := Lib.hid h2; clear h2
    have hO := HD.out wr
    cases hq : digA s.data.toList a with
    | none =>
     rw [hq] at hO
     have HO := Lib.hid hO; clear hO
     have HQ := Lib.hid hq; clear hq
     go_wp2_with fail
     refine HO.out.mono ?_
     rintro e y ⟨rfl, hb⟩
     have H2 := Lib.hid (HJ.out.trans (hb.mono HJ.out.size)); clear hb
     unfold rdT
     go_wp2_with fail
     go_roundw
     case rel => exact ⟨.inr (.inr (.inr ⟨rfl, H1.out, H1b.out, HQ.out⟩)), H2.out⟩
     case measure => simp [intOf]
    | some q =>
     obtain ⟨b, n⟩ := q
     rw [hq] at hO
     have HR : Hid (rdA p s.data.toList a = some (b, n)) := by rw [H3.out, H1.out, Option.none_or, H1b.out, Option.none_or, hq]; rfl
     obtain ⟨hn0, hn1⟩ := digA_n hq
     obtain ⟨ha0, ha1⟩ := rdA_bd HR.out
     rw [ba_len] at ha1
     have ha2 : a ≤ 1000000 := by omega
     have hn2 : (0 : Int) < n := by omega
     have HO := Lib.hid hO; clear hO hq
     go_wp2_with fail
     refine HO.out.mono ?_
     rintro e y ⟨rfl, hb⟩
     have H2 := Lib.hid (HJ.out.trans (hb.mono HJ.out.size)); clear hb
     unfold rdT
     go_wp2_with fail
     go_ret3
     exact ⟨by rw [HR.out]; rfl, H2.out⟩
   ·have HR : Hid (rdA p s.data.toList a = none) := by rw [H3.out, h1, h2, h3]; rfl
    clear h1 h2 h3
    go_wp2_with fail
    go_ret3
    exact ⟨by rw [HR.out]; rfl, HJ.out⟩
end Go.Proofs.YtnfkcdnkmcifbaaGreatDoor
namespace Go.Proofs.YtnfkcdnkmcifbaaGreatDoor

theorem esc_one {p : Int} (hp : isPl p = true) {t : List UInt8} {b : UInt8} {n : Nat} (h : esc t = some (b, n)) : (one p b).length ≤ n := by
  have h4 : (one p b).length ≤ 4 := by
    rcases spec_alt p hp with rfl | rfl
    · exact u8_all (P := fun c => (one 1 c).length ≤ 4) (by decide +kernel) b
    · exact u8_all (P := fun c => (one 2 c).length ≤ 4) (by decide +kernel) b
  have h2 : b = 10 ∨ b = 13 ∨ b = 9 ∨ b = 92 ∨ b = 34 ∨ b = 93 ∨ b = 45 → (one p b).length ≤ 2 := by
    rcases spec_alt p hp with rfl | rfl
    · exact u8_all (P := fun c => c = 10 ∨ c = 13 ∨ c = 9 ∨ c = 92 ∨ c = 34 ∨ c = 93 ∨ c = 45 → (one 1 c).length ≤ 2) (by decide +kernel) b
    · exact u8_all (P := fun c => c = 10 ∨ c = 13 ∨ c = 9 ∨ c = 92 ∨ c = 34 ∨ c = 93 ∨ c = 45 → (one 2 c).length ≤ 2) (by decide +kernel) b
  unfold esc at h
  split at h
  · cases h
  rename_i d t
  split at h; · cases h; exact h2 (by simp)
  split at h; · cases h; exact h2 (by simp)
  split at h; · cases h; exact h2 (by simp)
  split at h; · rename_i g; cases h; apply h2; simp at g; rcases g with ((g | g) | g) | g <;> simp [g]
  split at h
  · split at h
    · split at h
      · cases h; exact h4
      · cases h
    · cases h
  · cases h
theorem rd_one_le {p : Int} (hp : isPl p = true) {s : List UInt8} {b : UInt8} {n : Nat} (h : rd p s = some (b, n)) : (one p b).length ≤ n := by
  unfold rd at h
  split at h
  · cases h
  split at h; · cases h
  split at h
  · rename_i g1 g2; cases h
    unfold one
    rw [if_neg (by rw [hp]; decide), if_pos g2]; simp
  split at h
  · exact esc_one hp h
  · cases h
theorem decode_shorter {p : Int} (hp : isPl p = true) : ∀ (k : Nat) (s : List UInt8), s.length ≤ k → (all p (decode p s).1).length ≤ s.length
  | 0, s, h => by
    have : s = [] := List.eq_nil_of_length_eq_zero (by omega)
    subst this; simp [decode_nil, all_nil]
  | k + 1, s, h => by
    by_cases hs : s = []
    · subst hs; simp [decode_nil, all_nil]
    · cases hr : rd p s with
      | none => rw [decode_none hs hr]; simp [all_nil]
      | some q =>
        obtain ⟨b, n⟩ := q
        have hl := rd_len hr
        rw [decode_some hr]
        have ih := decode_shorter hp k (s.drop n) (by rw [List.length_drop]; omega)
        rw [List.length_drop] at ih
        have h1 := rd_one_le hp hr
        rw [all_cons, List.length_append]; omega

/-- Written bytes alone; the one that ends a place stands behind a backslash. -/
def tidy (e : UInt8) : UInt8 → List UInt8 → Bool
  | _, [] => true
  | q, c :: t => decide (32 ≤ c) && decide (c ≤ 126) && (c != e || q == 92) && tidy e c t
def lst : UInt8 → List UInt8 → UInt8
  | q, [] => q
  | _, c :: t => lst c t
theorem tidy_app (e : UInt8) : ∀ (a : List UInt8) (q : UInt8) (b : List UInt8), tidy e q (a ++ b) = (tidy e q a && tidy e (lst q a) b)
  | [], q, b => by simp [tidy, lst]
  | c :: a, q, b => by simp only [List.cons_append, tidy, lst, tidy_app e a c b, Bool.and_assoc]
/-- Nothing is asked of the byte ahead where no byte is the end. -/
theorem tidy_weak (e : UInt8) : ∀ (a : List UInt8) (q : UInt8), tidy e 0 a = true → tidy e q a = true
  | [], _, _ => rfl
  | c :: a, q, h => by
    simp only [tidy, Bool.and_eq_true, Bool.or_eq_true] at h ⊢
    refine ⟨⟨h.1.1, ?_⟩, h.2⟩
    rcases h.1.2 with g | g
    · exact .inl g
    · exact absurd g (by decide)
theorem tidy_one (c : UInt8) : tidy 34 0 (one 1 c) = true ∧ tidy 93 0 (one 2 c) = true :=
  u8_all (P := fun c => tidy 34 0 (one 1 c) = true ∧ tidy 93 0 (one 2 c) = true) (by decide +kernel) c
theorem tidy_all {p : Int} {e : UInt8} (h : (p = 1 ∧ e = 34) ∨ (p = 2 ∧ e = 93)) : ∀ (l : List UInt8) (q : UInt8), tidy e q (all p l) = true
  | [], _ => rfl
  | c :: l, q => by
    rw [all_cons, tidy_app, tidy_all h l _, Bool.and_true]
    apply tidy_weak
    rcases h with ⟨rfl, rfl⟩ | ⟨rfl, rfl⟩
    · exact (tidy_one c).1
    · exact (tidy_one c).2
theorem tidy_at {e : UInt8} : ∀ {t : List UInt8} {q : UInt8}, tidy e q t = true → ∀ (i : Nat) (c : UInt8), t[i]? = some c → 32 ≤ c ∧ c ≤ 126 ∧ (c = e → (i = 0 ∧ q = 92) ∨ (0 < i ∧ t[i - 1]? = some 92))
  | [], _, _, i, c, hc => by simp at hc
  | d :: t, q, h, 0, c, hc => by
    simp only [tidy, Bool.and_eq_true, Bool.or_eq_true, decide_eq_true_eq] at h
    simp only [List.getElem?_cons_zero, Option.some.injEq] at hc
    subst hc
    refine ⟨h.1.1.1, h.1.1.2, fun g => .inl ⟨rfl, ?_⟩⟩
    rcases h.1.2 with k | k
    · exact absurd g (by simpa using k)
    · simpa using k
  | d :: t, q, h, i + 1, c, hc => by
    simp only [tidy, Bool.and_eq_true] at h
    simp only [List.getElem?_cons_succ] at hc
    obtain ⟨h1, h2, h3⟩ := tidy_at h.2 i c hc
    refine ⟨h1, h2, fun g => .inr ⟨by omega, ?_⟩⟩
    rcases h3 g with ⟨rfl, hd⟩ | ⟨hi, hg⟩
    · simp [hd]
    · obtain ⟨j, rfl⟩ : ∃ j, i = j + 1 := ⟨i - 1, by omega⟩
      simpa using hg
/-- What EscapeBack asks of each byte that is written. -/
theorem all_at {p : Int} {e : UInt8} (h : (p = 1 ∧ e = 34) ∨ (p = 2 ∧ e = 93)) (l : List UInt8) (i : Nat) (c : UInt8) (hc : (all p l)[i]? = some c) :
    32 ≤ c ∧ c ≤ 126 ∧ (c = e → 0 < i ∧ (all p l)[i - 1]? = some 92) := by
  obtain ⟨h1, h2, h3⟩ := tidy_at (tidy_all h l 0) i c hc
  refine ⟨h1, h2, fun g => ?_⟩
  rcases h3 g with ⟨_, k⟩ | k
  · exact absurd k (by decide)
  · exact k
end Go.Proofs.YtnfkcdnkmcifbaaGreatDoor
namespace Go.Proofs.YtnfkcdnkmcifbaaGreatDoor

def isBl (c : UInt8) : Bool := c == 32 || c == 9 || c == 10 || c == 13
def isLt (c : UInt8) : Bool := (decide (97 ≤ c) && decide (c ≤ 122)) || (decide (65 ≤ c) && decide (c ≤ 90)) || c == 95
def isDg (c : UInt8) : Bool := decide (48 ≤ c) && decide (c ≤ 57)
/-- The signs of one byte. -/
def sgs : List UInt8 := [47, 40, 41, 46, 59, 42, 43, 63, 33, 38]
/-- How many bytes are blanks and remarks; is it within a remark? -/
def skp : Bool → List UInt8 → Nat
  | _, [] => 0
  | true, c :: t => 1 + skp (c != 10) t
  | false, c :: t => if isBl c then 1 + skp false t else if c == 35 then 1 + skp true t else 0
theorem skp_le : ∀ (l : List UInt8) (b : Bool), skp b l ≤ l.length
  | [], b => by cases b <;> simp [skp]
  | c :: l, true => by have := skp_le l (c != 10); simp only [skp, List.length_cons]; omega
  | c :: l, false => by
    have h1 := skp_le l false
    have h2 := skp_le l true
    simp only [skp, List.length_cons]
    split
    · omega
    · split <;> omega
/-- Behind them none begins. -/
theorem skp_idem : ∀ (l : List UInt8) (b : Bool), skp false (l.drop (skp b l)) = 0
  | [], b => by cases b <;> simp [skp]
  | c :: l, true => by
    simp only [skp]
    rw [Nat.add_comm, List.drop_succ_cons]
    exact skp_idem l _
  | c :: l, false => by
    simp only [skp]
    split
    · rw [Nat.add_comm, List.drop_succ_cons]; exact skp_idem l _
    · split
      · rw [Nat.add_comm, List.drop_succ_cons]; exact skp_idem l _
      · rename_i h1 h2
        simp only [List.drop_zero, skp]
        rw [if_neg h1, if_neg h2]
/-- A word, as far as it does not hang on where it stands. -/
structure Wr where
  kind : Nat
  n : Nat
  tx : List UInt8
  lv : Int
  cl : List (UInt8 × UInt8)
  deriving DecidableEq
/-- The number of digits. -/
def lvF (ds : List UInt8) : Int := ds.foldl (fun n c => 10 * n + ((c.toNat : Int) - 48)) 0
def lvl (ds : List UInt8) : Int := if 4 < ds.length then 9999 else lvF ds
def isLD (c : UInt8) : Bool := isLt c || isDg c
/-- A name, and its level. -/
def nameW (s : List UInt8) : Wr :=
  match s.dropWhile isLD with
  | c :: d :: t => if c == 58 && isDg d then ⟨2, (s.takeWhile isLD).length + 1 + ((d :: t).takeWhile isDg).length, s.takeWhile isLD, lvl ((d :: t).takeWhile isDg), []⟩ else ⟨2, (s.takeWhile isLD).length, s.takeWhile isLD, -1, []⟩
  | _ => ⟨2, (s.takeWhile isLD).length, s.takeWhile isLD, -1, []⟩
/-- A text behind its quote; how long it is, the quote behind it too. -/
def qd : Nat → List UInt8 → Option (List UInt8 × Nat)
  | _, [] => none
  | 0, _ :: _ => none
  | f + 1, c :: t => if c == 34 then some ([], 1) else match rd 1 (c :: t) with
    | none => none
    | some (b, n) => (qd f ((c :: t).drop n)).map fun q => (b :: q.1, n + q.2)
/-- A class behind its bracket: its ranges; how long it is. -/
def cd : Nat → List UInt8 → Option (List (UInt8 × UInt8) × Nat)
  | _, [] => none
  | 0, _ :: _ => none
  | f + 1, c :: t => if c == 93 then some ([], 1) else match rd 2 (c :: t) with
    | none => none
    | some (b, n) => match (c :: t).drop n with
      | [] => none
      | d :: u => if d == 45 then (match rd 2 u with
          | none => none
          | some (b2, m) => (cd f (u.drop m)).map fun q => ((b, b2) :: q.1, n + 1 + m + q.2))
        else (cd f (d :: u)).map fun q => ((b, b) :: q.1, n + q.2)
/-- The word that begins a text. -/
def wordR : List UInt8 → Option Wr
  | [] => some ⟨1, 0, [], 0, []⟩
  | c :: t => if isLt c then some (nameW (c :: t))
    else if c == 34 then (qd t.length t).map fun q => ⟨3, 1 + q.2, q.1, 0, []⟩
    else if c == 91 then (cd t.length t).map fun q => ⟨4, 1 + q.2, [], 0, q.1⟩
    else if c == 60 && t.head? == some 45 then some ⟨5, 2, [60, 45], 0, []⟩
    else if sgs.contains c then some ⟨5, 1, [c], 0, []⟩ else none
/-- A word where it stands. -/
structure Wd where
  kind : Nat
  at_ : Nat
  nx : Nat
  tx : List UInt8
  lv : Int
  cl : List (UInt8 × UInt8)
  deriving DecidableEq
def Wr.at (r : Wr) (k : Nat) : Wd := ⟨r.kind, k, k + r.n, r.tx, r.lv, r.cl⟩
/-- What stands from a place on. -/
def nextW (l : List UInt8) (k : Nat) : Option Wd := (wordR (l.drop (k + skp false (l.drop k)))).map fun r => r.at (k + skp false (l.drop k))
/-- The words from a place on; or where there is none. -/
def wordsF (l : List UInt8) : Nat → Nat → List Wd × Option Nat
  | 0, _ => ([], none)
  | f + 1, k => match nextW l k with
    | none => ([], some (k + skp false (l.drop k)))
    | some w => if w.kind = 1 then ([w], none) else (w :: (wordsF l f w.nx).1, (wordsF l f w.nx).2)

theorem qd_len : ∀ (f : Nat) (t : List UInt8) {b : List UInt8} {n : Nat}, qd f t = some (b, n) → 1 ≤ n ∧ n ≤ t.length
  | _, [], _, _, h => by simp [qd] at h
  | 0, _ :: _, _, _, h => by simp [qd] at h
  | f + 1, c :: t, b, n, h => by
    simp only [qd] at h
    split at h
    · simp only [Option.some.injEq, Prod.mk.injEq] at h; simp; omega
    · split at h
      · cases h
      · rename_i b1 n1 e
        have hl := rd_len e
        cases hq : qd f ((c :: t).drop n1) with
        | none => rw [hq] at h; cases h
        | some q =>
          rw [hq] at h
          have := qd_len f _ (b := q.1) (n := q.2) hq
          rw [List.length_drop] at this
          simp only [Option.map_some, Option.some.injEq, Prod.mk.injEq] at h
          omega
theorem cd_len : ∀ (f : Nat) (t : List UInt8) {b : List (UInt8 × UInt8)} {n : Nat}, cd f t = some (b, n) → 1 ≤ n ∧ n ≤ t.length
  | _, [], _, _, h => by simp [cd] at h
  | 0, _ :: _, _, _, h => by simp [cd] at h
  | f + 1, c :: t, b, n, h => by
    simp only [cd] at h
    split at h
    · simp only [Option.some.injEq, Prod.mk.injEq] at h; simp; omega
    · split at h
      · cases h
      · rename_i b1 n1 e
        have hl := rd_len e
        split at h
        · cases h
        · rename_i d u hd
          have hdl : (d :: u).length = (c :: t).length - n1 := by rw [← hd, List.length_drop]
          split at h
          · split at h
            · cases h
            · rename_i b2 m e2
              have hl2 := rd_len e2
              cases hq : cd f (u.drop m) with
              | none => rw [hq] at h; cases h
              | some q =>
                rw [hq] at h
                have := cd_len f _ (b := q.1) (n := q.2) hq
                rw [List.length_drop] at this
                simp only [Option.map_some, Option.some.injEq, Prod.mk.injEq] at h
                simp only [List.length_cons] at hdl
                simp only [List.length_cons]
                omega
          · cases hq : cd f (d :: u) with
            | none => rw [hq] at h; cases h
            | some q =>
              rw [hq] at h
              have := cd_len f _ (b := q.1) (n := q.2) hq
              simp only [Option.map_some, Option.some.injEq, Prod.mk.injEq] at h
              omega
theorem tw_le {α : Type} (p : α → Bool) : ∀ l : List α, (l.takeWhile p).length + (l.dropWhile p).length = l.length
  | [] => rfl
  | x :: l => by
    have := tw_le p l
    simp only [List.takeWhile_cons, List.dropWhile_cons]
    split <;> simp <;> omega
theorem nameW_len {c : UInt8} {t : List UInt8} (hc : isLt c = true) : (nameW (c :: t)).kind = 2 ∧ 1 ≤ (nameW (c :: t)).n ∧ (nameW (c :: t)).n ≤ (c :: t).length := by
  have h1 : 1 ≤ ((c :: t).takeWhile isLD).length := by
    rw [List.takeWhile_cons, if_pos (by unfold isLD; rw [hc]; rfl)]; simp
  have h2 := tw_le isLD (c :: t)
  unfold nameW
  split
  · rename_i x y u hd
    rw [hd, List.length_cons] at h2
    split
    · have h3 := tw_le isDg (y :: u)
      exact ⟨rfl, by show 1 ≤ _ + 1 + _; omega, by show _ + 1 + _ ≤ _; omega⟩
    · exact ⟨rfl, h1, by show List.length _ ≤ _; omega⟩
  · exact ⟨rfl, h1, by show List.length _ ≤ _; omega⟩
theorem wordR_len {s : List UInt8} {r : Wr} (h : wordR s = some r) : r.n ≤ s.length ∧ 1 ≤ r.kind ∧ r.kind ≤ 5 ∧ (r.n = 0 ↔ r.kind = 1) ∧ (r.kind = 1 ↔ s = []) := by
  cases s with
  | nil => simp only [wordR, Option.some.injEq] at h; subst h; simp
  | cons c t =>
    simp only [wordR] at h
    split at h
    · rename_i hc
      obtain ⟨h1, h2, h3⟩ := nameW_len (t := t) hc
      simp only [Option.some.injEq] at h; subst h
      refine ⟨h3, by omega, by omega, ⟨by omega, by omega⟩, ⟨by omega, fun h => by cases h⟩⟩
    · split at h
      · cases hq : qd t.length t with
        | none => rw [hq] at h; cases h
        | some q =>
          rw [hq] at h
          have := qd_len _ _ (b := q.1) (n := q.2) hq
          simp only [Option.map_some, Option.some.injEq] at h; subst h
          simp only [List.length_cons]
          refine ⟨by omega, by omega, by omega, ⟨by omega, by omega⟩, ⟨by omega, fun h => by cases h⟩⟩
      · split at h
        · cases hq : cd t.length t with
          | none => rw [hq] at h; cases h
          | some q =>
            rw [hq] at h
            have := cd_len _ _ (b := q.1) (n := q.2) hq
            simp only [Option.map_some, Option.some.injEq] at h; subst h
            simp only [List.length_cons]
            refine ⟨by omega, by omega, by omega, ⟨by omega, by omega⟩, ⟨by omega, fun h => by cases h⟩⟩
        · split at h
          · rename_i hh
            simp only [Option.some.injEq] at h; subst h
            cases t with
            | nil => simp at hh
            | cons d u => simp
          · split at h
            · simp only [Option.some.injEq] at h; subst h; simp
            · cases h
end Go.Proofs.YtnfkcdnkmcifbaaGreatDoor
namespace Go.Proofs.YtnfkcdnkmcifbaaGreatDoor

theorem nextW_some {l : List UInt8} {k : Nat} {w : Wd} (h : nextW l k = some w) (hk : k ≤ l.length) :
    w.at_ = k + skp false (l.drop k) ∧ k ≤ w.at_ ∧ w.at_ ≤ w.nx ∧ w.nx ≤ l.length ∧ 1 ≤ w.kind ∧ w.kind ≤ 5 ∧ (w.nx = w.at_ ↔ w.kind = 1) ∧ (w.kind = 1 ↔ w.at_ = l.length) := by
  unfold nextW at h
  have hs := skp_le (l.drop k) false
  rw [List.length_drop] at hs
  generalize skp false (l.drop k) = s at *
  cases hr : wordR (l.drop (k + s)) with
  | none => rw [hr] at h; cases h
  | some r =>
    rw [hr] at h
    simp only [Option.map_some, Option.some.injEq] at h
    subst h
    obtain ⟨h1, h2, h3, h4, h5⟩ := wordR_len hr
    rw [List.length_drop] at h1
    have h6 : l.drop (k + s) = [] ↔ k + s = l.length := by rw [List.drop_eq_nil_iff]; omega
    simp only [Wr.at]
    refine ⟨trivial, by omega, by omega, by omega, h2, h3, ⟨fun e => h4.1 (by omega), fun e => by have := h4.2 e; omega⟩, h5.trans h6⟩
/-- Words one behind the other, up to the end. -/
def Chain (l : List UInt8) : Nat → List Wd → Prop
  | _, [] => False
  | k, w :: ws => nextW l k = some w ∧ ((w.kind = 1 ∧ ws = []) ∨ (w.kind ≠ 1 ∧ Chain l w.nx ws))
theorem wordsF_ok {l : List UInt8} : ∀ (f k : Nat), k ≤ l.length → l.length < f + k → (wordsF l f k).2 = none → Chain l k (wordsF l f k).1
  | 0, k, hk, hf, _ => by omega
  | f + 1, k, hk, hf, h => by
    simp only [wordsF] at h ⊢
    cases hw : nextW l k with
    | none => rw [hw] at h; cases h
    | some w =>
      rw [hw] at h
      simp only [] at h ⊢
      obtain ⟨h1, h2, h3, h4, h5, h6, h7, h8⟩ := nextW_some hw hk
      by_cases hc : w.kind = 1
      · rw [if_pos hc]; exact ⟨hw, .inl ⟨hc, rfl⟩⟩
      · rw [if_neg hc] at h ⊢
        have : w.at_ ≠ w.nx := fun e => hc (h7.1 e.symm)
        exact ⟨hw, .inr ⟨hc, wordsF_ok f w.nx h4 (by omega) h⟩⟩
theorem wordsF_err {l : List UInt8} {e : Nat} : ∀ (f k : Nat), k ≤ l.length → l.length < f + k → (wordsF l f k).2 = some e → e < l.length ∧ skp false (l.drop e) = 0 ∧ nextW l e = none
  | 0, k, hk, hf, _ => by omega
  | f + 1, k, hk, hf, h => by
    simp only [wordsF] at h
    cases hw : nextW l k with
    | none =>
      rw [hw] at h
      simp only [Option.some.injEq] at h
      have hs := skp_le (l.drop k) false
      rw [List.length_drop] at hs
      have hi := skp_idem (l.drop k) false
      rw [List.drop_drop, h] at hi
      unfold nextW at hw
      rw [h] at hw
      have hw2 : wordR (l.drop e) = none := by cases hr : wordR (l.drop e) with
        | none => rfl
        | some r => rw [hr] at hw; cases hw
      refine ⟨?_, hi, ?_⟩
      · rcases Nat.lt_or_ge e l.length with h9 | h9
        · exact h9
        · rw [List.drop_eq_nil_of_le h9] at hw2; cases hw2
      · unfold nextW; rw [hi, Nat.add_zero, hw2]; rfl
    | some w =>
      rw [hw] at h
      simp only [] at h
      obtain ⟨h1, h2, h3, h4, h5, h6, h7, h8⟩ := nextW_some hw hk
      by_cases hc : w.kind = 1
      · rw [if_pos hc] at h; cases h
      · rw [if_neg hc] at h
        have : w.at_ ≠ w.nx := fun e => hc (h7.1 e.symm)
        exact wordsF_err f w.nx h4 (by omega) h
theorem wordsF_fuel {l : List UInt8} : ∀ (f g k : Nat), k ≤ l.length → l.length < f + k → l.length < g + k → wordsF l f k = wordsF l g k
  | 0, g, k, hk, hf, hg => by omega
  | f + 1, 0, k, hk, hf, hg => by omega
  | f + 1, g + 1, k, hk, hf, hg => by
    simp only [wordsF]
    cases hw : nextW l k with
    | none => rfl
    | some w =>
      simp only []
      obtain ⟨h1, h2, h3, h4, h5, h6, h7, h8⟩ := nextW_some hw hk
      by_cases hc : w.kind = 1
      · rw [if_pos hc, if_pos hc]
      · rw [if_neg hc, if_neg hc]
        have : w.at_ ≠ w.nx := fun e => hc (h7.1 e.symm)
        rw [wordsF_fuel f g w.nx h4 (by omega) (by omega)]
/-- The words of a text, or where there is none. -/
def wordsOf (l : List UInt8) : List Wd × Option Nat := wordsF l (l.length + 1) 0

/-! ### Two texts -/
/-- A byte that goes on no word. -/
def Dlm (x : UInt8) : Prop := x = 10 ∨ x = 32
theorem Dlm.ld {x : UInt8} (h : Dlm x) : isLD x = false ∧ isDg x = false ∧ x ≠ 58 ∧ x ≠ 45 := by rcases h with rfl | rfl <;> decide
theorem tw_app {p : UInt8 → Bool} {x : UInt8} (hx : p x = false) (u : List UInt8) : ∀ s : List UInt8, (s ++ x :: u).takeWhile p = s.takeWhile p ∧ (s ++ x :: u).dropWhile p = s.dropWhile p ++ x :: u
  | [] => by simp [hx]
  | c :: s => by
    have ih := tw_app hx u s
    simp only [List.cons_append, List.takeWhile_cons, List.dropWhile_cons]
    split
    · exact ⟨by rw [ih.1], ih.2⟩
    · exact ⟨rfl, rfl⟩
theorem nameW_app {x : UInt8} (hx : Dlm x) (u s : List UInt8) : nameW (s ++ x :: u) = nameW s := by
  obtain ⟨h1, h2, h3, h4⟩ := hx.ld
  obtain ⟨e1, e2⟩ := tw_app h1 u s
  unfold nameW
  rw [e1, e2]
  generalize s.takeWhile isLD = a
  match s.dropWhile isLD with
  | [] =>
    simp only [List.nil_append]
    cases u with
    | nil => rfl
    | cons y v => simp [h3]
  | [c] => simp [h2]
  | c :: d :: t =>
    simp only [List.cons_append]
    have e3 := (tw_app h2 u (d :: t)).1
    simp only [List.cons_append] at e3
    rw [e3]
theorem qd_app : ∀ (f g : Nat) (s u : List UInt8) {q : List UInt8 × Nat}, f ≤ g → qd f s = some q → qd g (s ++ u) = some q
  | _, _, [], _, _, _, h => by simp [qd] at h
  | 0, _, _ :: _, _, _, _, h => by simp [qd] at h
  | f + 1, 0, _ :: _, _, _, hg, _ => by omega
  | f + 1, g + 1, c :: t, u, q, hg, h => by
    simp only [List.cons_append]
    unfold qd at h ⊢
    split at h
    · rename_i hc; rw [if_pos hc]; exact h
    · rename_i hc
      rw [if_neg hc]
      split at h
      · cases h
      · rename_i b n e
        have hl := rd_len e
        have e2 := rd_app u e
        rw [List.cons_append] at e2
        rw [e2]
        simp only []
        cases hq : qd f ((c :: t).drop n) with
        | none => rw [hq] at h; cases h
        | some q2 =>
          rw [hq] at h
          have hd : (c :: (t ++ u)).drop n = (c :: t).drop n ++ u := by rw [← List.cons_append, List.drop_append_of_le_length hl.2]
          rw [hd, qd_app f g _ u (by omega) hq]
          exact h
theorem cd_app : ∀ (f g : Nat) (s u : List UInt8) {q : List (UInt8 × UInt8) × Nat}, f ≤ g → cd f s = some q → cd g (s ++ u) = some q
  | _, _, [], _, _, _, h => by simp [cd] at h
  | 0, _, _ :: _, _, _, _, h => by simp [cd] at h
  | f + 1, 0, _ :: _, _, _, hg, _ => by omega
  | f + 1, g + 1, c :: t, u, q, hg, h => by
    simp only [List.cons_append]
    unfold cd at h ⊢
    split at h
    · rename_i hc; rw [if_pos hc]; exact h
    · rename_i hc
      rw [if_neg hc]
      split at h
      · cases h
      · rename_i b n e
        have hl := rd_len e
        have e2 := rd_app u e
        rw [List.cons_append] at e2
        rw [e2]
        have hd : (c :: (t ++ u)).drop n = (c :: t).drop n ++ u := by rw [← List.cons_append, List.drop_append_of_le_length hl.2]
        simp only []
        rw [hd]
        split at h
        · cases h
        · rename_i d v hv
          rw [hv]
          simp only [List.cons_append]
          split at h
          · rename_i h45
            rw [if_pos h45]
            split at h
            · cases h
            · rename_i b2 m e3
              have hl3 := rd_len e3
              rw [rd_app u e3]
              simp only []
              cases hq : cd f (v.drop m) with
              | none => rw [hq] at h; cases h
              | some q2 =>
                rw [hq] at h
                rw [List.drop_append_of_le_length hl3.2, cd_app f g _ u (by omega) hq]
                exact h
          · rename_i h45
            rw [if_neg h45]
            cases hq : cd f (d :: v) with
            | none => rw [hq] at h; cases h
            | some q2 =>
              rw [hq] at h
              have := cd_app f g _ u (by omega) hq
              rw [List.cons_append] at this
              rw [this]
              exact h
theorem wordR_app {x : UInt8} (hx : Dlm x) (u : List UInt8) {s : List UInt8} {r : Wr} (hs : s ≠ []) (h : wordR s = some r) : wordR (s ++ x :: u) = some r := by
  cases s with
  | nil => exact absurd rfl hs
  | cons c t =>
    simp only [List.cons_append]
    unfold wordR at h ⊢
    simp only [] at h ⊢
    split at h
    · rename_i hc
      rw [if_pos hc]
      have := nameW_app hx u (c :: t)
      rw [List.cons_append] at this
      rw [this]; exact h
    · rename_i hc
      rw [if_neg hc]
      split at h
      · rename_i h34
        rw [if_pos h34]
        cases hq : qd t.length t with
        | none => rw [hq] at h; cases h
        | some q =>
          rw [hq] at h
          rw [qd_app t.length _ t (x :: u) (by simp) hq]
          exact h
      · rename_i h34
        rw [if_neg h34]
        split at h
        · rename_i h91
          rw [if_pos h91]
          cases hq : cd t.length t with
          | none => rw [hq] at h; cases h
          | some q =>
            rw [hq] at h
            rw [cd_app t.length _ t (x :: u) (by simp) hq]
            exact h
        · rename_i h91
          rw [if_neg h91]
          have hh : (t ++ x :: u).head? = some 45 ↔ t.head? = some 45 := by
            cases t with
            | nil => simp [hx.ld.2.2.2]
            | cons d v => simp
          have hb : ((t ++ x :: u).head? == some 45) = (t.head? == some 45) := by
            rw [Bool.eq_iff_iff]; simpa using hh
          rw [hb]
          exact h
theorem skp_app : ∀ (s : List UInt8) (b : Bool) (u : List UInt8), (skp b s < s.length → skp b (s ++ u) = skp b s) ∧ (skp b s = s.length → ∃ b', skp b (s ++ u) = s.length + skp b' u)
  | [], b, u => ⟨fun h => by simp at h, fun _ => ⟨b, by simp⟩⟩
  | c :: s, true, u => by
    obtain ⟨h1, h2⟩ := skp_app s (c != 10) u
    simp only [List.cons_append, skp, List.length_cons]
    refine ⟨fun h => by rw [h1 (by omega)], fun h => ?_⟩
    obtain ⟨b', e⟩ := h2 (by omega)
    exact ⟨b', by rw [e]; omega⟩
  | c :: s, false, u => by
    obtain ⟨h1, h2⟩ := skp_app s false u
    obtain ⟨h3, h4⟩ := skp_app s true u
    simp only [List.cons_append, skp, List.length_cons]
    split
    · refine ⟨fun h => by rw [h1 (by omega)], fun h => ?_⟩
      obtain ⟨b', e⟩ := h2 (by omega)
      exact ⟨b', by rw [e]; omega⟩
    · split
      · refine ⟨fun h => by rw [h3 (by omega)], fun h => ?_⟩
        obtain ⟨b', e⟩ := h4 (by omega)
        exact ⟨b', by rw [e]; omega⟩
      · exact ⟨fun _ => rfl, fun h => by omega⟩
end Go.Proofs.YtnfkcdnkmcifbaaGreatDoor
namespace Go.Proofs.YtnfkcdnkmcifbaaGreatDoor

/-- A word, so much further on. -/
def Wd.far (n : Nat) (w : Wd) : Wd := { w with at_ := n + w.at_, nx := n + w.nx }
/-- What may stand between two texts. -/
structure Gap (g : List UInt8) : Prop where
  hd : ∃ x u, g = x :: u ∧ Dlm x
  sk : ∀ (b : Bool) (u : List UInt8), skp b (g ++ u) = g.length + skp false u
theorem nextW_far (p l : List UInt8) (k : Nat) : nextW (p ++ l) (p.length + k) = (nextW l k).map (Wd.far p.length) := by
  unfold nextW
  have e1 : (p ++ l).drop (p.length + k) = l.drop k := by rw [← List.drop_drop, List.drop_left]
  have e2 : (p ++ l).drop (p.length + k + skp false (l.drop k)) = l.drop (k + skp false (l.drop k)) := by rw [Nat.add_assoc, ← List.drop_drop, List.drop_left]
  rw [e1, e2]
  cases wordR (l.drop (k + skp false (l.drop k))) with
  | none => rfl
  | some r => simp only [Option.map_some, Wr.at, Wd.far, Option.some.injEq, Wd.mk.injEq, true_and, and_true]; exact ⟨by omega, by omega⟩
theorem wordsF_far (p l : List UInt8) : ∀ (f k : Nat), wordsF (p ++ l) f (p.length + k) = ((wordsF l f k).1.map (Wd.far p.length), (wordsF l f k).2.map (p.length + ·))
  | 0, k => rfl
  | f + 1, k => by
    simp only [wordsF]
    rw [nextW_far]
    cases hw : nextW l k with
    | none =>
      have e1 : (p ++ l).drop (p.length + k) = l.drop k := by rw [← List.drop_drop, List.drop_left]
      simp only [Option.map_none, List.map_nil, Option.map_some, e1, Nat.add_assoc]
    | some w =>
      simp only [Option.map_some]
      have e : (Wd.far p.length w).kind = w.kind := rfl
      rw [e]
      by_cases hc : w.kind = 1
      · rw [if_pos hc, if_pos hc]; rfl
      · rw [if_neg hc, if_neg hc]
        have e2 : (Wd.far p.length w).nx = p.length + w.nx := rfl
        rw [e2, wordsF_far p l f w.nx]
        rfl
theorem nextW_in {a g : List UInt8} (hg : Gap g) (b : List UInt8) {k : Nat} {w : Wd} (hk : k ≤ a.length) (h : nextW a k = some w) (hc : w.kind ≠ 1) : nextW (a ++ (g ++ b)) k = some w := by
  obtain ⟨h1, h2, h3, h4, h5, h6, h7, h8⟩ := nextW_some h hk
  have hlt : w.at_ < a.length := by
    have : w.at_ ≠ a.length := fun e => hc (h8.2 e)
    omega
  obtain ⟨x, u, rfl, hx⟩ := hg.hd
  unfold nextW at h ⊢
  have hd : (a ++ (x :: u ++ b)).drop k = a.drop k ++ (x :: u ++ b) := List.drop_append_of_le_length hk
  have hsk : skp false ((a ++ (x :: u ++ b)).drop k) = skp false (a.drop k) := by
    rw [hd]
    exact (skp_app (a.drop k) false (x :: u ++ b)).1 (by rw [List.length_drop]; omega)
  rw [hsk]
  generalize hs : skp false (a.drop k) = s at *
  have hd2 : (a ++ (x :: u ++ b)).drop (k + s) = a.drop (k + s) ++ x :: (u ++ b) := List.drop_append_of_le_length (by omega)
  rw [hd2]
  cases hr : wordR (a.drop (k + s)) with
  | none => rw [hr] at h; cases h
  | some r =>
    rw [hr] at h
    rw [wordR_app hx (u ++ b) (by rw [Ne, List.drop_eq_nil_iff]; omega) hr]
    exact h
theorem nextW_out {a g : List UInt8} (hg : Gap g) (b : List UInt8) {k : Nat} {w : Wd} (hk : k ≤ a.length) (h : nextW a k = some w) (hc : w.kind = 1) :
    nextW (a ++ (g ++ b)) k = (nextW b 0).map (Wd.far (a.length + g.length)) ∧ k + skp false ((a ++ (g ++ b)).drop k) = a.length + g.length + skp false b := by
  obtain ⟨h1, h2, h3, h4, h5, h6, h7, h8⟩ := nextW_some h hk
  have hat := h8.1 hc
  have hsl : skp false (a.drop k) = (a.drop k).length := by rw [List.length_drop]; omega
  obtain ⟨b', e⟩ := (skp_app (a.drop k) false (g ++ b)).2 hsl
  rw [hg.sk, List.length_drop] at e
  have hd : (a ++ (g ++ b)).drop k = a.drop k ++ (g ++ b) := List.drop_append_of_le_length hk
  have hsk : k + skp false ((a ++ (g ++ b)).drop k) = a.length + g.length + skp false b := by rw [hd, e]; omega
  refine ⟨?_, hsk⟩
  have hf := nextW_far (a ++ g) b 0
  rw [Nat.add_zero, List.length_append, List.append_assoc] at hf
  rw [← hf]
  unfold nextW
  have hd3 : (a ++ (g ++ b)).drop (a.length + g.length) = b := by rw [← List.append_assoc, ← List.length_append, List.drop_left]
  rw [hsk, hd3]
theorem join_words {a g : List UInt8} (hg : Gap g) (b : List UInt8) : ∀ (ws : List Wd) (k f : Nat), k ≤ a.length → Chain a k ws → (a ++ (g ++ b)).length < f + k →
    wordsF (a ++ (g ++ b)) f k = (ws.dropLast ++ (wordsOf b).1.map (Wd.far (a.length + g.length)), (wordsOf b).2.map (a.length + g.length + ·))
  | [], k, f, _, h, _ => h.elim
  | w :: ws, k, 0, hk, h, hf => by simp only [List.length_append] at hf; omega
  | w :: ws, k, f + 1, hk, h, hf => by
    obtain ⟨hw, hc⟩ := h
    obtain ⟨h1, h2, h3, h4, h5, h6, h7, h8⟩ := nextW_some hw hk
    rcases hc with ⟨hc, rfl⟩ | ⟨hc, hch⟩
    · obtain ⟨e1, e2⟩ := nextW_out hg b hk hw hc
      have hfar := wordsF_far (a ++ g) b (f + 1) 0
      rw [Nat.add_zero, List.length_append, List.append_assoc] at hfar
      have hfu := wordsF_fuel (l := b) (f + 1) (b.length + 1) 0 (by omega) (by simp only [List.length_append] at hf; omega) (by omega)
      unfold wordsOf
      rw [← hfu, List.dropLast_singleton, List.nil_append, ← hfar]
      -- the first word behind the end of a is b's first
      have hne := nextW_far (a ++ g) b 0
      rw [Nat.add_zero, List.length_append, List.append_assoc] at hne
      have hsk2 : (a.length + g.length) + skp false ((a ++ (g ++ b)).drop (a.length + g.length)) = a.length + g.length + skp false b := by
        rw [← List.append_assoc, ← List.length_append, List.drop_left]
      simp only [wordsF]
      rw [e1, ← hne, e2]
      simp only [Nat.add_zero]
      rw [hsk2]
    · have hne : ws ≠ [] := fun e => by subst e; exact hch
      simp only [wordsF]
      rw [nextW_in hg b hk hw hc]
      simp only []
      rw [if_neg hc]
      have hlt : w.at_ ≠ w.nx := fun e => hc (h7.1 e.symm)
      rw [join_words hg b ws w.nx f h4 hch (by omega), List.dropLast_cons_of_ne_nil hne]
      rfl
theorem gap_ok (i : Nat) (hi : i < 4) : Gap (match i with | 0 => [10] | 1 => [10, 32, 9, 13] | 2 => [10, 35, 120, 10] | _ => [32, 10, 35, 10, 10]) := by
  match i, hi with
  | 0, _ => exact ⟨⟨_, _, rfl, .inl rfl⟩, fun b u => by cases b <;> simp [skp, isBl]⟩
  | 1, _ => exact ⟨⟨_, _, rfl, .inl rfl⟩, fun b u => by cases b <;> simp [skp, isBl] <;> omega⟩
  | 2, _ => exact ⟨⟨_, _, rfl, .inl rfl⟩, fun b u => by cases b <;> simp [skp, isBl] <;> omega⟩
  | 3, _ => exact ⟨⟨_, _, rfl, .inr rfl⟩, fun b u => by cases b <;> simp [skp, isBl] <;> omega⟩
end Go.Proofs.YtnfkcdnkmcifbaaGreatDoor
