/- Walks and plain laws: We V8. -/
import Derived.Test.YtnfkcdnkmcifbaaGreatDoorM06
import Derived.Test.YtnfkcdnkmcifbaaGreatDoorM08
import Derived.Test.YtnfkcdnkmcifbaaGreatDoorM02
import Derived.Test.YtnfkcdnkmcifbaaGreatDoorM03
namespace Go.Proofs.YtnfkcdnkmcifbaaGreatDoor

theorem qd_fuel : ∀ (f g : Nat) (l : List UInt8), l.length ≤ f → l.length ≤ g → qd f l = qd g l
  | f, g, [], _, _ => by cases f <;> cases g <;> rfl
  | 0, _, _ :: _, h, _ => by simp at h
  | _, 0, _ :: _, _, h => by simp at h
  | f + 1, g + 1, c :: t, hf, hg => by
    unfold qd
    split
    · rfl
    · cases hr : rd 1 (c :: t) with
      | none => rfl
      | some q =>
        obtain ⟨b, n⟩ := q
        have hl := rd_len hr
        simp only []
        simp only [List.length_cons] at hf hg hl
        rw [qd_fuel f g ((c :: t).drop n) (by rw [List.length_drop, List.length_cons]; omega) (by rw [List.length_drop, List.length_cons]; omega)]
theorem cd_fuel : ∀ (f g : Nat) (l : List UInt8), l.length ≤ f → l.length ≤ g → cd f l = cd g l
  | f, g, [], _, _ => by cases f <;> cases g <;> rfl
  | 0, _, _ :: _, h, _ => by simp at h
  | _, 0, _ :: _, _, h => by simp at h
  | f + 1, g + 1, c :: t, hf, hg => by
    unfold cd
    split
    · rfl
    · cases hr : rd 2 (c :: t) with
      | none => rfl
      | some q =>
        obtain ⟨b, n⟩ := q
        have hl := rd_len hr
        simp only []
        simp only [List.length_cons] at hf hg hl
        cases hd : (c :: t).drop n with
        | nil => rfl
        | cons d u =>
          have hdl : (d :: u).length = (c :: t).length - n := by rw [← hd, List.length_drop]
          simp only [List.length_cons] at hdl
          simp only []
          split
          · cases hr2 : rd 2 u with
            | none => rfl
            | some q2 =>
              obtain ⟨b2, m⟩ := q2
              simp only []
              rw [cd_fuel f g (u.drop m) (by rw [List.length_drop]; omega) (by rw [List.length_drop]; omega)]
          · rw [cd_fuel f g (d :: u) (by rw [List.length_cons]; omega) (by rw [List.length_cons]; omega)]
/-- A text behind its quote; a class behind its bracket. -/
def qdS (l : List UInt8) : Option (List UInt8 × Nat) := qd l.length l
def cdS (l : List UInt8) : Option (List (UInt8 × UInt8) × Nat) := cd l.length l
theorem qd_nil : qdS [] = none := rfl
theorem qd_close (t : List UInt8) : qdS (34 :: t) = some ([], 1) := rfl
theorem qd_bad {c : UInt8} {t : List UInt8} (hc : c ≠ 34) (h : rd 1 (c :: t) = none) : qdS (c :: t) = none := by
  unfold qdS; rw [List.length_cons]; unfold qd
  rw [if_neg (by simpa using hc), h]
theorem qd_step {c b : UInt8} {n : Nat} {t : List UInt8} (hc : c ≠ 34) (h : rd 1 (c :: t) = some (b, n)) : qdS (c :: t) = (qdS ((c :: t).drop n)).map fun q => (b :: q.1, n + q.2) := by
  have hl := rd_len h
  unfold qdS; rw [List.length_cons]; conv => lhs; unfold qd
  rw [if_neg (by simpa using hc), h]
  simp only []
  rw [qd_fuel t.length _ ((c :: t).drop n) (by rw [List.length_drop, List.length_cons]; omega) (Nat.le_refl _)]
theorem cd_nil : cdS [] = none := rfl
theorem cd_close (t : List UInt8) : cdS (93 :: t) = some ([], 1) := rfl
theorem cd_bad {c : UInt8} {t : List UInt8} (hc : c ≠ 93) (h : rd 2 (c :: t) = none) : cdS (c :: t) = none := by
  unfold cdS; rw [List.length_cons]; unfold cd
  rw [if_neg (by simpa using hc), h]
theorem cd_end {c b : UInt8} {n : Nat} {t : List UInt8} (hc : c ≠ 93) (h : rd 2 (c :: t) = some (b, n)) (hd : (c :: t).drop n = []) : cdS (c :: t) = none := by
  unfold cdS; rw [List.length_cons]; unfold cd
  rw [if_neg (by simpa using hc), h]
  simp only []
  rw [hd]
theorem cd_one {c b d : UInt8} {n : Nat} {t u : List UInt8} (hc : c ≠ 93) (h : rd 2 (c :: t) = some (b, n)) (hd : (c :: t).drop n = d :: u) (h5 : d ≠ 45) : cdS (c :: t) = (cdS (d :: u)).map fun q => ((b, b) :: q.1, n + q.2) := by
  have hl := rd_len h
  have hdl : (d :: u).length = (c :: t).length - n := by rw [← hd, List.length_drop]
  unfold cdS; conv => lhs; rw [List.length_cons]; unfold cd
  rw [if_neg (by simpa using hc), h]
  simp only []
  rw [hd]
  simp only []
  rw [if_neg (by simpa using h5), cd_fuel t.length _ (d :: u) (by rw [hdl, List.length_cons]; omega) (Nat.le_refl _)]
theorem cd_bad2 {c b : UInt8} {n : Nat} {t u : List UInt8} (hc : c ≠ 93) (h : rd 2 (c :: t) = some (b, n)) (hd : (c :: t).drop n = 45 :: u) (h2 : rd 2 u = none) : cdS (c :: t) = none := by
  unfold cdS; rw [List.length_cons]; unfold cd
  rw [if_neg (by simpa using hc), h]
  simp only []
  rw [hd]
  simp only []
  rw [if_pos (by decide), h2]
theorem cd_two {c b b2 : UInt8} {n m : Nat} {t u : List UInt8} (hc : c ≠ 93) (h : rd 2 (c :: t) = some (b, n)) (hd : (c :: t).drop n = 45 :: u) (h2 : rd 2 u = some (b2, m)) : cdS (c :: t) = (cdS (u.drop m)).map fun q => ((b, b2) :: q.1, n + 1 + m + q.2) := by
  have hl := rd_len h
  have hdl : (45 :: u).length = (c :: t).length - n := by rw [← hd, List.length_drop]
  simp only [List.length_cons] at hdl
  unfold cdS; conv => lhs; rw [List.length_cons]; unfold cd
  rw [if_neg (by simpa using hc), h]
  simp only []
  rw [hd]
  simp only []
  rw [if_pos (by decide), h2]
  simp only []
  rw [cd_fuel t.length _ (u.drop m) (by rw [List.length_drop]; omega) (Nat.le_refl _)]
/-- A text; a class. -/
def txR (l : List UInt8) : Option Wr := match l with | c :: t => if c == 34 then (qdS t).map fun q => ⟨3, 1 + q.2, q.1, 0, []⟩ else none | [] => none
def stR (l : List UInt8) : Option Wr := match l with | c :: t => if c == 91 then (cdS t).map fun q => ⟨4, 1 + q.2, [], 0, q.1⟩ else none | [] => none
end Go.Proofs.YtnfkcdnkmcifbaaGreatDoor
namespace Go.Proofs.YtnfkcdnkmcifbaaGreatDoor
open Go.RowKit
set_option maxRecDepth 100000
set_option maxHeartbeats 1000000

theorem Lib.IsBuilderF.below {T e : TypeId} {B b : Nat} {bs : List Value} {w w' : World} (h : Lib.IsBuilderF T e B b bs w) (hb : Below w.heap.size w w') : Lib.IsBuilderF T e B b bs w' := by
 have go : ∀ p, Lib.BuilderAtF T e B b p bs w → Lib.BuilderAtF T e B b p bs w' := fun p hp => by
  have hlt := hp.lt
  obtain ⟨hB, v, hv, hown, hne⟩ := hp
  exact ⟨hB, v, (hb.block _ hlt).trans hv, hown.kept (row := none) ⟨hb.os, hb.tape, hb.output, hb.size, fun k hk _ => hb.block k hk⟩ (by cases v.ownBlock <;> simp), hne⟩
 exact h.elim (fun x => .inl (go _ x)) (fun x => .inr (go _ x))
theorem rdA_at (p : Int) (s : ByteArray) (k : Nat) (hk : k < s.size) : rdA p s.data.toList (k : Int) = rd p (s.data.toList.drop k) := by rw [rdA_in hk, ← drop_at hk]
/-- What a text's loop has in hand: the place, and what is written. -/
def TxI (s : ByteArray) (k g : Nat) (w : World) (B : Nat) (a : Nat) (l : List UInt8) (wr : World) : Prop :=
 Lib.IsBuilderF 70 5 B B (Lib.byteCells l) wr ∧ Below w.heap.size w wr ∧ (Rdr wr g s k ∧ g < B) ∧ hrow wr w.heap.size wd0 36 ∧ w.heap.size < B ∧ l.length ≤ a ∧
  txR (s.data.toList.drop k) = (qdS (s.data.toList.drop a)).map fun q => (⟨3, a - k + q.2, l ++ q.1, 0, []⟩ : Wr)
theorem TxI.below {s : ByteArray} {k g B n : Nat} {w wr x : World} {l : List UInt8} (h : TxI s k g w B n l wr) (hb : Below wr.heap.size wr x) : TxI s k g w B n l x :=
 ⟨Lib.IsBuilderF.below h.1 hb, h.2.1.trans (hb.mono h.2.1.size), ⟨Rdr.below h.2.2.1.1 hb, h.2.2.1.2⟩, h.2.2.2.1.below hb, h.2.2.2.2⟩
theorem TxI.step {s : ByteArray} {k g B n : Nat} {w x x2 : World} {l : List UInt8} (h : TxI s k g w B n l x) (hk : k + 1 ≤ n) {c b : UInt8} {m : Nat} {t : List UInt8} (hd : s.data.toList.drop n = c :: t) (hc : c ≠ 34)
  (hr : rd 1 (c :: t) = some (b, m)) {p : Value} (hb1 : Lib.BuilderAtF 70 5 B B p (Lib.byteCells l ++ [.int .u8 b.toNat]) x2) (hp : p = .pointer (some ⟨B, 0, none⟩)) (hb2 : Below B x x2) : TxI s k g w B (n + m) (l ++ [b]) x2 := by
 subst hp
 obtain ⟨h1, h2, ⟨h3, h3b⟩, h4, h5, h6, h7⟩ := h
 have hl := rd_len hr
 have e1 : Lib.byteCells l ++ [.int .u8 b.toNat] = Lib.byteCells (l ++ [b]) := by rw [Lib.byteCells_append]; rfl
 rw [e1] at hb1
 refine ⟨.inr hb1, h2.trans (hb2.mono (Nat.le_of_lt h5)), ⟨hrow.later h3 hb2 h3b, h3b⟩, hrow.later h4 hb2 h5, h5, by rw [List.length_append, List.length_singleton]; omega, ?_⟩
 rw [h7, hd, qd_step hc hr, ← hd, List.drop_drop]
 cases qdS (s.data.toList.drop (n + m)) with
 | none => rfl
 | some q =>
  simp only [Option.map_some, Option.some.injEq, Wr.mk.injEq, true_and, and_true]
  exact ⟨by omega, by rw [List.append_assoc]; rfl⟩
theorem TxI.kept {s : ByteArray} {k g B n : Nat} {w wr x : World} {l : List UInt8} (h : TxI s k g w B n l wr) (hi : Lib.IsBuilderF 70 5 B B (Lib.byteCells l) x) (hb : Below B wr x) : TxI s k g w B n l x :=
 ⟨hi, h.2.1.trans (hb.mono (Nat.le_of_lt h.2.2.2.2.1)), ⟨hrow.later h.2.2.1.1 hb h.2.2.1.2, h.2.2.1.2⟩, hrow.later h.2.2.2.1 hb h.2.2.2.2.1, h.2.2.2.2⟩
/-- A world that keeps what is asked. -/
structure Kept (C : World → Prop) where
 val : World
 ok : C val
theorem wp_region_kept_tail {P : Program} {C : World → Prop} {id : Nat} {Q : Exit → Act → World → Prop} {a : Act} {w : World} {l : List Oper} (n : Nat) (hm : P.follows .mixedOrders = true) (hB : Region.lexTailB .any l.toArray n = true) (h0 : C w.drew)
  (h : wpQuiet P l.toArray (fun w' => ∃ x : Kept C, w' = x.val) (fun a' => ∀ w', (∃ x : Kept C, w' = x.val) → wpList P l.toArray Q (l.drop n) a' w') (l.take n) a) : (Code.region id l.toArray true).wp P Q a w :=
 wp_region_tail (C := fun w' => ∃ x : Kept C, w' = x.val) n hm hB ⟨⟨w.drew, h0⟩, rfl⟩ h
theorem text_any (s : ByteArray) (k g : Nat) (w : World) (hr : Rdr w g s k) (hs : s.size ≤ 1000000) (hk : k ≤ s.size) :
  Calls Tryz.prog 17 #[.pointer (some ⟨g, 0, none⟩)] w fun e w' => e = .returned (rdO (txR (s.data.toList.drop k)) k) ∧ Below w.heap.size w w' := by
 have HRD := Lib.hid hr
 have HS := Lib.hid hs
 have HK := Lib.hid hk
 have hHH := Lib.hid (fun (x : World) (h : Rdr x g s k) => here_34 s k g x h hk)
 clear hr hs hk
 by_cases hq : (s.data.toList.drop k).head? = some 34
 ·have hqb : ((s.data.toList.drop k).head? == some 34) = true := by rw [hq]; rfl
  have HKL : Hid (k < s.size) := by
   rcases Nat.lt_or_ge k s.size with h | h
   ·exact h
   ·rw [List.drop_eq_nil_of_le (by rw [ba_len]; exact h)] at hq; cases hq
  have HT0 : Hid (txR (s.data.toList.drop k) = (qdS (s.data.toList.drop (k + 1))).map fun q => (⟨3, k + 1 - k + q.2, [] ++ q.1, 0, []⟩ : Wr)) := by
   rw [drop_at HKL.out] at hq ⊢
   have h34 : s[k]'HKL.out = 34 := by simpa using hq
   unfold Hid txR
   simp only []
   rw [if_pos (by simpa using h34), show k + 1 - k = 1 by omega]
   rfl
  clear hq
  have hI0 : (0 : Int) ≤ k := by omega
  have hI1 : (k : Int) ≤ 1000000 := by have := HKL.out; have := HS.out; omega
  go_enter Tryz.func17, Tryz.ntmps17
  go_wp2_with fail
  have HB := Lib.hid ((Below.refl w.heap.size w).alloc (Nat.le_refl _) (.cells #[.int .i64 0, .int .i64 0, .int .i64 0, .string ⟨#[]⟩, .int .i64 0, .int .u64 0, .int .u64 0, .int .u64 0, .int .u64 0] 36))
  have HR := Lib.hid (show hrow (w.alloc (.cells #[.int .i64 0, .int .i64 0, .int .i64 0, .string ⟨#[]⟩, .int .i64 0, .int .u64 0, .int .u64 0, .int .u64 0, .int .u64 0] 36)) w.heap.size wd0 36 from hrow.new _ _ _)
  replace HRD := Lib.hid (Rdr.below HRD.out HB.out)
  revert HB HR HRD
  generalize w.alloc (.cells #[.int .i64 0, .int .i64 0, .int .i64 0, .string ⟨#[]⟩, .int .i64 0, .int .u64 0, .int .u64 0, .int .u64 0, .int .u64 0] 36) = wb
  intro HB HR HRD
  have HRN : Hid (∀ n, hrow (wb.drewN n) w.heap.size wd0 36) := Lib.hid (fun _ => HR.out)
  clear HRN
  go_wp2_with fail
  refine (hHH.out _ HRD.out).mono ?_
  rintro e x ⟨rfl, hb⟩
  replace HR := Lib.hid (HR.out.below hb)
  replace HRD := Lib.hid (Rdr.below HRD.out hb)
  replace HB := Lib.hid (HB.out.trans (hb.mono HB.out.size))
  clear hb
  rw [hqb]
  clear hqb hHH
  have HBa := Lib.hid ((Below.refl x.heap.size x).alloc (Nat.le_refl _) (.cells #[.pointer none, .slice none 0 0] 70))
  obtain ⟨c0, c1⟩ := hrow.c2 (Rdr.below HRD.out HBa.out)
  have HI : Hid (TxI s k g w x.heap.size (k + 1) [] (x.alloc (.cells #[.pointer none, .slice none 0 0] 70))) :=
   ⟨.of (Lib.fresh_isBuilder _ _ _), HB.out.trans (HBa.out.mono HB.out.size), ⟨Rdr.below HRD.out HBa.out, HRD.out.lt⟩, HR.out.below HBa.out, HR.out.lt, Nat.zero_le _, HT0.out⟩
  clear HR HRD HB HT0 HBa
  go_wp2_with fail
  clear c0 c1
  generalize x.heap.size = B at *
  go_loopw [5] (fun i wr => ∃ (n : Nat) (l : List UInt8), k + 1 ≤ n ∧ n ≤ s.size ∧ i = .int .i64 n ∧ Hid (TxI s k g w B n l wr)) (fun i _ => s.size - (intOf i).toNat)
  case atStart => exact ⟨k + 1, [], Nat.le_refl _, HKL.out, by go_num, HI.out⟩
  case round =>
   clear HI
   obtain ⟨n, l, hk1, hn, rfl, HJ⟩ := hrel
   have HK1 := Lib.hid hk1; clear hk1
   obtain ⟨c0, c1⟩ := hrow.c2 HJ.out.2.2.1.1
   by_cases hlt : n < s.size
   ·have hnI : (n : Int) < s.size := by omega
    have hn0 : (0 : Int) ≤ n := by omega
    have HNL := Lib.hid hlt
    obtain ⟨c, hcs⟩ : ∃ c, c = s[n] := ⟨_, rfl⟩
    have HQ : Hid (s.data.toList.drop n = c :: s.data.toList.drop (n + 1)) := by rw [hcs]; exact drop_at hlt
    have HCS := Lib.hid hcs; clear hcs
    by_cases h34 : c = 34
    ·have h34I : ((s[n].toNat : Nat) : Int) = 34 := by rw [← HCS.out, h34]; rfl
     have HE : Hid (txR (s.data.toList.drop k) = some ⟨3, n + 1 - k, l, 0, []⟩) := by
      have := HJ.out.2.2.2.2.2.2
      have h1 := HK1.out
      unfold Hid
      rw [this, HQ.out, h34, qd_close]
      simp only [Option.map_some, Option.some.injEq, Wr.mk.injEq, true_and, and_true, List.append_nil]
      omega
     clear hn h34
     have hkn : (k : Int) ≤ n + 1 := by have := HK1.out; omega
     have hnb : (n : Int) + 1 - k ≤ 1000000 := by have := HS.out; omega
     have hnk : (0 : Int) ≤ (n : Int) + 1 - k := by omega
     have HEQ : Hid ((n : Int) + 1 - k = ((n + 1 - k : Nat) : Int)) := by have := HK1.out; unfold Hid; omega
     have instK : Nonempty (Kept (TxI s k g w B n l)) := ⟨⟨wr, HJ.out⟩⟩
     have hc0 : ∀ x : Kept (TxI s k g w B n l), x.val.cell? ⟨g, 0, none⟩ = some (.string s) := fun x => (hrow.c2 x.ok.2.2.1.1).1
     have hc1 : ∀ x : Kept (TxI s k g w B n l), x.val.cell? ⟨g, 1, none⟩ = some (.int .i64 k) := fun x => (hrow.c2 x.ok.2.2.1.1).2
     have hbd : ∀ x : World, (Instr.build 36 #[(0, .int .i64 3), (3, .string (tx l))]).run Tryz.prog x = .ok (.agg #[.int .i64 3, .int .i64 0, .int .i64 0, .string (tx l), .int .i64 0, .int .u64 0, .int .u64 0, .int .u64 0, .int .u64 0]) x := fun x => run_build x _ _ _ (by kernel_rfl)
     have HSt : Hid (∀ x : Kept (TxI s k g w B n l), Calls Tryz.prog 31 #[.pointer (some ⟨B, 0, none⟩)] x.val fun e w' => e = .returned (.string (tx l)) ∧ ∃ y : Kept (TxI s k g w B n l), w' = y.val) := Lib.hid fun x => by
      refine (Tryz.Builder_String_any_k _ _ l _ x.ok.1 (Nat.le_of_lt (x.ok.1.elim (fun x => x.lt) (fun x => x.lt)))).mono ?_
      rintro e x2 ⟨rfl, hi, hb, _⟩
      exact ⟨rfl, ⟨x2, x.ok.kept hi hb⟩, rfl⟩
     have HWd : Hid (∀ x : Kept (TxI s k g w B n l), Calls Tryz.prog 26 #[.pointer (some ⟨g, 0, none⟩), .agg #[.int .i64 3, .int .i64 0, .int .i64 0, .string (tx l), .int .i64 0, .int .u64 0, .int .u64 0, .int .u64 0, .int .u64 0], .int .i64 ((n : Int) + 1 - k)] x.val fun e w' => e = .returned (.tuple #[.agg #[.int .i64 3, .int .i64 k, .int .i64 (k + ((n : Int) + 1 - k)), .string (tx l), .int .i64 0, .int .u64 0, .int .u64 0, .int .u64 0, .int .u64 0], .bool true]) ∧ ∃ y : Kept (TxI s k g w B n l), w' = y.val) := Lib.hid fun x => by
      refine (word_any 3 0 0 0 0 0 0 0 ((n : Int) + 1 - k) (tx l) s k g _ x.ok.2.2.1.1 (by have := HS.out; have := HK.out; omega) hnk hnb).mono ?_
      rintro e x2 ⟨rfl, hb⟩
      exact ⟨rfl, ⟨x2, x.ok.below hb⟩, rfl⟩
     go_wp2_with fail
     refine wp_region_kept_tail 14 (by kernel_rfl) (by kernel_rfl) (HJ.out.below (Below.refl _ _).drew) ?_
     simp only [List.take_succ_cons, List.take_zero, List.drop_succ_cons, List.drop_zero]
     repeat (go_big_quiet_step (first
      | (go_at_call 31; with_reducible exact HSt.out _)
      | (go_at_call 26; with_reducible exact HWd.out _)))
     refine wpQuiet_nil ?_
     intro w5 hw5
     obtain ⟨x, rfl⟩ := hw5
     have HR := Lib.hid x.ok.2.2.2.1
     have HB := Lib.hid x.ok.2.1
     clear hc0 hc1 HSt HWd
     go_wp2_with (with_reducible refine store_word rfl (.tmp 2) (.tmp 49) rfl w.heap.size _ _ _ _ _ _ _ _ _ rfl rfl HR.out ?_)
     rw [HEQ.out]
     refine bodyPost_ret (results_word rfl _ _ w.heap.size _ _ rfl rfl HR.out ?_) rfl ?_
     next => rfl
     next => first | exact ⟨rfl, below_setRow HB.out (Nat.le_refl _) _⟩ | exact ⟨by rw [HE.out]; rfl, below_setRow HB.out (Nat.le_refl _) _⟩
    ·have h34I : ((s[n].toNat : Nat) : Int) ≠ 34 := fun h => h34 (by rw [← HCS.out] at h; apply UInt8.toNat_inj.1; show c.toNat = 34; omega)
     clear hn
     go_wp2_with fail
     refine (rbyte_any 1 s k g n wr HJ.out.2.2.1.1 HS.out).mono ?_
     rintro e x ⟨rfl, hb⟩
     rw [rdA_at 1 s n HNL.out, HQ.out]
     have HJ2 := Lib.hid (HJ.out.below hb)
     have H34 := Lib.hid h34
     clear hb HJ c0 c1
     cases hrd : rd 1 (c :: s.data.toList.drop (n + 1)) with
     | none =>
      have HE : Hid (txR (s.data.toList.drop k) = none) := by
       have := HJ2.out.2.2.2.2.2.2
       unfold Hid
       rw [this, HQ.out, qd_bad H34.out hrd]; rfl
      have HR := Lib.hid HJ2.out.2.2.2.1
      have HB := Lib.hid HJ2.out.2.1
      unfold rdV
      clear hrd HJ2 H34 HQ h34
      go_wp2_with (with_reducible refine store_word rfl (.tmp 2) (.tmp 63) rfl w.heap.size _ _ _ _ _ _ _ _ _ rfl rfl HR.out ?_)
      refine bodyPost_ret (results_word rfl _ _ w.heap.size _ _ rfl rfl HR.out ?_) rfl ?_
      next => rfl
      next => first | exact ⟨rfl, below_setRow HB.out (Nat.le_refl _) _⟩ | exact ⟨by rw [HE.out]; rfl, below_setRow HB.out (Nat.le_refl _) _⟩
     | some q =>
      obtain ⟨b, m⟩ := q
      have HRL := Lib.hid (rd_len hrd)
      have HRD := Lib.hid hrd
      have hml : n + m ≤ s.size := by have := HRL.out.2; have h2 := congrArg List.length HQ.out; rw [List.length_drop, ba_len] at h2; omega
      unfold rdV
      clear hrd h34
      go_wp2_with fail
      refine (Tryz.Builder_WriteByte_k _ _ _ _ _ HJ2.out.1 ?_ ?_).mono ?_
      ·rw [Lib.byteCells_length]; have := HJ2.out.2.2.2.2.2.1; have := HS.out; omega
      ·have := HJ2.out.1.elim (fun x => x.lt) (fun x => x.lt); omega
      rintro e x2 ⟨rfl, hb1, hb2, _⟩
      have HJ3 := Lib.hid (HJ2.out.step HK1.out HQ.out H34.out HRD.out hb1 rfl hb2)
      clear hb1 hb2 HJ2
      go_wp2_with fail
      go_roundw
      case rel => exact ⟨n + m, l ++ [b], by have := HK1.out; omega, hml, by go_num, HJ3.out⟩
      case measure => have := HRL.out.1; simp [intOf]; omega
   ·have hnI : ¬ (n : Int) < s.size := by omega
    have HE : Hid (txR (s.data.toList.drop k) = none) := by
     have := HJ.out.2.2.2.2.2.2
     unfold Hid
     rw [this, List.drop_eq_nil_of_le (by rw [ba_len]; omega)]; rfl
    have HR := Lib.hid HJ.out.2.2.2.1
    have HB := Lib.hid HJ.out.2.1
    clear hn HJ
    go_wp2_with (with_reducible refine store_word rfl (.tmp 2) (.tmp 63) rfl w.heap.size _ _ _ _ _ _ _ _ _ rfl rfl HR.out ?_)
    refine bodyPost_ret (results_word rfl _ _ w.heap.size _ _ rfl rfl HR.out ?_) rfl ?_
    next => rfl
    next => first | exact ⟨rfl, below_setRow HB.out (Nat.le_refl _) _⟩ | exact ⟨by rw [HE.out]; rfl, below_setRow HB.out (Nat.le_refl _) _⟩
 ·have hqb : ((s.data.toList.drop k).head? == some 34) = false := by rw [Bool.eq_false_iff]; simpa using hq
  have HE : Hid (txR (s.data.toList.drop k) = none) := by
   unfold Hid txR
   split
   next c t h =>
    rw [h] at hq
    rw [if_neg (by simpa using hq)]
   next => rfl
  clear hq
  go_enter Tryz.func17, Tryz.ntmps17
  go_wp2_with fail
  have HB := Lib.hid ((Below.refl w.heap.size w).alloc (Nat.le_refl _) (.cells #[.int .i64 0, .int .i64 0, .int .i64 0, .string ⟨#[]⟩, .int .i64 0, .int .u64 0, .int .u64 0, .int .u64 0, .int .u64 0] 36))
  have HR := Lib.hid (show hrow (w.alloc (.cells #[.int .i64 0, .int .i64 0, .int .i64 0, .string ⟨#[]⟩, .int .i64 0, .int .u64 0, .int .u64 0, .int .u64 0, .int .u64 0] 36)) w.heap.size wd0 36 from hrow.new _ _ _)
  replace HRD := Lib.hid (Rdr.below HRD.out HB.out)
  revert HB HR HRD
  generalize w.alloc (.cells #[.int .i64 0, .int .i64 0, .int .i64 0, .string ⟨#[]⟩, .int .i64 0, .int .u64 0, .int .u64 0, .int .u64 0, .int .u64 0] 36) = wb
  intro HB HR HRD
  have HRN : Hid (∀ n, hrow (wb.drewN n) w.heap.size wd0 36) := Lib.hid (fun _ => HR.out)
  clear HRN
  go_wp2_with fail
  refine (hHH.out _ HRD.out).mono ?_
  rintro e x ⟨rfl, hb⟩
  replace HR := Lib.hid (HR.out.below hb)
  replace HRD := Lib.hid (Rdr.below HRD.out hb)
  replace HB := Lib.hid (HB.out.trans (hb.mono HB.out.size))
  clear hb
  rw [hqb]
  clear hqb hHH
  go_wp2_with (with_reducible refine store_word rfl (.tmp 2) (.tmp 14) rfl w.heap.size _ _ _ _ _ _ _ _ _ rfl rfl HR.out ?_)
  refine bodyPost_ret (results_word rfl _ _ w.heap.size _ _ rfl rfl HR.out ?_) rfl ?_
  next => rfl
  next => first | exact ⟨rfl, below_setRow HB.out (Nat.le_refl _) _⟩ | exact ⟨by rw [HE.out]; rfl, below_setRow HB.out (Nat.le_refl _) _⟩
end Go.Proofs.YtnfkcdnkmcifbaaGreatDoor
