/- Walks and plain laws: V9 S3. -/
import Derived.Test.YtnfkcdnkmcifbaaGreatDoorM10
import Derived.Test.YtnfkcdnkmcifbaaGreatDoorM09
import Derived.Laws.IdiomStrings
namespace Go.Proofs.YtnfkcdnkmcifbaaGreatDoor
open Go.RowKit
set_option maxRecDepth 100000
set_option maxHeartbeats 1000000

theorem rdA_le (p : Int) (s : ByteArray) (k : Nat) (hk : k ≤ s.size) (a : Int) (ha : a = k) : rdA p s.data.toList a = rd p (s.data.toList.drop k) := by
 subst ha
 rcases Nat.lt_or_ge k s.size with h | h
 ·exact rdA_at p s k h
 ·rw [rdA_out (.inr (by omega)), List.drop_eq_nil_of_le (by rw [ba_len]; exact h)]; rfl
theorem or_two (W V : Nat → Nat) : orL [W, V] = orW W V := by
 funext i
 simp [orL, orW, noW]
theorem or2 (w : World) (g : Nat) (W1 W2 : Nat → Nat) (h : hrow w g #[.int .u64 (W1 0), .int .u64 (W1 1), .int .u64 (W1 2), .int .u64 (W1 3), .int .u64 (W2 0), .int .u64 (W2 1), .int .u64 (W2 2), .int .u64 (W2 3)] 34) (h1 : Words W1) (h2 : Words W2) :
    Calls Tryz.prog 34 #[.slice (some ⟨g, 0, none⟩) 2 2] w fun r w' => r = .returned (.agg (cw (orL [W1, W2]))) ∧ Below w.heap.size w w' :=
  orF_any w _ 2 2 [W1, W2] (Sv.of_hrow h 2 4 (by unfold maxLen; omega) rfl) (fun W hW => by simp at hW; rcases hW with rfl | rfl <;> assumption)
/-- What a class's loop has in hand. -/
def StI (s : ByteArray) (k g : Nat) (w : World) (B : Nat) (n : Nat) (R : List (UInt8 × UInt8)) (wr : World) : Prop :=
 hrow wr B (cw (clsW R)) 34 ∧ Below w.heap.size w wr ∧ (Rdr wr g s k ∧ g < B) ∧ hrow wr w.heap.size wd0 36 ∧ w.heap.size < B ∧ k ≤ n ∧
  stR (s.data.toList.drop k) = (cdS (s.data.toList.drop n)).map fun q => (⟨4, n - k + q.2, [], 0, R ++ q.1⟩ : Wr)
theorem StI.below {s : ByteArray} {k g B n : Nat} {w wr x : World} {R : List (UInt8 × UInt8)} (h : StI s k g w B n R wr) (hb : Below wr.heap.size wr x) : StI s k g w B n R x :=
 ⟨h.1.below hb, h.2.1.trans (hb.mono h.2.1.size), ⟨Rdr.below h.2.2.1.1 hb, h.2.2.1.2⟩, h.2.2.2.1.below hb, h.2.2.2.2⟩
theorem hrow.setOther {w : World} {g B : Nat} {cs cs' : Array Value} {t : TypeId} (h : hrow w g cs t) (hg : g ≠ B) : hrow (w.setRow B cs') g cs t := (setRow_other w B g cs' hg).trans h
theorem StI.step {s : ByteArray} {k g B n : Nat} {w x : World} {R : List (UInt8 × UInt8)} (h : StI s k g w B n R x) (p : UInt8 × UInt8) (n2 : Nat)
  (hp : n ≤ n2 ∧ cdS (s.data.toList.drop n) = (cdS (s.data.toList.drop n2)).map fun q => (p :: q.1, n2 - n + q.2)) : StI s k g w B n2 (R ++ [p]) (x.setRow B (cw (orL [clsW R, rgW p]))) := by
 obtain ⟨h1, h2, ⟨h3, h3b⟩, h4, h5, h6, h7⟩ := h
 rw [or_two, ← clsW_snoc]
 refine ⟨setRow_heap _ _ _ _ _ _ h1, below_setRow h2 (Nat.le_of_lt h5) _, ⟨hrow.setOther h3 (by omega), h3b⟩, hrow.setOther h4 (by omega), h5, by omega, ?_⟩
 rw [h7, hp.2]
 cases cdS (s.data.toList.drop n2) with
 | none => rfl
 | some q =>
  simp only [Option.map_some, Option.some.injEq, Wr.mk.injEq, true_and]
  exact ⟨by omega, by rw [List.append_assoc]; rfl⟩
theorem set_any (s : ByteArray) (k g : Nat) (w : World) (hr : Rdr w g s k) (hs : s.size ≤ 1000000) (hk : k ≤ s.size) :
  Calls Tryz.prog 18 #[.pointer (some ⟨g, 0, none⟩)] w fun e w' => e = .returned (rdO (stR (s.data.toList.drop k)) k) ∧ Below w.heap.size w w' := by
 have HRD := Lib.hid hr
 have HS := Lib.hid hs
 have HK := Lib.hid hk
 have hHH := Lib.hid (fun (x : World) (h : Rdr x g s k) => here_91 s k g x h hk)
 clear hr hs hk
 by_cases hq : (s.data.toList.drop k).head? = some 91
 ·have hqb : ((s.data.toList.drop k).head? == some 91) = true := by rw [hq]; rfl
  have HKL : Hid (k < s.size) := by
   rcases Nat.lt_or_ge k s.size with h | h
   ·exact h
   ·rw [List.drop_eq_nil_of_le (by rw [ba_len]; exact h)] at hq; cases hq
  have HT0 : Hid (stR (s.data.toList.drop k) = (cdS (s.data.toList.drop (k + 1))).map fun q => (⟨4, k + 1 - k + q.2, [], 0, [] ++ q.1⟩ : Wr)) := by
   rw [drop_at HKL.out] at hq ⊢
   have h34 : s[k]'HKL.out = 91 := by simpa using hq
   unfold Hid stR
   simp only []
   rw [if_pos (by simpa using h34), show k + 1 - k = 1 by omega]
   rfl
  clear hq
  have hI0 : (0 : Int) ≤ k := by omega
  have hI1 : (k : Int) ≤ 1000000 := by have := HKL.out; have := HS.out; omega
  go_enter Tryz.func18, Tryz.ntmps18
  go_wp2_with fail
  have HB := Lib.hid ((Below.refl w.heap.size w).alloc (Nat.le_refl _) (.cells #[.int .i64 0, .int .i64 0, .int .i64 0, .string ⟨#[]⟩, .int .i64 0, .int .u64 0, .int .u64 0, .int .u64 0, .int .u64 0] 36))
  have HR := Lib.hid (show hrow (w.alloc (.cells #[.int .i64 0, .int .i64 0, .int .i64 0, .string ⟨#[]⟩, .int .i64 0, .int .u64 0, .int .u64 0, .int .u64 0, .int .u64 0] 36)) w.heap.size wd0 36 from hrow.new _ _ _)
  replace HRD := Lib.hid (Rdr.below HRD.out HB.out)
  revert HB HR HRD
  generalize w.alloc (.cells #[.int .i64 0, .int .i64 0, .int .i64 0, .string ⟨#[]⟩, .int .i64 0, .int .u64 0, .int .u64 0, .int .u64 0, .int .u64 0] 36) = wb
  intro HB HR HRD
  have HRN : Hid (∀ n, hrow (wb.drewN n) w.heap.size wd0 36) := Lib.hid (fun _ => HR.out)
  clear HRN
  go_wp2_with fail
  refine (hHH.out _ HRD.out).mono ?_
  rintro e x ⟨rfl, hb⟩
  replace HR := Lib.hid (HR.out.below hb)
  replace HRD := Lib.hid (Rdr.below HRD.out hb)
  replace HB := Lib.hid (HB.out.trans (hb.mono HB.out.size))
  clear hb
  rw [hqb]
  clear hqb hHH
  have HBa := Lib.hid ((Below.refl x.heap.size x).alloc (Nat.le_refl _) (.cells #[.int .u64 0, .int .u64 0, .int .u64 0, .int .u64 0] 34))
  obtain ⟨c0, c1⟩ := hrow.c2 (Rdr.below HRD.out HBa.out)
  have HI : Hid (StI s k g w x.heap.size (k + 1) [] (x.alloc (.cells #[.int .u64 0, .int .u64 0, .int .u64 0, .int .u64 0] 34))) :=
   ⟨hrow.new _ _ _, HB.out.trans (HBa.out.mono HB.out.size), ⟨Rdr.below HRD.out HBa.out, HRD.out.lt⟩, HR.out.below HBa.out, HR.out.lt, Nat.le_succ _, HT0.out⟩
  clear HR HRD HB HT0 HBa
  go_wp2_with fail
  clear c0 c1
  generalize x.heap.size = B at *
  go_loopw [5] (fun i wr => ∃ (n : Nat) (R : List (UInt8 × UInt8)), k + 1 ≤ n ∧ n ≤ s.size ∧ i = .int .i64 n ∧ Hid (StI s k g w B n R wr)) (fun i _ => s.size - (intOf i).toNat)
  case atStart => exact ⟨k + 1, [], Nat.le_refl _, HKL.out, by go_num, HI.out⟩
  case round =>
   clear HI
   obtain ⟨n, R, hk1, hn, rfl, HJ⟩ := hrel
   have HK1 := Lib.hid hk1; clear hk1
   obtain ⟨c0, c1⟩ := hrow.c2 HJ.out.2.2.1.1
   by_cases hlt : n < s.size
   ·have hnI : (n : Int) < s.size := by omega
    have hn0 : (0 : Int) ≤ n := by omega
    have hsz : (s.size : Int) ≤ 1000000 := by have := HS.out; omega
    have HNL := Lib.hid hlt
    obtain ⟨c, hcs⟩ : ∃ c, c = s[n] := ⟨_, rfl⟩
    have HQ : Hid (s.data.toList.drop n = c :: s.data.toList.drop (n + 1)) := by rw [hcs]; exact drop_at hlt
    have HCS := Lib.hid hcs; clear hcs
    by_cases h34 : c = 93
    ·have h34I : ((s[n].toNat : Nat) : Int) = 93 := by rw [← HCS.out, h34]; rfl
     have HE : Hid (stR (s.data.toList.drop k) = some ⟨4, n + 1 - k, [], 0, R⟩) := by
      have := HJ.out.2.2.2.2.2.2
      have h1 := HK1.out
      unfold Hid
      rw [this, HQ.out, h34, cd_close]
      simp only [Option.map_some, Option.some.injEq, Wr.mk.injEq, true_and, List.append_nil, and_true]
      omega
     clear hn h34
     have hkn : (k : Int) ≤ n + 1 := by have := HK1.out; omega
     have hnb : (n : Int) + 1 - k ≤ 1000000 := by have := HS.out; omega
     have hnk : (0 : Int) ≤ (n : Int) + 1 - k := by omega
     have HEQ : Hid ((n : Int) + 1 - k = ((n + 1 - k : Nat) : Int)) := by have := HK1.out; unfold Hid; omega
     have instK : Nonempty (Kept (StI s k g w B n R)) := ⟨⟨wr, HJ.out⟩⟩
     have hc0 : ∀ x : Kept (StI s k g w B n R), x.val.cell? ⟨g, 0, none⟩ = some (.string s) := fun x => (hrow.c2 x.ok.2.2.1.1).1
     have hc1 : ∀ x : Kept (StI s k g w B n R), x.val.cell? ⟨g, 1, none⟩ = some (.int .i64 k) := fun x => (hrow.c2 x.ok.2.2.1.1).2
     have hcl0 : ∀ x : Kept (StI s k g w B n R), x.val.cell? ⟨B, 0, none⟩ = some (.int .u64 (clsW R 0)) := fun x => hrow.cell x.ok.1 0
     have hcl1 : ∀ x : Kept (StI s k g w B n R), x.val.cell? ⟨B, 1, none⟩ = some (.int .u64 (clsW R 1)) := fun x => hrow.cell x.ok.1 1
     have hcl2 : ∀ x : Kept (StI s k g w B n R), x.val.cell? ⟨B, 2, none⟩ = some (.int .u64 (clsW R 2)) := fun x => hrow.cell x.ok.1 2
     have hcl3 : ∀ x : Kept (StI s k g w B n R), x.val.cell? ⟨B, 3, none⟩ = some (.int .u64 (clsW R 3)) := fun x => hrow.cell x.ok.1 3
     have hbd : ∀ x : World, (Instr.build 36 #[(0, .int .i64 4), (5, .agg #[.int .u64 (clsW R 0), .int .u64 (clsW R 1), .int .u64 (clsW R 2), .int .u64 (clsW R 3)])]).run Tryz.prog x = .ok (.agg #[.int .i64 4, .int .i64 0, .int .i64 0, .string ⟨#[]⟩, .int .i64 0, .int .u64 (clsW R 0), .int .u64 (clsW R 1), .int .u64 (clsW R 2), .int .u64 (clsW R 3)]) x := fun x => run_build x _ _ _ (by generalize clsW R 0 = a0; generalize clsW R 1 = a1; generalize clsW R 2 = a2; generalize clsW R 3 = a3; kernel_rfl)
     have HWd : Hid (∀ x : Kept (StI s k g w B n R), Calls Tryz.prog 26 #[.pointer (some ⟨g, 0, none⟩), .agg #[.int .i64 4, .int .i64 0, .int .i64 0, .string ⟨#[]⟩, .int .i64 0, .int .u64 (clsW R 0), .int .u64 (clsW R 1), .int .u64 (clsW R 2), .int .u64 (clsW R 3)], .int .i64 ((n : Int) + 1 - k)] x.val fun e w' => e = .returned (.tuple #[.agg #[.int .i64 4, .int .i64 k, .int .i64 (k + ((n : Int) + 1 - k)), .string ⟨#[]⟩, .int .i64 0, .int .u64 (clsW R 0), .int .u64 (clsW R 1), .int .u64 (clsW R 2), .int .u64 (clsW R 3)], .bool true]) ∧ ∃ y : Kept (StI s k g w B n R), w' = y.val) := Lib.hid fun x => by
      refine (word_any 4 0 0 0 (clsW R 0) (clsW R 1) (clsW R 2) (clsW R 3) ((n : Int) + 1 - k) ⟨#[]⟩ s k g _ x.ok.2.2.1.1 (by have := HS.out; have := HK.out; omega) hnk hnb).mono ?_
      rintro e x2 ⟨rfl, hb⟩
      exact ⟨rfl, ⟨x2, x.ok.below hb⟩, rfl⟩
     go_wp2_with fail
     refine wp_region_kept_tail 14 (by kernel_rfl) (by kernel_rfl) (HJ.out.below (Below.refl _ _).drew) ?_
     simp only [List.take_succ_cons, List.take_zero, List.drop_succ_cons, List.drop_zero]
     repeat (go_big_quiet_step ((go_at_call 26; with_reducible exact HWd.out _)))
     refine wpQuiet_nil ?_
     intro w5 hw5
     obtain ⟨x, rfl⟩ := hw5
     have HR := Lib.hid x.ok.2.2.2.1
     have HB := Lib.hid x.ok.2.1
     clear hc0 hc1 hcl0 hcl1 hcl2 hcl3 HWd
     go_wp2_with (with_reducible refine store_word rfl (.tmp 2) (.tmp 50) rfl w.heap.size _ _ _ _ _ _ _ _ _ rfl rfl HR.out ?_)
     rw [HEQ.out]
     refine bodyPost_ret (results_word rfl _ _ w.heap.size _ _ rfl rfl HR.out ?_) rfl ?_
     next => rfl
     next => first | exact ⟨rfl, below_setRow HB.out (Nat.le_refl _) _⟩ | exact ⟨by rw [HE.out]; rfl, below_setRow HB.out (Nat.le_refl _) _⟩
    ·have h34I : ((s[n].toNat : Nat) : Int) ≠ 93 := fun h => h34 (by rw [← HCS.out] at h; apply UInt8.toNat_inj.1; show c.toNat = 93; omega)
     clear hn
     go_wp2_with fail
     refine (rbyte_any 2 s k g n wr HJ.out.2.2.1.1 HS.out).mono ?_
     rintro e x ⟨rfl, hb⟩
     rw [rdA_at 2 s n HNL.out, HQ.out]
     have HJ2 := Lib.hid (HJ.out.below hb)
     have H34 := Lib.hid h34
     clear hb HJ c0 c1
     cases hrd : rd 2 (c :: s.data.toList.drop (n + 1)) with
     | none =>
      have HE : Hid (stR (s.data.toList.drop k) = none) := by
       have := HJ2.out.2.2.2.2.2.2
       unfold Hid
       rw [this, HQ.out, cd_bad H34.out hrd]; rfl
      unfold rdV
      clear hrd H34 HQ h34
      have HR := Lib.hid HJ2.out.2.2.2.1
      have HB := Lib.hid HJ2.out.2.1
      clear HJ2
      go_wp2_with (with_reducible refine store_word rfl (.tmp 2) (.tmp 88) rfl w.heap.size _ _ _ _ _ _ _ _ _ rfl rfl HR.out ?_)
      refine bodyPost_ret (results_word rfl _ _ w.heap.size _ _ rfl rfl HR.out ?_) rfl ?_
      next => rfl
      next => first | exact ⟨rfl, below_setRow HB.out (Nat.le_refl _) _⟩ | exact ⟨by rw [HE.out]; rfl, below_setRow HB.out (Nat.le_refl _) _⟩
     | some q =>
      obtain ⟨b, m⟩ := q
      have HRL := Lib.hid (rd_len hrd)
      have HRD := Lib.hid hrd
      have hml : n + m ≤ s.size := by have := HRL.out.2; have h2 := congrArg List.length HQ.out; rw [List.length_drop, ba_len] at h2; omega
      have hmI : (n : Int) + m ≤ s.size := by omega
      have hm0 : (0 : Int) ≤ m := by omega
      obtain ⟨c0, c1⟩ := hrow.c2 HJ2.out.2.2.1.1
      have hsl := from_run (P := Tryz.prog) 9 Tryz.underlying9 s (n + m) ((n : Int) + m) (by omega) hml
      have HDR : Hid ((c :: s.data.toList.drop (n + 1)).drop m = s.data.toList.drop (n + m)) := by rw [← HQ.out, List.drop_drop]; rfl
      unfold rdV
      clear hrd h34
      go_wp2_with fail
      refine (Tryz.strings_HasPrefix _ _ x).mono ?_
      rintro e x2 ⟨rfl, rfl⟩
      rw [tx_list]
      have HML := Lib.hid hml
      clear hsl
      by_cases h45 : (s.data.toList.drop (n + m)).head? = some 45
      ·obtain ⟨u, hu⟩ : ∃ u, s.data.toList.drop (n + m) = 45 :: u := by
        cases hd : s.data.toList.drop (n + m) with
        | nil => rw [hd] at h45; cases h45
        | cons y v => rw [hd] at h45; simp at h45; exact ⟨v, by rw [h45]⟩
       have hlt2 : n + m + 1 ≤ s.size := by have h2 := congrArg List.length hu; rw [List.length_drop, ba_len, List.length_cons] at h2; omega
       have HU : Hid (s.data.toList.drop (n + m + 1) = u) := by rw [← List.drop_drop, hu]; rfl
       have HUU := Lib.hid hu
       rw [hu, pre1]
       have hp45 : ((45 : UInt8) == 45) = true := rfl
       rw [hp45]
       have hmI2 : (n : Int) + m + 1 ≤ s.size := by omega
       clear h45 hu hp45
       go_wp2_with fail
       refine (rbyte_any 2 s k g ((n : Int) + m + 1) _ HJ2.out.2.2.1.1 HS.out).mono ?_
       rintro e x3 ⟨rfl, hb⟩
       replace HJ2 := Lib.hid (HJ2.out.below hb)
       clear hb c0 c1
       rw [rdA_le 2 s (n + m + 1) hlt2 _ (by omega), HU.out]
       cases hrd2 : rd 2 u with
       | none =>
        have HE : Hid (stR (s.data.toList.drop k) = none) := by
         have := HJ2.out.2.2.2.2.2.2
         unfold Hid
         rw [this, HQ.out, cd_bad2 H34.out HRD.out (HDR.out.trans HUU.out) hrd2]; rfl
        unfold rdV
        clear hrd2 H34 HQ
        have HR := Lib.hid HJ2.out.2.2.2.1
        have HB := Lib.hid HJ2.out.2.1
        clear HJ2
        go_wp2_with (with_reducible refine store_word rfl (.tmp 2) (.tmp 88) rfl w.heap.size _ _ _ _ _ _ _ _ _ rfl rfl HR.out ?_)
        refine bodyPost_ret (results_word rfl _ _ w.heap.size _ _ rfl rfl HR.out ?_) rfl ?_
        next => rfl
        next => first | exact ⟨rfl, below_setRow HB.out (Nat.le_refl _) _⟩ | exact ⟨by rw [HE.out]; rfl, below_setRow HB.out (Nat.le_refl _) _⟩
       | some q2 =>
        obtain ⟨b2, m2⟩ := q2
        have HL2 := Lib.hid (rd_len hrd2)
        have HN3 : Hid (n + m + 1 + m2 ≤ s.size) := by have := HL2.out.2; have h2 := congrArg List.length HU.out; rw [List.length_drop, ba_len] at h2; unfold Hid; omega
        have HN2 : Hid (n ≤ n + m + 1 + m2 ∧ cdS (s.data.toList.drop n) = (cdS (s.data.toList.drop (n + m + 1 + m2))).map fun q => ((b, b2) :: q.1, n + m + 1 + m2 - n + q.2)) := by
         refine ⟨by omega, ?_⟩
         rw [HQ.out, cd_two H34.out HRD.out (HDR.out.trans HUU.out) hrd2, ← HU.out, List.drop_drop]
         congr 1; funext q; congr 1; omega
        unfold rdV
        clear hrd2
        have hcl0 : ∀ x : Kept (StI s k g w B n R), x.val.cell? ⟨B, 0, none⟩ = some (.int .u64 (clsW R 0)) := fun x => hrow.cell x.ok.1 0
        have hcl1 : ∀ x : Kept (StI s k g w B n R), x.val.cell? ⟨B, 1, none⟩ = some (.int .u64 (clsW R 1)) := fun x => hrow.cell x.ok.1 1
        have hcl2 : ∀ x : Kept (StI s k g w B n R), x.val.cell? ⟨B, 2, none⟩ = some (.int .u64 (clsW R 2)) := fun x => hrow.cell x.ok.1 2
        have hcl3 : ∀ x : Kept (StI s k g w B n R), x.val.cell? ⟨B, 3, none⟩ = some (.int .u64 (clsW R 3)) := fun x => hrow.cell x.ok.1 3
        have instK : Nonempty (Kept (StI s k g w B n R)) := ⟨⟨_, HJ2.out⟩⟩
        have HRg : Hid (∀ x : Kept (StI s k g w B n R), Calls Tryz.prog 35 #[.int .u8 b.toNat, .int .u8 b2.toNat] x.val fun e w' => e = .returned (.agg #[.int .u64 (rgW (b, b2) 0), .int .u64 (rgW (b, b2) 1), .int .u64 (rgW (b, b2) 2), .int .u64 (rgW (b, b2) 3)]) ∧ ∃ y : Kept (StI s k g w B n R), w' = y.val) := Lib.hid fun x => by
         refine (rng_any (b, b2) x.val).mono ?_
         rintro e x2 ⟨rfl, hb⟩
         exact ⟨rfl, ⟨x2, x.ok.below hb⟩, rfl⟩
        go_wp2_with fail
        refine wp_region_kept_tail 4 (by kernel_rfl) (by kernel_rfl) (HJ2.out.below (Below.refl _ _).drew) ?_
        simp only [List.take_succ_cons, List.take_zero, List.drop_succ_cons, List.drop_zero]
        repeat (go_big_quiet_step ((go_at_call 35; with_reducible exact HRg.out _)))
        refine wpQuiet_nil ?_
        intro w5 hw5
        obtain ⟨x, rfl⟩ := hw5
        have HX := Lib.hid x.ok
        generalize x.val = x5 at HX ⊢
        clear hcl0 hcl1 hcl2 hcl3 HRg instK HJ2 x
        have K2 : Hid ((Tryz.prog.info? 34).map (·.size) = some (cw (orL [clsW R, rgW (b, b2)])).size) := cw_info.1
        go_wp2_with (first
         | (go_at_call 34; refine (or2 _ _ (clsW R) (rgW (b, b2)) (hrow.new _ _ _) (clsW_words R) (rgW_words _)).mono ?_; rintro e w2 ⟨rfl, hb2⟩; have HX2 := Lib.hid (HX.out.below (((Below.refl _ _).alloc (Nat.le_refl _) _).trans (hb2.mono (by simp)))); have HC2 := Lib.hid HX2.out.1; clear hb2)
         | (with_reducible refine wpList_store_row rfl 34 (.tmp 4) (.tmp 86) rfl B (cw (orL [clsW R, rgW (b, b2)])) rfl rfl 34 _ HC2.out.h K2.out rfl (cw_one _) ?_))
        have HX3 := Lib.hid (HX2.out.step (b, b2) (n + m + 1 + m2) HN2.out)
        go_roundw
        case rel => exact ⟨(n + m + 1 + m2), R ++ [(b, b2)], by have := HK1.out; omega, by have := HN3.out; omega, by go_num, HX3.out⟩
        case measure => have := HRL.out.1; simp [intOf]; omega
      ·have hp : Lib.hasPrefix (s.data.toList.drop (n + m)) (ByteArray.mk #[45]).data.toList = false := by
        cases hd : s.data.toList.drop (n + m) with
        | nil => rfl
        | cons y v =>
         rw [hd] at h45
         refine (pre1 45 y v).trans ?_
         rw [Bool.eq_false_iff]; simp at h45 ⊢; exact fun h => h45 h.symm
       rw [hp]
       have HN3 := HML
       have HN2 : Hid (n ≤ n + m ∧ cdS (s.data.toList.drop n) = (cdS (s.data.toList.drop (n + m))).map fun q => ((b, b) :: q.1, n + m - n + q.2)) := by
        refine ⟨by omega, ?_⟩
        rw [HQ.out]
        cases hd : s.data.toList.drop (n + m) with
        | nil => rw [cd_end H34.out HRD.out (HDR.out.trans hd), cd_nil]; rfl
        | cons y v =>
         rw [cd_one H34.out HRD.out (HDR.out.trans hd) (fun h => h45 (by rw [hd, h]; rfl)), Nat.add_sub_cancel_left]
       clear h45 hp c0 c1
       have hcl0 : ∀ x : Kept (StI s k g w B n R), x.val.cell? ⟨B, 0, none⟩ = some (.int .u64 (clsW R 0)) := fun x => hrow.cell x.ok.1 0
       have hcl1 : ∀ x : Kept (StI s k g w B n R), x.val.cell? ⟨B, 1, none⟩ = some (.int .u64 (clsW R 1)) := fun x => hrow.cell x.ok.1 1
       have hcl2 : ∀ x : Kept (StI s k g w B n R), x.val.cell? ⟨B, 2, none⟩ = some (.int .u64 (clsW R 2)) := fun x => hrow.cell x.ok.1 2
       have hcl3 : ∀ x : Kept (StI s k g w B n R), x.val.cell? ⟨B, 3, none⟩ = some (.int .u64 (clsW R 3)) := fun x => hrow.cell x.ok.1 3
       have instK : Nonempty (Kept (StI s k g w B n R)) := ⟨⟨_, HJ2.out⟩⟩
       have HRg : Hid (∀ x : Kept (StI s k g w B n R), Calls Tryz.prog 35 #[.int .u8 b.toNat, .int .u8 b.toNat] x.val fun e w' => e = .returned (.agg #[.int .u64 (rgW (b, b) 0), .int .u64 (rgW (b, b) 1), .int .u64 (rgW (b, b) 2), .int .u64 (rgW (b, b) 3)]) ∧ ∃ y : Kept (StI s k g w B n R), w' = y.val) := Lib.hid fun x => by
        refine (rng_any (b, b) x.val).mono ?_
        rintro e x2 ⟨rfl, hb⟩
        exact ⟨rfl, ⟨x2, x.ok.below hb⟩, rfl⟩
       go_wp2_with fail
       refine wp_region_kept_tail 4 (by kernel_rfl) (by kernel_rfl) (HJ2.out.below (Below.refl _ _).drew) ?_
       simp only [List.take_succ_cons, List.take_zero, List.drop_succ_cons, List.drop_zero]
       repeat (go_big_quiet_step ((go_at_call 35; with_reducible exact HRg.out _)))
       refine wpQuiet_nil ?_
       intro w5 hw5
       obtain ⟨x, rfl⟩ := hw5
       have HX := Lib.hid x.ok
       generalize x.val = x5 at HX ⊢
       clear hcl0 hcl1 hcl2 hcl3 HRg instK HJ2 x
       have K2 : Hid ((Tryz.prog.info? 34).map (·.size) = some (cw (orL [clsW R, rgW (b, b)])).size) := cw_info.1
       go_wp2_with (first
        | (go_at_call 34; refine (or2 _ _ (clsW R) (rgW (b, b)) (hrow.new _ _ _) (clsW_words R) (rgW_words _)).mono ?_; rintro e w2 ⟨rfl, hb2⟩; have HX2 := Lib.hid (HX.out.below (((Below.refl _ _).alloc (Nat.le_refl _) _).trans (hb2.mono (by simp)))); have HC2 := Lib.hid HX2.out.1; clear hb2)
        | (with_reducible refine wpList_store_row rfl 34 (.tmp 4) (.tmp 86) rfl B (cw (orL [clsW R, rgW (b, b)])) rfl rfl 34 _ HC2.out.h K2.out rfl (cw_one _) ?_))
       have HX3 := Lib.hid (HX2.out.step (b, b) (n + m) HN2.out)
       go_roundw
       case rel => exact ⟨(n + m), R ++ [(b, b)], by have := HK1.out; omega, by have := HN3.out; omega, by go_num, HX3.out⟩
       case measure => have := HRL.out.1; simp [intOf]; omega
   ·have hnI : ¬ (n : Int) < s.size := by omega
    have HE : Hid (stR (s.data.toList.drop k) = none) := by
     have := HJ.out.2.2.2.2.2.2
     unfold Hid
     rw [this, List.drop_eq_nil_of_le (by rw [ba_len]; omega)]; rfl
    have HJ2 := HJ
    clear hn HJ
    have HR := Lib.hid HJ2.out.2.2.2.1
    have HB := Lib.hid HJ2.out.2.1
    clear HJ2
    go_wp2_with (with_reducible refine store_word rfl (.tmp 2) (.tmp 88) rfl w.heap.size _ _ _ _ _ _ _ _ _ rfl rfl HR.out ?_)
    refine bodyPost_ret (results_word rfl _ _ w.heap.size _ _ rfl rfl HR.out ?_) rfl ?_
    next => rfl
    next => first | exact ⟨rfl, below_setRow HB.out (Nat.le_refl _) _⟩ | exact ⟨by rw [HE.out]; rfl, below_setRow HB.out (Nat.le_refl _) _⟩
 ·have hqb : ((s.data.toList.drop k).head? == some 91) = false := by rw [Bool.eq_false_iff]; simpa using hq
  have HE : Hid (stR (s.data.toList.drop k) = none) := by
   unfold Hid stR
   split
   next c t h =>
    rw [h] at hq
    rw [if_neg (by simpa using hq)]
   next => rfl
  clear hq
  go_enter Tryz.func18, Tryz.ntmps18
  go_wp2_with fail
  have HB := Lib.hid ((Below.refl w.heap.size w).alloc (Nat.le_refl _) (.cells #[.int .i64 0, .int .i64 0, .int .i64 0, .string ⟨#[]⟩, .int .i64 0, .int .u64 0, .int .u64 0, .int .u64 0, .int .u64 0] 36))
  have HR := Lib.hid (show hrow (w.alloc (.cells #[.int .i64 0, .int .i64 0, .int .i64 0, .string ⟨#[]⟩, .int .i64 0, .int .u64 0, .int .u64 0, .int .u64 0, .int .u64 0] 36)) w.heap.size wd0 36 from hrow.new _ _ _)
  replace HRD := Lib.hid (Rdr.below HRD.out HB.out)
  revert HB HR HRD
  generalize w.alloc (.cells #[.int .i64 0, .int .i64 0, .int .i64 0, .string ⟨#[]⟩, .int .i64 0, .int .u64 0, .int .u64 0, .int .u64 0, .int .u64 0] 36) = wb
  intro HB HR HRD
  have HRN : Hid (∀ n, hrow (wb.drewN n) w.heap.size wd0 36) := Lib.hid (fun _ => HR.out)
  clear HRN
  go_wp2_with fail
  refine (hHH.out _ HRD.out).mono ?_
  rintro e x ⟨rfl, hb⟩
  replace HR := Lib.hid (HR.out.below hb)
  replace HRD := Lib.hid (Rdr.below HRD.out hb)
  replace HB := Lib.hid (HB.out.trans (hb.mono HB.out.size))
  clear hb
  rw [hqb]
  clear hqb hHH
  go_wp2_with (with_reducible refine store_word rfl (.tmp 2) (.tmp 15) rfl w.heap.size _ _ _ _ _ _ _ _ _ rfl rfl HR.out ?_)
  refine bodyPost_ret (results_word rfl _ _ w.heap.size _ _ rfl rfl HR.out ?_) rfl ?_
  next => rfl
  next => first | exact ⟨rfl, below_setRow HB.out (Nat.le_refl _) _⟩ | exact ⟨by rw [HE.out]; rfl, below_setRow HB.out (Nat.le_refl _) _⟩
end Go.Proofs.YtnfkcdnkmcifbaaGreatDoor
namespace Go.Proofs.YtnfkcdnkmcifbaaGreatDoor
open Go.RowKit
set_option maxRecDepth 100000
set_option maxHeartbeats 4000000

theorem elemBy : Elem Tryz.prog 25 5 1 1 (.int .u8 0) := ⟨by kernel_rfl, by kernel_rfl, by decide, by decide⟩
/-- The bytes of a row as a text. -/
theorem conv_sv (w : World) (ao : Option Addr) (n cap : Nat) (l : List UInt8) (h : Sv w ao n cap 1 (Lib.byteCells l)) (hn : n = l.length) : (convert 25 9 (.slice ao n cap)).run Tryz.prog w = .ok (.string (tx l)) w := by
 subst hn
 cases ao with
 | none =>
  have h0 : l = [] := by
   have h1 := h.nn rfl
   have h2 := h.le
   exact List.eq_nil_of_length_eq_zero (by omega)
  subst h0
  rw [run_convert_bytes_string w 25 9 5 none _ cap (by kernel_rfl) (by kernel_rfl) (by kernel_rfl)]
  rfl
 | some a =>
  refine run_convert_bytes_back w _ _ 5 a cap l (by kernel_rfl) (by kernel_rfl) (by kernel_rfl) (fun j hj => ?_)
  obtain ⟨a', e, hc⟩ := h.cell j (by simp [Lib.byteCells]; exact hj)
  cases e
  rw [hc]
  simp [Lib.byteCells, hj]
def rqV (o : Option Wr) (k : Nat) : Value := match o with
 | some r => .agg (wdv r k)
 | none => .agg wd0
theorem rquoted_any (s : ByteArray) (k0 : Nat) (w : World) (hs : s.size ≤ 1000000) (hk0 : k0 < s.size) : Calls Tryz.prog 38 #[.string s, .int .i64 k0] w fun e w' => e = .returned (rqV ((qdS (s.data.toList.drop (k0 + 1))).map fun q => ⟨3, 1 + q.2, q.1, 0, []⟩) k0) ∧ Below w.heap.size w w' := by
 have HS := Lib.hid hs
 have HR := Lib.hid (fun (k : Nat) x => rread_any 1 s k x hs)
 have HK0 := Lib.hid hk0
 have hk0I : (k0 : Int) < s.size := by omega
 have hkb0 : (s.size : Int) ≤ 1000000 := by omega
 clear hs
 have hk00 : (0 : Int) ≤ k0 := by omega
 go_enter Tryz.func38, Tryz.ntmps38
 go_wp2_with fail
 have HB := Lib.hid ((Below.refl w.heap.size w).alloc (Nat.le_refl _) (.cells #[.int .i64 0, .int .i64 0, .int .i64 0, .string ⟨#[]⟩, .int .i64 0, .int .u64 0, .int .u64 0, .int .u64 0, .int .u64 0] 43))
 have HR0 := Lib.hid (show hrow (w.alloc (.cells #[.int .i64 0, .int .i64 0, .int .i64 0, .string ⟨#[]⟩, .int .i64 0, .int .u64 0, .int .u64 0, .int .u64 0, .int .u64 0] 43)) w.heap.size wd0 43 from hrow.new _ _ _)
 generalize w.alloc (.cells #[.int .i64 0, .int .i64 0, .int .i64 0, .string ⟨#[]⟩, .int .i64 0, .int .u64 0, .int .u64 0, .int .u64 0, .int .u64 0] 43) = wb at *
 clear hkb0
 go_loopw [5, 6] (fun v i wr => ∃ (k : Nat) (acc : List UInt8), k0 + 1 ≤ k ∧ k ≤ s.size ∧ i = .int .i64 k ∧ Hid (Own wb wr 5 1 v acc.length (Lib.byteCells acc) ∧ acc.length ≤ k ∧ qdS (s.data.toList.drop (k0 + 1)) = (qdS (s.data.toList.drop k)).map fun q => (acc ++ q.1, k - (k0 + 1) + q.2))) (fun _ i _ => s.size - (intOf i).toNat)
 case atStart => exact ⟨k0 + 1, [], Nat.le_refl _, hk0, by go_num, Own.nil wb _ _, by simp, by simp⟩
 case round =>
  obtain ⟨k, acc, hkk, hk, rfl, HI⟩ := hrel
  have HKK := Lib.hid hkk; clear hkk
  by_cases hlt : k < s.size
  ·have hkI : (k : Int) < s.size := by omega
   have hk1 : (0 : Int) ≤ k := by omega
   have hkb : (s.size : Int) ≤ 1000000 := by have := HS.out; omega
   obtain ⟨c, hc⟩ : ∃ c, s[k] = c := ⟨_, rfl⟩
   have HD := Lib.hid (drop_at hlt)
   rw [hc] at HD
   have HRk := Lib.hid (HR.out k)
   have HK := Lib.hid hlt
   by_cases h34 : (c.toNat : Int) = 34
   ·have hc34 : c = 34 := by have : c.toNat = 34 := by omega
                             exact UInt8.toNat_inj.1 this
    have HE : Hid (qdS (s.data.toList.drop (k0 + 1)) = some (acc, k - (k0 + 1) + 1)) := by
     unfold Hid; rw [HI.out.2.2, HD.out, hc34, qd_close]; simp
    obtain ⟨ao, cap, rfl, hsv⟩ := HI.out.1.sv
    have HCv := conv_sv wr ao _ cap acc hsv rfl
    have hge : ¬ (s.size : Int) ≤ k := by omega
    have HR1 := Lib.hid (HR0.out.below (HI.out.1.2.mono (by have := HI.out.1.2.size; exact Nat.le_refl _)))
    have HB1 := Lib.hid (HB.out.trans (HI.out.1.2.mono HB.out.size))
    have HNX : Hid ((k : Int) + 1 = k0 + (1 + (k - (k0 + 1) + 1) : Nat)) := by have := HKK.out; unfold Hid; omega
    clear hsv HRk HR
    go_wp2_with (first
     | (with_reducible refine store_rword rfl (.tmp 4) (.tmp 47) rfl w.heap.size _ _ _ _ _ _ _ _ _ rfl rfl HR1.out ?_))
    refine bodyPost_ret (results_rword rfl _ _ w.heap.size _ rfl HR1.out rfl) rfl ?_
    exact ⟨by rw [HE.out, HNX.out]; rfl, below_setRow HB1.out (Nat.le_refl _) _⟩
   ·have hc34 : c ≠ 34 := fun e => h34 (by rw [e]; rfl)
    have HO := Lib.hid (HRk.out wr)
    rw [rdA_at 1 s k hlt, HD.out] at HO
    clear HRk HR
    cases hq : rd 1 (c :: s.data.toList.drop (k + 1)) with
    | none =>
     have HE : Hid (qdS (s.data.toList.drop (k0 + 1)) = none) := by
      unfold Hid; rw [HI.out.2.2, HD.out, qd_bad hc34 hq]; rfl
     rw [hq] at HO
     unfold rdV at HO
     have HB1 := Lib.hid (HB.out.trans (HI.out.1.2.mono HB.out.size))
     have HR1 := Lib.hid (HR0.out.below HI.out.1.2)
     clear hq hc34
     go_wp2_with fail
     refine HO.out.mono ?_
     rintro e y ⟨rfl, hb⟩
     have HR2 := Lib.hid (HR1.out.below hb)
     have HB2 := Lib.hid (HB1.out.trans (hb.mono HB1.out.size))
     clear HO hb
     go_wp2_with (first
      | (with_reducible refine store_rword rfl (.tmp 4) (.tmp 31) rfl w.heap.size _ _ _ _ _ _ _ _ _ rfl rfl HR2.out ?_))
     refine bodyPost_ret (results_rword rfl _ _ w.heap.size _ rfl HR2.out rfl) rfl ?_
     exact ⟨by rw [HE.out]; rfl, below_setRow HB2.out (Nat.le_refl _) _⟩
    | some q =>
     obtain ⟨b, n⟩ := q
     have hn := rd_len hq
     rw [← HD.out, List.length_drop, ba_len] at hn
     have HN := Lib.hid hn
     have HE : Hid (qdS (s.data.toList.drop (k0 + 1)) = (qdS (s.data.toList.drop (k + n))).map fun q => ((acc ++ [b]) ++ q.1, k + n - (k0 + 1) + q.2)) := by
      unfold Hid
      rw [HI.out.2.2, HD.out, qd_step hc34 hq, ← HD.out, List.drop_drop, Option.map_map]
      congr 1
      funext q
      have := HKK.out
      simp only [Function.comp, Prod.mk.injEq, List.append_assoc, List.singleton_append, true_and]
      omega
     rw [hq] at HO
     unfold rdV at HO
     have HA := Lib.hid HI.out.1
     have HAC := Lib.hid HI.out.2.1
     clear hq hn HI hc34
     go_wp2_with fail
     refine HO.out.mono ?_
     rintro e y ⟨rfl, hb⟩
     have HA2 := Lib.hid (HA.out.below hb); clear hb HA HO
     go_wp2_with (at_builtin; refine wpList_app1 wb _ rfl (.tmp 32) (.tmp 34) 25 5 rfl elemBy _ acc.length (Lib.byteCells acc) rfl HA2.out #[.int .u8 b.toNat] rfl rfl (by simp [Value.oneCell']) (by have := HAC.out; have := HS.out; have := HK.out; omega) (by have := HAC.out; have := HS.out; have := HK.out; unfold maxLen; omega) ?_; intro v' w8 hO8; have HO8 := Lib.hid hO8; clear hO8)
     have H8 : Hid (Own wb w8 5 1 v' (acc ++ [b]).length (Lib.byteCells (acc ++ [b]))) := by
      unfold Hid
      rw [Lib.byteCells_append, List.length_append]
      exact HO8.out
     go_roundw
     case rel => exact ⟨k + n, acc ++ [b], by have := HKK.out; omega, by have := HN.out; omega, by go_num, H8.out, by have := HAC.out; have := HN.out; simp; omega, HE.out⟩
     case measure => have := HN.out; have := HK.out; simp [intOf]; omega
  ·have hkI : ¬ (k : Int) < s.size := by omega
   have hge : (s.size : Int) ≤ k := by omega
   have HE : Hid (qdS (s.data.toList.drop (k0 + 1)) = none) := by
    unfold Hid; rw [HI.out.2.2, List.drop_eq_nil_of_le (by rw [ba_len]; omega), qd_nil]; rfl
   have HR1 := Lib.hid (HR0.out.below HI.out.1.2)
   have HB1 := Lib.hid (HB.out.trans (HI.out.1.2.mono HB.out.size))
   clear HR
   go_wp2_with (first
     | (with_reducible refine store_rword rfl (.tmp 4) (.tmp 41) rfl w.heap.size _ _ _ _ _ _ _ _ _ rfl rfl HR1.out ?_))
   refine bodyPost_ret (results_rword rfl _ _ w.heap.size _ rfl HR1.out rfl) rfl ?_
   exact ⟨by rw [HE.out]; rfl, below_setRow HB1.out (Nat.le_refl _) _⟩
end Go.Proofs.YtnfkcdnkmcifbaaGreatDoor
