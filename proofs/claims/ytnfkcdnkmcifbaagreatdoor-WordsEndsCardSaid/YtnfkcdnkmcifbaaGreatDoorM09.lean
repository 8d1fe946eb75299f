/- Walks and plain laws: S2 E9 Eb Ec. -/
import Derived.Test.YtnfkcdnkmcifbaaGreatDoorM08
import Derived.Test.YtnfkcdnkmcifbaaGreatDoorM04
import Derived.Deep.QuietTactic
import Derived.BigQuiet
namespace Go.Proofs.YtnfkcdnkmcifbaaGreatDoor
open Go.RowKit
set_option maxRecDepth 100000
set_option maxHeartbeats 4000000

/-- A text between two places. -/
theorem mid_run {P : Program} (t : TypeId) (ht : P.underlying t = some .string) (s : ByteArray) (i n : Nat) (a b : Int) (ha : a = i) (hb : b = ((i + n : Nat) : Int)) (h : i + n ≤ s.size) (wx : World) :
  (Instr.slice t (.string s) (some (.int .i64 a)) (some (.int .i64 b)) none).run P wx = .ok (.string (tx ((s.data.toList.drop i).take n))) wx := by
 subst ha hb
 have := run_slice_string_if (P := P) wx t s .i64 .i64 i (i + n : Nat) ht
 rw [this, if_pos (by omega), if_pos (by omega)]
 congr 2
 apply ByteArray.ext
 rw [ByteArray.data_extract]
 unfold tx
 apply Array.toList_inj.1
 have e : ((i : Int) + (n : Int)).toNat - i = n := by omega
 simp [List.take_drop, e]
/-- The capped number of digits. -/
def capL (ds : List UInt8) : Int := ds.foldl (fun n c => min (10 * n + ((c.toNat : Int) - 48)) 9999) 0
theorem capL_snoc (ds : List UInt8) (c : UInt8) : capL (ds ++ [c]) = min (10 * capL ds + ((c.toNat : Int) - 48)) 9999 := by unfold capL; rw [List.foldl_append]; rfl
theorem dg_bd {c : UInt8} (h : isDg c = true) : 48 ≤ (c.toNat : Int) ∧ (c.toNat : Int) ≤ 57 := u8_all (P := fun c => isDg c = true → 48 ≤ (c.toNat : Int) ∧ (c.toNat : Int) ≤ 57) (by decide +kernel) c h
theorem capL_bd : ∀ (ds : List UInt8), (∀ c ∈ ds, isDg c = true) → 0 ≤ capL ds ∧ capL ds ≤ 9999 := by
 intro ds hd
 suffices h : ∀ (ds : List UInt8) (a : Int), (∀ c ∈ ds, isDg c = true) → 0 ≤ a → a ≤ 9999 → 0 ≤ ds.foldl (fun n c => min (10 * n + ((c.toNat : Int) - 48)) 9999) a ∧ ds.foldl (fun n c => min (10 * n + ((c.toNat : Int) - 48)) 9999) a ≤ 9999 from h ds 0 hd (by omega) (by omega)
 intro ds
 induction ds with
 | nil => intro a _ h0 h1; exact ⟨h0, h1⟩
 | cons c ds ih =>
  intro a hd h0 h1
  have := dg_bd (hd c (by simp))
  exact ih _ (fun x hx => hd x (by simp [hx])) (by show 0 ≤ min (10 * a + ((c.toNat : Int) - 48)) 9999; omega) (by show min (10 * a + ((c.toNat : Int) - 48)) 9999 ≤ 9999; omega)
theorem capL_lvl (ds : List UInt8) (hd : ∀ c ∈ ds, isDg c = true) : lvl ds = if 4 < ds.length then 9999 else capL ds := by
 unfold lvl
 split
 ·rfl
 ·rename_i h
  unfold lvF capL
  match ds, hd, h with
  | [], _, _ => rfl
  | [a], hd, _ =>
   have h1 := dg_bd (hd a (by simp))
   simp only [List.foldl]; omega
  | [a, b], hd, _ =>
   have h1 := dg_bd (hd a (by simp)); have h2 := dg_bd (hd b (by simp))
   simp only [List.foldl]; omega
  | [a, b, c], hd, _ =>
   have h1 := dg_bd (hd a (by simp)); have h2 := dg_bd (hd b (by simp)); have h3 := dg_bd (hd c (by simp))
   simp only [List.foldl]; omega
  | [a, b, c, d], hd, _ =>
   have h1 := dg_bd (hd a (by simp)); have h2 := dg_bd (hd b (by simp)); have h3 := dg_bd (hd c (by simp)); have h4 := dg_bd (hd d (by simp))
   simp only [List.foldl]; omega
  | _ :: _ :: _ :: _ :: _ :: _, _, h => simp at h
theorem nameW_no {l : List UInt8} {m : Nat} (hm : m = (l.takeWhile isLD).length) (h : ∀ c d t, l.dropWhile isLD = c :: d :: t → (c == 58 && isDg d) = false) : nameW l = ⟨2, m, l.take m, -1, []⟩ := by
 have ht : l.take m = l.takeWhile isLD := by rw [hm]; exact take_tw l
 unfold nameW
 rw [ht, hm]
 split
 ·rename_i c d t hd
  rw [if_neg (by rw [h c d t hd]; decide)]
 ·rfl
theorem nameW_yes {l t : List UInt8} {m : Nat} {d : UInt8} (hm : m = (l.takeWhile isLD).length) (hd : l.dropWhile isLD = 58 :: d :: t) (h : isDg d = true) :
  nameW l = ⟨2, m + 1 + ((d :: t).takeWhile isDg).length, l.take m, lvl ((d :: t).takeWhile isDg), []⟩ := by
 have ht : l.take m = l.takeWhile isLD := by rw [hm]; exact take_tw l
 unfold nameW
 rw [ht, hm, hd]
 simp only []
 rw [if_pos (by rw [h]; rfl)]
theorem clsW0 (i : Nat) : clsW [] i = 0 := rfl
theorem rw_info : (Tryz.prog.info? 43).map (·.size) = some 9 := by decide +kernel
theorem rw_sz {cs : Array Value} (h : cs.size = 9) : (Tryz.prog.info? 43).map (·.size) = some cs.size := h ▸ rw_info
/-- The store of a word into a block that holds none. -/
theorem store_rword {ops : Array Oper} {rest : List Oper} {o : Oper} {a : Act} {w : World} {Q : Exit → Act → World → Prop} (hgd : o.guard = none) (x y : Operand) (ho : o.op = .store 43 x y)
    (g : Nat) (kind at_ nx : Int) (t : ByteArray) (lv c0 c1 c2 c3 : Int) (hx : a.eval x = .pointer (some ⟨g, 0, none⟩)) (hy : a.eval y = .agg #[.int .i64 kind, .int .i64 at_, .int .i64 nx, .string t, .int .i64 lv, .int .u64 c0, .int .u64 c1, .int .u64 c2, .int .u64 c3])
    (hg : hrow w g wd0 43)
    (h : wpList Tryz.prog ops Q rest (a.put o.dst undef) (w.setRow g #[.int .i64 kind, .int .i64 at_, .int .i64 nx, .string t, .int .i64 lv, .int .u64 c0, .int .u64 c1, .int .u64 c2, .int .u64 c3])) : wpList Tryz.prog ops Q (o :: rest) a w :=
  wpList_store_row hgd _ x y ho g _ hx hy _ _ hg.h (rw_sz rfl) rfl (wd_all ..) h
theorem load_rword {ops : Array Oper} {rest : List Oper} {o : Oper} {a : Act} {w : World} {Q : Exit → Act → World → Prop} (hgd : o.guard = none) (x : Operand) (ho : o.op = .load 43 x)
    (g : Nat) (hx : a.eval x = .pointer (some ⟨g, 0, none⟩)) (kind at_ nx : Int) (t : ByteArray) (lv c0 c1 c2 c3 : Int)
    (hg : hrow w g #[.int .i64 kind, .int .i64 at_, .int .i64 nx, .string t, .int .i64 lv, .int .u64 c0, .int .u64 c1, .int .u64 c2, .int .u64 c3] 43)
    (h : wpList Tryz.prog ops Q rest (a.put o.dst (.agg #[.int .i64 kind, .int .i64 at_, .int .i64 nx, .string t, .int .i64 lv, .int .u64 c0, .int .u64 c1, .int .u64 c2, .int .u64 c3])) w) : wpList Tryz.prog ops Q (o :: rest) a w :=
  wpList_load_row hgd _ x ho g hx _ _ _ _ hg.h Tryz.underlying43 rfl (rw_sz rfl) h
theorem results_rword {fn : Func} {p : Tmp} (h : fn.results = #[.cell p 43]) (tmps : Array Value) (w : World) (g : Nat) (cs : Array Value)
    (hp : tmps.getD p undef = .pointer (some ⟨g, 0, none⟩)) (hg : hrow w g wd0 43) (hs : cs.size = 9) : (results fn tmps).run Tryz.prog (w.setRow g cs) = .ok (.agg cs) (w.setRow g cs) :=
  results_cell_row h tmps _ g 43 _ _ _ hp (setRow_heap _ _ _ _ _ _ hg) Tryz.underlying43 rfl (rw_sz hs)
theorem rnamed_any (s : ByteArray) (k0 : Nat) (w : World) (hs : s.size ≤ 1000000) (hk0 : k0 ≤ s.size) : Calls Tryz.prog 37 #[.string s, .int .i64 k0] w fun e w' => e = .returned (.agg (wdv (nameW (s.data.toList.drop k0)) k0)) ∧ Below w.heap.size w w' := by
 have HS := Lib.hid hs; clear hs
 have h0 : (0 : Int) ≤ k0 := by omega
 obtain ⟨m, hm⟩ : ∃ m, m = ((s.data.toList.drop k0).takeWhile isLD).length := ⟨_, rfl⟩
 have hmk : k0 + m ≤ s.size := by have := tw_len isLD (s.data.toList.drop k0); rw [List.length_drop, ba_len] at this; omega
 have HM := Lib.hid hm; clear hm
 have HMK := Lib.hid hmk; clear hmk
 go_enter Tryz.func37, Tryz.ntmps37
 go_wp2_with fail
 have HB0 := Lib.hid ((Below.refl w.heap.size w).alloc (Nat.le_refl _) (.cells #[.int .i64 0, .int .i64 0, .int .i64 0, .string ⟨#[]⟩, .int .i64 0, .int .u64 0, .int .u64 0, .int .u64 0, .int .u64 0] 43))
 have HR0 := Lib.hid (show hrow (w.alloc (.cells #[.int .i64 0, .int .i64 0, .int .i64 0, .string ⟨#[]⟩, .int .i64 0, .int .u64 0, .int .u64 0, .int .u64 0, .int .u64 0] 43)) w.heap.size wd0 43 from hrow.new _ _ _)
 go_loopw [5] (fun i wr => ∃ k : Nat, k0 ≤ k ∧ k ≤ s.size ∧ i = .int .i64 k ∧ Hid (k0 + m = k + ((s.data.toList.drop k).takeWhile isLD).length ∧ hrow wr w.heap.size wd0 43 ∧ Below w.heap.size w wr)) (fun i _ => s.size - (intOf i).toNat)
 case atStart => exact ⟨k0, Nat.le_refl _, hk0, rfl, by rw [← HM.out], HR0.out, HB0.out⟩
 case round =>
  clear HB0 HR0
  obtain ⟨k, hkk, hk, rfl, HI⟩ := hrel
  by_cases hlt : k < s.size
  ·have hkI : (k : Int) < s.size := by omega
   have hk1 : (0 : Int) ≤ k := by omega
   have hkb : (s.size : Int) ≤ 1000000 := by have := HS.out; omega
   obtain ⟨c, hc⟩ : ∃ c, s[k] = c := ⟨_, rfl⟩
   have HD := Lib.hid (drop_at hlt)
   rw [hc] at HD
   have HL := Lib.hid (rlet_any c wr)
   have HDg := Lib.hid (rdig_any c wr)
   have HKK : Hid (k0 ≤ k ∧ k < s.size) := ⟨hkk, hlt⟩
   cases hl : isLt c with
   | true =>
    rw [hl] at HL
    have HN : Hid (k0 + m = k + 1 + ((s.data.toList.drop (k + 1)).takeWhile isLD).length) := by
     have := HI.out.1; rw [HD.out, List.takeWhile_cons, if_pos (by unfold isLD; rw [hl]; rfl), List.length_cons] at this; unfold Hid; omega
    clear hkk hl
    go_wp2_with fail
    refine HL.out.mono ?_
    rintro e x ⟨rfl, rfl⟩
    go_wp2_with fail
    go_roundw
    case rel => exact ⟨k + 1, by have := HKK.out; omega, HKK.out.2, by go_num, HN.out, HI.out.2⟩
    case measure => have := HKK.out; simp [intOf]; omega
   | false =>
    rw [hl] at HL
    cases hd : isDg c with
    | true =>
     rw [hd] at HDg
     have HN : Hid (k0 + m = k + 1 + ((s.data.toList.drop (k + 1)).takeWhile isLD).length) := by
      have := HI.out.1; rw [HD.out, List.takeWhile_cons, if_pos (by unfold isLD; rw [hl, hd]; rfl), List.length_cons] at this; unfold Hid; omega
     clear hkk hl hd
     go_wp2_with fail
     refine HL.out.mono ?_
     rintro e x ⟨rfl, rfl⟩
     go_wp2_with fail
     refine HDg.out.mono ?_
     rintro e x ⟨rfl, rfl⟩
     go_wp2_with fail
     go_roundw
     case rel => exact ⟨k + 1, by have := HKK.out; omega, HKK.out.2, by go_num, HN.out, HI.out.2⟩
     case measure => have := HKK.out; simp [intOf]; omega
    | false =>
     rw [hd] at HDg
     have hkm : k = k0 + m := by
      have := HI.out.1; rw [HD.out, List.takeWhile_cons, if_neg (by unfold isLD; rw [hl, hd]; decide)] at this; simpa using this.symm
     subst hkm
     have HTW : Hid ((s.data.toList.drop k0).dropWhile isLD = c :: s.data.toList.drop (k0 + m + 1)) := by unfold Hid; rw [drop_tw, ← HM.out, List.drop_drop]; exact HD.out
     have hsl : ∀ wx, (Instr.slice 9 (.string s) (some (.int .i64 k0)) (some (.int .i64 (k0 + m))) none).run Tryz.prog wx = .ok (.string (tx ((s.data.toList.drop k0).take m))) wx := mid_run 9 Tryz.underlying9 s k0 m k0 (k0 + m) rfl (by omega) HMK.out
     clear hkk hl hd
     go_wp2_with fail
     refine HL.out.mono ?_
     rintro e x ⟨rfl, rfl⟩
     go_wp2_with fail
     refine HDg.out.mono ?_
     rintro e x ⟨rfl, rfl⟩
     have hbl := (Below.refl x.heap.size x).alloc (Nat.le_refl _) (.cells #[.int .i64 2, .int .i64 k0, .int .i64 (k0 + m), .string (tx ((s.data.toList.drop k0).take m)), .int .i64 (-1), .int .u64 0, .int .u64 0, .int .u64 0, .int .u64 0] 43)
     have HW := Lib.hid (hrow.new x #[.int .i64 2, .int .i64 k0, .int .i64 (k0 + m), .string (tx ((s.data.toList.drop k0).take m)), .int .i64 (-1), .int .u64 0, .int .u64 0, .int .u64 0, .int .u64 0] 43)
     have HR := Lib.hid (HI.out.2.1.below hbl)
     have HB := Lib.hid (HI.out.2.2.trans (hbl.mono HI.out.2.2.size))
     clear hbl
     by_cases h1 : k0 + m + 1 < s.size
     ·obtain ⟨d, hd'⟩ : ∃ d, s[k0 + m + 1] = d := ⟨_, rfl⟩
      have HD2 := Lib.hid (drop_at h1)
      rw [hd'] at HD2
      have h1I : ((k0 + m : Nat) : Int) + 1 < s.size := by omega
      by_cases h58 : (c.toNat : Int) = 58
      ·have hc58 : c = 58 := by have : c.toNat = 58 := by omega
                                exact UInt8.toNat_inj.1 this
       have HDd := Lib.hid (fun y => rdig_any d y)
       cases hdd : isDg d with
       | true =>
        rw [hdd] at HDd
        have hdc : decide ((s.size : Int) ≤ (k0 : Int) + m + 1) = false := decide_eq_false (by omega)
        go_wp2_with fail
        refine (HDd.out _).mono ?_
        rintro e y ⟨rfl, rfl⟩
        go_wp2_with fail
        have HGW := Lib.hid (HI.out.2.1.lt)
        have HI2 : Hid (hrow (x.alloc (.cells #[.int .i64 2, .int .i64 k0, .int .i64 (k0 + m), .string (tx ((s.data.toList.drop k0).take m)), .int .i64 0, .int .u64 0, .int .u64 0, .int .u64 0, .int .u64 0] 43)) x.heap.size #[.int .i64 2, .int .i64 k0, .int .i64 (k0 + m), .string (tx ((s.data.toList.drop k0).take m)), .int .i64 0, .int .u64 0, .int .u64 0, .int .u64 0, .int .u64 0] 43 ∧ hrow (x.alloc (.cells #[.int .i64 2, .int .i64 k0, .int .i64 (k0 + m), .string (tx ((s.data.toList.drop k0).take m)), .int .i64 0, .int .u64 0, .int .u64 0, .int .u64 0, .int .u64 0] 43)) w.heap.size wd0 43 ∧ Below w.heap.size w (x.alloc (.cells #[.int .i64 2, .int .i64 k0, .int .i64 (k0 + m), .string (tx ((s.data.toList.drop k0).take m)), .int .i64 0, .int .u64 0, .int .u64 0, .int .u64 0, .int .u64 0] 43))) := ⟨hrow.new _ _ _, HI.out.2.1.below ((Below.refl _ _).alloc (Nat.le_refl _) _), HI.out.2.2.alloc HI.out.2.2.size _⟩
        obtain ⟨D, hDD⟩ : ∃ D, D = (s.data.toList.drop (k0 + m + 1)).takeWhile isDg := ⟨_, rfl⟩
        have HE : Hid (nameW (s.data.toList.drop k0) = ⟨2, m + 1 + D.length, (s.data.toList.drop k0).take m, lvl D, []⟩) := by
         unfold Hid; rw [hDD, HD2.out]; exact nameW_yes HM.out (by rw [HTW.out, hc58, HD2.out]) hdd
        have HAll : Hid (∀ c ∈ D, isDg c = true) := by unfold Hid; rw [hDD]; exact tw_all isDg _
        have HDD := Lib.hid hDD
        have HH1 := Lib.hid h1
        clear HW HR HB HI HL HDg HDd hsl HTW HD HD2 hc58 hdd h58 hd' hc hDD h1
        generalize x.alloc (.cells #[.int .i64 2, .int .i64 k0, .int .i64 (k0 + m), .string (tx ((s.data.toList.drop k0).take m)), .int .i64 0, .int .u64 0, .int .u64 0, .int .u64 0, .int .u64 0] 43) = y at *
        generalize x.heap.size = g6 at *
        go_loopw [5] (fun i wr => ∃ (k : Nat) (pre : List UInt8), k0 + m + 1 + pre.length = k ∧ k ≤ s.size ∧ i = .int .i64 k ∧ Hid (D = pre ++ (s.data.toList.drop k).takeWhile isDg ∧ hrow wr g6 #[.int .i64 2, .int .i64 k0, .int .i64 (k0 + m), .string (tx ((s.data.toList.drop k0).take m)), .int .i64 (capL pre), .int .u64 0, .int .u64 0, .int .u64 0, .int .u64 0] 43 ∧ hrow wr w.heap.size wd0 43 ∧ Below w.heap.size w wr)) (fun i _ => s.size - (intOf i).toNat)
        case atStart => exact ⟨k0 + m + 1, [], rfl, by have := HH1.out; omega, by go_num, by rw [← HDD.out]; rfl, HI2.out⟩
        case round =>
         clear HI2
         obtain ⟨k, pre, hkp, hk2, rfl, HI⟩ := hrel
         have HKP := Lib.hid hkp; clear hkp
         by_cases hlt2 : k < s.size
         ·have hkI2 : (k : Int) < s.size := by omega
          have hk12 : (0 : Int) ≤ k := by omega
          obtain ⟨c2, hc2⟩ : ∃ c, s[k] = c := ⟨_, rfl⟩
          have HD := Lib.hid (drop_at hlt2)
          rw [hc2] at HD
          have HDg := Lib.hid (fun z => rdig_any c2 z)
          have HK := Lib.hid hlt2
          cases hd2 : isDg c2 with
          | true =>
           rw [hd2] at HDg
           have HNx : Hid (D = (pre ++ [c2]) ++ (s.data.toList.drop (k + 1)).takeWhile isDg) := by
            have := HI.out.1; rw [HD.out, List.takeWhile_cons, if_pos hd2] at this; unfold Hid; rw [this]; simp
           obtain ⟨hx1, hx2⟩ := dg_bd hd2
           obtain ⟨hl1, hl2⟩ := capL_bd pre (fun x hx => HAll.out x (by rw [HI.out.1]; simp [hx]))
           have HSn := Lib.hid (capL_snoc pre c2)
           have hwr : IntKind.u8.wrap ((c2.toNat : Int) - 48) = (c2.toNat : Int) - 48 := by simp [IntKind.wrap, IntKind.bits, IntKind.signed]; omega
           have q4 : ∀ x : Later wr, x.val.cell? ⟨g6, 4, none⟩ = some (.int .i64 (capL pre)) := fun x => hrow.cell (HI.out.2.1.below x.ok) 4
           have qf : ∀ x : Later wr, x.val.frozen? ⟨g6, 4, none⟩ = false := fun x => hrow.frozen (HI.out.2.1.below x.ok) 4
           go_wp2_with fail
           refine (HDg.out _).mono ?_
           rintro e z ⟨rfl, rfl⟩
           go_wp2_with fail
           refine wp_region_later_tail 11 (by kernel_rfl) (by kernel_rfl) ?_
           simp only [List.take_succ_cons, List.take_zero, List.drop_succ_cons, List.drop_zero]
           repeat (go_big_quiet_step (fail))
           refine wpQuiet_nil ?_
           intro w5 hw5
           obtain ⟨x, rfl⟩ := hw5
           go_wp2_with fail
           go_roundw
           case rel =>
            refine ⟨k + 1, pre ++ [c2], by have := HKP.out; simp; omega, HK.out, by go_num, HNx.out, ?_, (HI.out.2.2.1.below x.ok).fr (Fr.setCell _ ⟨g6, 4, none⟩ _) (by have := HGW.out; simp; omega), (HI.out.2.2.2.trans (x.ok.mono HI.out.2.2.2.size)).setCell (p := ⟨g6, 4, none⟩) (Nat.le_of_lt HGW.out) _⟩
            rw [HSn.out]
            exact hrow.setCell (HI.out.2.1.below x.ok) 4 _
           case measure => have := HK.out; simp [intOf]; omega
          | false =>
           rw [hd2] at HDg
           have HZ : Hid ((s.data.toList.drop k).takeWhile isDg = []) := by unfold Hid; rw [HD.out, List.takeWhile_cons, if_neg (by rw [hd2]; decide)]
           have HDP : Hid (D = pre) := by have := HI.out.1; rw [HZ.out, List.append_nil] at this; exact this
           have HLV := Lib.hid (capL_lvl D HAll.out)
           rw [HDP.out] at HLV HE
           have e2 : ((k : Int) - ((k0 : Int) + m)) = pre.length + 1 := by have := HKP.out; omega
           obtain ⟨q0, q1, q2, q3, q4, q5, q6, q7, q8⟩ := hrow.c9 HI.out.2.1
           obtain ⟨f0, f1, f2, f3, f4, f5, f6, f7, f8⟩ := hrow.f9 HI.out.2.1
           have HNX : Hid ((k : Int) = k0 + (m + 1 + pre.length : Nat)) := by have := HKP.out; unfold Hid; omega
           by_cases h5 : 4 < pre.length
           ·have hgt : (5 : Int) < pre.length + 1 := by omega
            rw [if_pos h5] at HLV
            have HW2 : Hid (hrow ((wr.setCell ⟨g6, 4, none⟩ (.int .i64 9999)).setCell ⟨g6, 2, none⟩ (.int .i64 k)) g6 #[.int .i64 2, .int .i64 k0, .int .i64 k, .string (tx ((s.data.toList.drop k0).take m)), .int .i64 9999, .int .u64 0, .int .u64 0, .int .u64 0, .int .u64 0] 43) := hrow.setCell (hrow.setCell HI.out.2.1 4 (.int .i64 9999)) 2 (.int .i64 k)
            have HR2 : Hid (hrow ((wr.setCell ⟨g6, 4, none⟩ (.int .i64 9999)).setCell ⟨g6, 2, none⟩ (.int .i64 k)) w.heap.size wd0 43) := (HI.out.2.2.1.fr (Fr.setCell _ ⟨g6, 4, none⟩ _) (by have := HGW.out; simp; omega)).fr (Fr.setCell _ ⟨g6, 2, none⟩ _) (by have := HGW.out; simp; omega)
            have HB2 : Hid (Below w.heap.size w ((wr.setCell ⟨g6, 4, none⟩ (.int .i64 9999)).setCell ⟨g6, 2, none⟩ (.int .i64 k))) := (HI.out.2.2.2.setCell (p := ⟨g6, 4, none⟩) (Nat.le_of_lt HGW.out) _).setCell (p := ⟨g6, 2, none⟩) (Nat.le_of_lt HGW.out) _
            go_wp2_with fail
            refine (HDg.out _).mono ?_
            rintro e z ⟨rfl, rfl⟩
            go_wp2_with (first
             | (with_reducible refine load_rword rfl (.tmp 6) rfl g6 rfl _ _ _ _ _ _ _ _ _ HW2.out ?_)
             | (with_reducible refine store_rword rfl (.tmp 4) (.tmp 87) rfl w.heap.size _ _ _ _ _ _ _ _ _ rfl rfl HR2.out ?_))
            refine bodyPost_ret (results_rword rfl _ _ w.heap.size _ rfl HR2.out rfl) rfl ?_
            exact ⟨by rw [HE.out, HNX.out, HLV.out]; rfl, below_setRow HB2.out (Nat.le_refl _) _⟩
           ·have hgt : ¬ (5 : Int) < pre.length + 1 := by omega
            rw [if_neg h5] at HLV
            have HW2 : Hid (hrow (wr.setCell ⟨g6, 2, none⟩ (.int .i64 k)) g6 #[.int .i64 2, .int .i64 k0, .int .i64 k, .string (tx ((s.data.toList.drop k0).take m)), .int .i64 (capL pre), .int .u64 0, .int .u64 0, .int .u64 0, .int .u64 0] 43) := hrow.setCell HI.out.2.1 2 (.int .i64 k)
            have HR2 : Hid (hrow (wr.setCell ⟨g6, 2, none⟩ (.int .i64 k)) w.heap.size wd0 43) := HI.out.2.2.1.fr (Fr.setCell _ ⟨g6, 2, none⟩ _) (by have := HGW.out; simp; omega)
            have HB2 : Hid (Below w.heap.size w (wr.setCell ⟨g6, 2, none⟩ (.int .i64 k))) := HI.out.2.2.2.setCell (p := ⟨g6, 2, none⟩) (Nat.le_of_lt HGW.out) _
            go_wp2_with fail
            refine (HDg.out _).mono ?_
            rintro e z ⟨rfl, rfl⟩
            go_wp2_with (first
             | (with_reducible refine load_rword rfl (.tmp 6) rfl g6 rfl _ _ _ _ _ _ _ _ _ HW2.out ?_)
             | (with_reducible refine store_rword rfl (.tmp 4) (.tmp 87) rfl w.heap.size _ _ _ _ _ _ _ _ _ rfl rfl HR2.out ?_))
            refine bodyPost_ret (results_rword rfl _ _ w.heap.size _ rfl HR2.out rfl) rfl ?_
            exact ⟨by rw [HE.out, HNX.out, HLV.out]; rfl, below_setRow HB2.out (Nat.le_refl _) _⟩
         ·have hkI2 : ¬ (k : Int) < s.size := by omega
          have HZ : Hid ((s.data.toList.drop k).takeWhile isDg = []) := by unfold Hid; rw [List.drop_eq_nil_of_le (by rw [ba_len]; omega)]; rfl
          have HDP : Hid (D = pre) := by have := HI.out.1; rw [HZ.out, List.append_nil] at this; exact this
          have HLV := Lib.hid (capL_lvl D HAll.out)
          rw [HDP.out] at HLV HE
          have e2 : ((k : Int) - ((k0 : Int) + m)) = pre.length + 1 := by have := HKP.out; omega
          obtain ⟨q0, q1, q2, q3, q4, q5, q6, q7, q8⟩ := hrow.c9 HI.out.2.1
          obtain ⟨f0, f1, f2, f3, f4, f5, f6, f7, f8⟩ := hrow.f9 HI.out.2.1
          have HNX : Hid ((k : Int) = k0 + (m + 1 + pre.length : Nat)) := by have := HKP.out; unfold Hid; omega
          by_cases h5 : 4 < pre.length
          ·have hgt : (5 : Int) < pre.length + 1 := by omega
           rw [if_pos h5] at HLV
           have HW2 : Hid (hrow ((wr.setCell ⟨g6, 4, none⟩ (.int .i64 9999)).setCell ⟨g6, 2, none⟩ (.int .i64 k)) g6 #[.int .i64 2, .int .i64 k0, .int .i64 k, .string (tx ((s.data.toList.drop k0).take m)), .int .i64 9999, .int .u64 0, .int .u64 0, .int .u64 0, .int .u64 0] 43) := hrow.setCell (hrow.setCell HI.out.2.1 4 (.int .i64 9999)) 2 (.int .i64 k)
           have HR2 : Hid (hrow ((wr.setCell ⟨g6, 4, none⟩ (.int .i64 9999)).setCell ⟨g6, 2, none⟩ (.int .i64 k)) w.heap.size wd0 43) := (HI.out.2.2.1.fr (Fr.setCell _ ⟨g6, 4, none⟩ _) (by have := HGW.out; simp; omega)).fr (Fr.setCell _ ⟨g6, 2, none⟩ _) (by have := HGW.out; simp; omega)
           have HB2 : Hid (Below w.heap.size w ((wr.setCell ⟨g6, 4, none⟩ (.int .i64 9999)).setCell ⟨g6, 2, none⟩ (.int .i64 k))) := (HI.out.2.2.2.setCell (p := ⟨g6, 4, none⟩) (Nat.le_of_lt HGW.out) _).setCell (p := ⟨g6, 2, none⟩) (Nat.le_of_lt HGW.out) _
           go_wp2_with (first
            | (with_reducible refine load_rword rfl (.tmp 6) rfl g6 rfl _ _ _ _ _ _ _ _ _ HW2.out ?_)
            | (with_reducible refine store_rword rfl (.tmp 4) (.tmp 87) rfl w.heap.size _ _ _ _ _ _ _ _ _ rfl rfl HR2.out ?_))
           refine bodyPost_ret (results_rword rfl _ _ w.heap.size _ rfl HR2.out rfl) rfl ?_
           exact ⟨by rw [HE.out, HNX.out, HLV.out]; rfl, below_setRow HB2.out (Nat.le_refl _) _⟩
          ·have hgt : ¬ (5 : Int) < pre.length + 1 := by omega
           rw [if_neg h5] at HLV
           have HW2 : Hid (hrow (wr.setCell ⟨g6, 2, none⟩ (.int .i64 k)) g6 #[.int .i64 2, .int .i64 k0, .int .i64 k, .string (tx ((s.data.toList.drop k0).take m)), .int .i64 (capL pre), .int .u64 0, .int .u64 0, .int .u64 0, .int .u64 0] 43) := hrow.setCell HI.out.2.1 2 (.int .i64 k)
           have HR2 : Hid (hrow (wr.setCell ⟨g6, 2, none⟩ (.int .i64 k)) w.heap.size wd0 43) := HI.out.2.2.1.fr (Fr.setCell _ ⟨g6, 2, none⟩ _) (by have := HGW.out; simp; omega)
           have HB2 : Hid (Below w.heap.size w (wr.setCell ⟨g6, 2, none⟩ (.int .i64 k))) := HI.out.2.2.2.setCell (p := ⟨g6, 2, none⟩) (Nat.le_of_lt HGW.out) _
           go_wp2_with (first
            | (with_reducible refine load_rword rfl (.tmp 6) rfl g6 rfl _ _ _ _ _ _ _ _ _ HW2.out ?_)
            | (with_reducible refine store_rword rfl (.tmp 4) (.tmp 87) rfl w.heap.size _ _ _ _ _ _ _ _ _ rfl rfl HR2.out ?_))
           refine bodyPost_ret (results_rword rfl _ _ w.heap.size _ rfl HR2.out rfl) rfl ?_
           exact ⟨by rw [HE.out, HNX.out, HLV.out]; rfl, below_setRow HB2.out (Nat.le_refl _) _⟩
       | false =>
        rw [hdd] at HDd
        have HE : Hid (nameW (s.data.toList.drop k0) = ⟨2, m, (s.data.toList.drop k0).take m, -1, []⟩) := nameW_no HM.out (fun c' d' t' h => by rw [HTW.out, HD2.out] at h; simp only [List.cons.injEq] at h; rw [← h.2.1, hdd]; simp)
        go_wp2_with fail
        refine (HDd.out _).mono ?_
        rintro e y ⟨rfl, rfl⟩
        go_wp2_with (first
          | (with_reducible refine load_rword rfl (.tmp 6) rfl x.heap.size rfl _ _ _ _ _ _ _ _ _ HW.out ?_)
          | (with_reducible refine store_rword rfl (.tmp 4) (.tmp 52) rfl w.heap.size _ _ _ _ _ _ _ _ _ rfl rfl HR.out ?_))
        refine bodyPost_ret (results_rword rfl _ _ w.heap.size _ rfl HR.out rfl) rfl ?_
        exact ⟨by rw [HE.out]; rfl, below_setRow HB.out (Nat.le_refl _) _⟩
      ·have HE : Hid (nameW (s.data.toList.drop k0) = ⟨2, m, (s.data.toList.drop k0).take m, -1, []⟩) := nameW_no HM.out (fun c' d' t' h => by
        rw [HTW.out, HD2.out] at h; simp only [List.cons.injEq] at h; rw [← h.1]
        have : c ≠ 58 := fun e => h58 (by rw [e]; rfl)
        simp [this])
       go_wp2_with (first
         | (with_reducible refine load_rword rfl (.tmp 6) rfl x.heap.size rfl _ _ _ _ _ _ _ _ _ HW.out ?_)
         | (with_reducible refine store_rword rfl (.tmp 4) (.tmp 52) rfl w.heap.size _ _ _ _ _ _ _ _ _ rfl rfl HR.out ?_))
       refine bodyPost_ret (results_rword rfl _ _ w.heap.size _ rfl HR.out rfl) rfl ?_
       exact ⟨by rw [HE.out]; rfl, below_setRow HB.out (Nat.le_refl _) _⟩
     ·have h1I : ¬ ((k0 + m : Nat) : Int) + 1 < s.size := by omega
      have HE : Hid (nameW (s.data.toList.drop k0) = ⟨2, m, (s.data.toList.drop k0).take m, -1, []⟩) := nameW_no HM.out (fun c' d' t' h => by
       rw [HTW.out] at h; simp only [List.cons.injEq] at h
       have := congrArg List.length h.2
       rw [List.length_drop, ba_len] at this; simp at this; omega)
      go_wp2_with (first
        | (with_reducible refine load_rword rfl (.tmp 6) rfl x.heap.size rfl _ _ _ _ _ _ _ _ _ HW.out ?_)
        | (with_reducible refine store_rword rfl (.tmp 4) (.tmp 52) rfl w.heap.size _ _ _ _ _ _ _ _ _ rfl rfl HR.out ?_))
      refine bodyPost_ret (results_rword rfl _ _ w.heap.size _ rfl HR.out rfl) rfl ?_
      exact ⟨by rw [HE.out]; rfl, below_setRow HB.out (Nat.le_refl _) _⟩
  ·have hkm : k = k0 + m := by have := HI.out.1; rw [show k = s.size by omega, List.drop_eq_nil_of_le (by rw [ba_len]; exact Nat.le_refl _)] at this; simp at this; omega
   subst hkm
   have hkI : ¬ ((k0 + m : Nat) : Int) < s.size := by omega
   have h1I : ¬ ((k0 + m : Nat) : Int) + 1 < s.size := by omega
   have hkb : (s.size : Int) ≤ 1000000 := by have := HS.out; omega
   have hsl : ∀ wx, (Instr.slice 9 (.string s) (some (.int .i64 k0)) (some (.int .i64 (k0 + m))) none).run Tryz.prog wx = .ok (.string (tx ((s.data.toList.drop k0).take m))) wx := mid_run 9 Tryz.underlying9 s k0 m k0 (k0 + m) rfl (by omega) HMK.out
   have HE : Hid (nameW (s.data.toList.drop k0) = ⟨2, m, (s.data.toList.drop k0).take m, -1, []⟩) := nameW_no HM.out (fun c' d' t' h => by
    rw [drop_tw, ← HM.out, List.drop_drop, List.drop_eq_nil_of_le (by rw [ba_len]; omega)] at h; cases h)
   have hbl := (Below.refl wr.heap.size wr).alloc (Nat.le_refl _) (.cells #[.int .i64 2, .int .i64 k0, .int .i64 (k0 + m), .string (tx ((s.data.toList.drop k0).take m)), .int .i64 (-1), .int .u64 0, .int .u64 0, .int .u64 0, .int .u64 0] 43)
   have HW := Lib.hid (hrow.new wr #[.int .i64 2, .int .i64 k0, .int .i64 (k0 + m), .string (tx ((s.data.toList.drop k0).take m)), .int .i64 (-1), .int .u64 0, .int .u64 0, .int .u64 0, .int .u64 0] 43)
   have HR := Lib.hid (HI.out.2.1.below hbl)
   have HB := Lib.hid (HI.out.2.2.trans (hbl.mono HI.out.2.2.size))
   clear hbl
   go_wp2_with (first
     | (with_reducible refine load_rword rfl (.tmp 6) rfl wr.heap.size rfl _ _ _ _ _ _ _ _ _ HW.out ?_)
     | (with_reducible refine store_rword rfl (.tmp 4) (.tmp 52) rfl w.heap.size _ _ _ _ _ _ _ _ _ rfl rfl HR.out ?_))
   refine bodyPost_ret (results_rword rfl _ _ w.heap.size _ rfl HR.out rfl) rfl ?_
   exact ⟨by rw [HE.out]; rfl, below_setRow HB.out (Nat.le_refl _) _⟩
end Go.Proofs.YtnfkcdnkmcifbaaGreatDoor
namespace Go.Proofs.YtnfkcdnkmcifbaaGreatDoor
open Go.RowKit
set_option maxRecDepth 100000
set_option maxHeartbeats 4000000

theorem ris_any (p : Int) (w : World) : Calls Tryz.prog 63 #[.int .i64 p] w fun e w' => e = .returned (.bool (isPl p)) ∧ w' = w := by
 unfold isPl
 by_cases h1 : p = 1
 ·subst h1
  go_enter Tryz.func63, Tryz.ntmps63
  go_wp2_with fail
  go_ret
  exact ⟨rfl, rfl⟩
 ·have h2 : (p == 1) = false := by simpa using h1
  clear h1
  go_enter Tryz.func63, Tryz.ntmps63
  go_wp2_with fail
  go_ret
  exact ⟨by rw [h2]; simp, rfl⟩
theorem rspecial_any (p : Int) (c : UInt8) (w : World) : Calls Tryz.prog 64 #[.int .i64 p, .int .u8 c.toNat] w fun e w' => e = .returned (.bool (spec p c)) ∧ w' = w := by
 have H : Hid (spec p c = (decide ((c.toNat : Int) < 32) || decide (126 < (c.toNat : Int)) || ((c.toNat : Int) == 92) || (p == 1 && ((c.toNat : Int) == 34)) || (p == 2 && (((c.toNat : Int) == 93) || ((c.toNat : Int) == 45))))) := by
  unfold Hid spec
  have h1 := u8_all (P := fun c => ((decide (c < 32) || decide (126 < c) || c == 92) = (decide ((c.toNat : Int) < 32) || decide (126 < (c.toNat : Int)) || ((c.toNat : Int) == 92))) ∧ (c == 34) = ((c.toNat : Int) == 34) ∧ (c == 93) = ((c.toNat : Int) == 93) ∧ (c == 45) = ((c.toNat : Int) == 45)) (by decide +kernel) c
  rw [h1.1, h1.2.1, h1.2.2.1, h1.2.2.2]
 rw [H.out]; clear H
 have h0 : (0 : Int) ≤ c.toNat := by omega
 generalize (c.toNat : Int) = b at h0 ⊢
 obtain ⟨b1, e1⟩ : ∃ b1, decide (b < 32) = b1 := ⟨_, rfl⟩
 obtain ⟨b2, e2⟩ : ∃ b2, decide (126 < b) = b2 := ⟨_, rfl⟩
 obtain ⟨b3, e3⟩ : ∃ b3, (b == 92) = b3 := ⟨_, rfl⟩
 obtain ⟨b4, e4⟩ : ∃ b4, (b == 34) = b4 := ⟨_, rfl⟩
 obtain ⟨b5, e5⟩ : ∃ b5, (b == 93) = b5 := ⟨_, rfl⟩
 obtain ⟨b6, e6⟩ : ∃ b6, (b == 45) = b6 := ⟨_, rfl⟩
 obtain ⟨b7, e7⟩ : ∃ b7, (p == 1) = b7 := ⟨_, rfl⟩
 obtain ⟨b8, e8⟩ : ∃ b8, (p == 2) = b8 := ⟨_, rfl⟩
 rw [e1, e2, e3, e4, e5, e6, e7, e8]
 cases b1 <;> cases b2 <;> cases b3 <;> cases b4 <;> cases b5 <;> cases b6 <;> cases b7 <;> cases b8 <;>
 (go_enter Tryz.func64, Tryz.ntmps64
  go_wp2_with fail
  go_ret
  exact ⟨rfl, rfl⟩)
end Go.Proofs.YtnfkcdnkmcifbaaGreatDoor
namespace Go.Proofs.YtnfkcdnkmcifbaaGreatDoor
open Go.RowKit
set_option maxRecDepth 100000
set_option maxHeartbeats 4000000

/-- The number of a digit, as the reference has it. -/
def dgI (c : UInt8) : Int := match hexv c with | some x => x.toNat | none => -1
theorem rdigit_any (c : UInt8) (w : World) : Calls Tryz.prog 65 #[.int .u8 c.toNat] w fun e w' => e = .returned (.int .i64 (dgI c)) ∧ w' = w := by
 have h255 : (c.toNat : Int) ≤ 255 := by have := c.toNat_lt; omega
 have h0 : (0 : Int) ≤ c.toNat := by omega
 have H : Hid (dgI c = if 48 ≤ (c.toNat : Int) ∧ (c.toNat : Int) ≤ 57 then (c.toNat : Int) - 48 else if 97 ≤ (c.toNat : Int) ∧ (c.toNat : Int) ≤ 102 then (c.toNat : Int) - 87 else if 65 ≤ (c.toNat : Int) ∧ (c.toNat : Int) ≤ 70 then (c.toNat : Int) - 55 else -1) :=
  u8_all (P := fun c => dgI c = if 48 ≤ (c.toNat : Int) ∧ (c.toNat : Int) ≤ 57 then (c.toNat : Int) - 48 else if 97 ≤ (c.toNat : Int) ∧ (c.toNat : Int) ≤ 102 then (c.toNat : Int) - 87 else if 65 ≤ (c.toNat : Int) ∧ (c.toNat : Int) ≤ 70 then (c.toNat : Int) - 55 else -1) (by decide +kernel) c
 generalize (c.toNat : Int) = b at *
 go_enter Tryz.func65, Tryz.ntmps65
 go_wp2_with fail
 all_goals
  go_ret
  refine ⟨?_, rfl⟩
  rw [H.out]
  show Ending.returned (.int .i64 _) = _
  refine ret_int ?_
  repeat' split
  all_goals omega
end Go.Proofs.YtnfkcdnkmcifbaaGreatDoor
namespace Go.Proofs.YtnfkcdnkmcifbaaGreatDoor
open Go.RowKit
set_option maxRecDepth 100000
set_option maxHeartbeats 4000000

theorem rread_any (p : Int) (s : ByteArray) (a : Int) (w : World) (hs : s.size ≤ 1000000) : Calls Tryz.prog 50 #[.int .i64 p, .string s, .int .i64 a] w fun e w' => e = .returned (rdV a (rdA p s.data.toList a)) ∧ Below w.heap.size w w' := by
 have HR := Lib.hid (Below.refl w.heap.size w)
 have HN := ris_any p w
 cases hp : isPl p with
 | false =>
  have H3 := Lib.hid (rdA_no hp s.data.toList a)
  rw [hp] at HN
  clear hp
  go_enter Tryz.func50, Tryz.ntmps50
  go_wp2_with fail
  refine HN.mono ?_
  rintro e x ⟨rfl, rfl⟩
  go_wp2_with fail
  go_ret3
  exact ⟨by rw [H3.out]; rfl, HR.out⟩
 | true =>
  rw [hp] at HN
  by_cases ha : a < 0
  ·have H3 := Lib.hid (rdA_out (p := p) (s := s) (.inl ha))
   clear hp
   go_enter Tryz.func50, Tryz.ntmps50
   go_wp2_with fail
   refine HN.mono ?_
   rintro e x ⟨rfl, rfl⟩
   go_wp2_with fail
   go_ret3
   exact ⟨by rw [H3.out]; rfl, HR.out⟩
  ·by_cases ha2 : (s.size : Int) ≤ a
   ·have H3 := Lib.hid (rdA_out (p := p) (s := s) (.inr ha2))
    clear hp
    go_enter Tryz.func50, Tryz.ntmps50
    go_wp2_with fail
    refine HN.mono ?_
    rintro e x ⟨rfl, rfl⟩
    go_wp2_with fail
    go_ret3
    exact ⟨by rw [H3.out]; rfl, HR.out⟩
   ·obtain ⟨k, rfl⟩ : ∃ k : Nat, a = k := ⟨a.toNat, by omega⟩
    have hk : k < s.size := by omega
    have hk1 : (k : Int) < s.size := by omega
    have hk0 : (0 : Int) ≤ k := by omega
    clear ha ha2
    rw [rdA_in hk]
    have HB := rspecial_any p (s[k]) w
    generalize hc0 : s[k] = c at HB ⊢
    cases hsp : spec p c with
    | false =>
     rw [rd_bare hp hsp]
     rw [hsp] at HB
     clear hp hsp
     go_enter Tryz.func50, Tryz.ntmps50
     go_wp2_with fail
     refine HN.mono ?_
     rintro e x ⟨rfl, rfl⟩
     go_wp2_with fail
     refine HB.mono ?_
     rintro e x ⟨rfl, rfl⟩
     go_wp2_with fail
     go_ret3
     exact ⟨rfl, HR.out⟩
    | true =>
     rw [hsp] at HB
     by_cases hc : c = 92
     ·subst hc
      rw [rd_back hp]
      clear hp hsp
      by_cases hk2 : k + 1 < s.size
      ·have hk3 : (k : Int) + 1 < s.size := by omega
       rw [drop_at hk2]
       generalize hc1 : s[k + 1] = d
       by_cases d1 : d = 110
       ·subst d1
        go_enter Tryz.func50, Tryz.ntmps50
        go_wp2_with fail
        refine HN.mono ?_
        rintro e x ⟨rfl, rfl⟩
        go_wp2_with fail
        refine HB.mono ?_
        rintro e x ⟨rfl, rfl⟩
        go_wp2_with fail
        go_ret3
        exact ⟨rfl, HR.out⟩
       ·have f1 : ((d.toNat : Int) == 110) = false := by have := mt UInt8.toNat_inj.1 d1; simp at this ⊢; omega
        by_cases d2 : d = 114
        ·subst d2
         clear d1
         go_enter Tryz.func50, Tryz.ntmps50
         go_wp2_with fail
         refine HN.mono ?_
         rintro e x ⟨rfl, rfl⟩
         go_wp2_with fail
         refine HB.mono ?_
         rintro e x ⟨rfl, rfl⟩
         go_wp2_with fail
         go_ret3
         exact ⟨rfl, HR.out⟩
        ·have f2 : ((d.toNat : Int) == 114) = false := by have := mt UInt8.toNat_inj.1 d2; simp at this ⊢; omega
         by_cases d3 : d = 116
         ·subst d3
          clear d1 d2
          go_enter Tryz.func50, Tryz.ntmps50
          go_wp2_with fail
          refine HN.mono ?_
          rintro e x ⟨rfl, rfl⟩
          go_wp2_with fail
          refine HB.mono ?_
          rintro e x ⟨rfl, rfl⟩
          go_wp2_with fail
          go_ret3
          exact ⟨rfl, HR.out⟩
         ·have f3 : ((d.toNat : Int) == 116) = false := by have := mt UInt8.toNat_inj.1 d3; simp at this ⊢; omega
          by_cases d4 : d = 92 ∨ d = 34 ∨ d = 93 ∨ d = 45
          ·rcases d4 with rfl | rfl | rfl | rfl
           all_goals
            clear d1 d2 d3
            go_enter Tryz.func50, Tryz.ntmps50
            go_wp2_with fail
            refine HN.mono ?_
            rintro e x ⟨rfl, rfl⟩
            go_wp2_with fail
            refine HB.mono ?_
            rintro e x ⟨rfl, rfl⟩
            go_wp2_with fail
            go_ret3
            exact ⟨rfl, HR.out⟩
          ·have f4 : ((d.toNat : Int) == 92) = false := by have := mt UInt8.toNat_inj.1 (fun h => d4 (.inl h)); simp at this ⊢; omega
           have f5 : ((d.toNat : Int) == 34) = false := by have := mt UInt8.toNat_inj.1 (fun h => d4 (.inr (.inl h))); simp at this ⊢; omega
           have f6 : ((d.toNat : Int) == 93) = false := by have := mt UInt8.toNat_inj.1 (fun h => d4 (.inr (.inr (.inl h)))); simp at this ⊢; omega
           have f7 : ((d.toNat : Int) == 45) = false := by have := mt UInt8.toNat_inj.1 (fun h => d4 (.inr (.inr (.inr h)))); simp at this ⊢; omega
           by_cases d5 : d = 120
           ·subst d5
            clear d1 d2 d3 d4 f1 f2 f3 f4 f5 f6 f7
            by_cases hk4 : k + 3 < s.size
            ·have hk5 : (k : Int) + 3 < s.size := by omega
             have hk6 : k + 2 < s.size := by omega
             have hk7 : (k : Int) + 2 < s.size := by omega
             rw [drop_at hk6, drop_at (show k + 2 + 1 < s.size from hk4)]
             generalize hc2 : s[k + 2] = u
             have hc3 : s[k + 2 + 1]'hk4 = s[k + 3] := rfl
             rw [hc3]
             clear hc3
             generalize hc3 : s[k + 3] = v
             have HU := rdigit_any u w
             have HV := rdigit_any v w
             cases hu : hexv u with
             | none =>
              have H4 : Hid (esc (120 :: u :: v :: List.drop (k + 2 + 1 + 1) s.data.toList) = none) := by unfold Hid esc; simp [hu]
              have H5 : dgI u = -1 := by unfold dgI; rw [hu]
              rw [H5] at HU
              clear hu H5
              go_enter Tryz.func50, Tryz.ntmps50
              go_wp2_with fail
              refine HN.mono ?_
              rintro e x ⟨rfl, rfl⟩
              go_wp2_with fail
              refine HB.mono ?_
              rintro e x ⟨rfl, rfl⟩
              go_wp2_with fail
              refine HU.mono ?_
              rintro e x ⟨rfl, rfl⟩
              go_wp2_with fail
              go_ret3
              exact ⟨by rw [H4.out]; rfl, HR.out⟩
             | some a =>
              have H5 : dgI u = a.toNat := by unfold dgI; rw [hu]
              rw [H5] at HU
              clear H5
              have ha0 : (0 : Int) ≤ a.toNat := by omega
              cases hv : hexv v with
              | none =>
               have H4 : Hid (esc (120 :: u :: v :: List.drop (k + 2 + 1 + 1) s.data.toList) = none) := by unfold Hid esc; simp [hu, hv]
               have H5 : dgI v = -1 := by unfold dgI; rw [hv]
               rw [H5] at HV
               clear hu hv H5
               go_enter Tryz.func50, Tryz.ntmps50
               go_wp2_with fail
               refine HN.mono ?_
               rintro e x ⟨rfl, rfl⟩
               go_wp2_with fail
               refine HB.mono ?_
               rintro e x ⟨rfl, rfl⟩
               go_wp2_with fail
               refine HU.mono ?_
               rintro e x ⟨rfl, rfl⟩
               go_wp2_with fail
               refine HV.mono ?_
               rintro e x ⟨rfl, rfl⟩
               go_wp2_with fail
               go_ret3
               exact ⟨by rw [H4.out]; rfl, HR.out⟩
              | some b =>
               have H5 : dgI v = b.toNat := by unfold dgI; rw [hv]
               have H4 : Hid (esc (120 :: u :: v :: List.drop (k + 2 + 1 + 1) s.data.toList) = some (16 * a + b, 4)) := by unfold Hid esc; simp [hu, hv]
               have H7 : dgI u = a.toNat := by unfold dgI; rw [hu]
               have H8 := Lib.hid H5
               have H9 := Lib.hid H7
               rw [H5] at HV
               have hb0 : (0 : Int) ≤ b.toNat := by omega
               have HA := Lib.hid (hexv_lt hu)
               have HB2 := Lib.hid (hexv_lt hv)
               have ha1 : (a.toNat : Int) < 16 := by have := UInt8.lt_iff_toNat_lt.1 HA.out; simp at this ⊢; omega
               have hb1 : (b.toNat : Int) < 16 := by have := UInt8.lt_iff_toNat_lt.1 HB2.out; simp at this ⊢; omega
               have H6 := Lib.hid (hex_sum HA.out HB2.out)
               clear hu hv H5 H7
               go_enter Tryz.func50, Tryz.ntmps50
               go_wp2_with fail
               refine HN.mono ?_
               rintro e x ⟨rfl, rfl⟩
               go_wp2_with fail
               refine HB.mono ?_
               rintro e x ⟨rfl, rfl⟩
               go_wp2_with fail
               refine HU.mono ?_
               rintro e x ⟨rfl, rfl⟩
               go_wp2_with fail
               refine HV.mono ?_
               rintro e x ⟨rfl, rfl⟩
               go_wp2_with fail
               have H10 := H8.out
               have H11 := H9.out
               go_quiet ((go_at_call 65; exact Calls.quiet_of_same (rdigit_any _ _)))
               go_wp2_with fail
               go_ret3
               refine ⟨?_, belowN HR.out _⟩
               rw [H4.out]
               unfold rdV
               show Ending.returned (.tuple #[.int .u8 (16 * (a.toNat : Int) + b.toNat), .int .i64 ((k : Int) + 4), .bool true]) = Ending.returned (.tuple #[.int .u8 (((16 * a + b : UInt8).toNat : Nat) : Int), .int .i64 ((k : Int) + 4), .bool true])
               rw [H6.out]
            ·have H4 : Hid (esc (120 :: List.drop (k + 1 + 1) s.data.toList) = none) := by
              exact esc_x_short (by rw [List.length_drop, ba_len]; omega)
             have hk5 : ¬ (k : Int) + 3 < s.size := by omega
             go_enter Tryz.func50, Tryz.ntmps50
             go_wp2_with fail
             refine HN.mono ?_
             rintro e x ⟨rfl, rfl⟩
             go_wp2_with fail
             refine HB.mono ?_
             rintro e x ⟨rfl, rfl⟩
             go_wp2_with fail
             go_ret3
             exact ⟨by rw [H4.out]; rfl, HR.out⟩
           ·have f8 : ((d.toNat : Int) == 120) = false := by have := mt UInt8.toNat_inj.1 d5; simp at this ⊢; omega
            have H4 : Hid (esc (d :: List.drop (k + 1 + 1) s.data.toList) = none) := by
             unfold Hid esc
             have d4' : d ≠ 92 ∧ d ≠ 34 ∧ d ≠ 93 ∧ d ≠ 45 := ⟨fun h => d4 (.inl h), fun h => d4 (.inr (.inl h)), fun h => d4 (.inr (.inr (.inl h))), fun h => d4 (.inr (.inr (.inr h)))⟩
             simp [d1, d2, d3, d4', d5]
            clear d1 d2 d3 d4 d5
            go_enter Tryz.func50, Tryz.ntmps50
            go_wp2_with fail
            refine HN.mono ?_
            rintro e x ⟨rfl, rfl⟩
            go_wp2_with fail
            refine HB.mono ?_
            rintro e x ⟨rfl, rfl⟩
            go_wp2_with fail
            go_ret3
            exact ⟨by rw [H4.out]; rfl, HR.out⟩
      ·have hk3 : ¬ (k : Int) + 1 < s.size := by omega
       have H4 : Hid (esc (List.drop (k + 1) s.data.toList) = none) := by
        unfold Hid
        rw [List.drop_eq_nil_of_le (by rw [ba_len]; omega)]
        rfl
       go_enter Tryz.func50, Tryz.ntmps50
       go_wp2_with fail
       refine HN.mono ?_
       rintro e x ⟨rfl, rfl⟩
       go_wp2_with fail
       refine HB.mono ?_
       rintro e x ⟨rfl, rfl⟩
       go_wp2_with fail
       go_ret3
       exact ⟨by rw [H4.out]; rfl, HR.out⟩
     ·rw [rd_spec hp hsp hc]
      have hne : ((c.toNat : Int) == 92) = false := by have := mt UInt8.toNat_inj.1 hc; simp at this ⊢; omega
      have hne2 : ((c.toNat : Int) != 92) = true := by rw [bne, hne]; rfl
      clear hp hsp hc
      go_enter Tryz.func50, Tryz.ntmps50
      go_wp2_with fail
      refine HN.mono ?_
      rintro e x ⟨rfl, rfl⟩
      go_wp2_with fail
      refine HB.mono ?_
      rintro e x ⟨rfl, rfl⟩
      go_wp2_with fail
      go_ret3
      exact ⟨rfl, HR.out⟩
end Go.Proofs.YtnfkcdnkmcifbaaGreatDoor
