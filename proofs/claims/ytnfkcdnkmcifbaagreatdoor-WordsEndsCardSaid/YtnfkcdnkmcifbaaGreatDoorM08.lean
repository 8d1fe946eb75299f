/- Walks and plain laws: V7 R2 R3 S1. -/
import Derived.Test.YtnfkcdnkmcifbaaGreatDoorM07
namespace Go.Proofs.YtnfkcdnkmcifbaaGreatDoor
open Go.RowKit
set_option maxRecDepth 100000
set_option maxHeartbeats 4000000

theorem take_tw {p : UInt8 → Bool} : ∀ l : List UInt8, l.take (l.takeWhile p).length = l.takeWhile p
 | [] => rfl
 | c :: l => by
  rw [List.takeWhile_cons]
  split
  ·rw [List.length_cons, List.take_succ_cons, take_tw l]
  ·rfl
theorem tw_len (p : UInt8 → Bool) (l : List UInt8) : (l.takeWhile p).length ≤ l.length := by
 have := List.takeWhile_prefix p (l := l)
 exact this.length_le
theorem tw_all (p : UInt8 → Bool) (l : List UInt8) : ∀ c ∈ l.takeWhile p, p c = true := fun c hc => by
 have := List.all_takeWhile (p := p) (l := l)
 exact List.all_eq_true.1 this c hc
/-- What a name is, by what the program measures. -/
theorem nameW_is (l V : List UInt8) (n m : Nat) (hn : (l.takeWhile isLD).length = n) (hV : Lib.trimPrefix (l.drop n) [58] = V) (hm : (V.takeWhile isDg).length = m) :
  (m = 0 → nameW l = ⟨2, n, l.take n, -1, []⟩) ∧ (0 < m → l.drop n = 58 :: V ∧ nameW l = ⟨2, n + 1 + m, l.take n, lvl (V.take m), []⟩) := by
 have hd : l.dropWhile isLD = l.drop n := by rw [← hn]; exact drop_tw l
 have ht : l.take n = l.takeWhile isLD := by rw [← hn]; exact take_tw l
 have hdm : V.take m = V.takeWhile isDg := by rw [← hm]; exact take_tw V
 rw [ht, hdm]
 unfold nameW
 rw [hd, hn]
 have hh : ∀ c u, l.drop n = c :: u → isLD c = false := fun c u h => drop_head (hd.trans h)
 generalize l.drop n = U at *
 match U, hV with
 | [], hV =>
  have : V = [] := by rw [← hV]; rfl
  subst this
  have : m = 0 := by rw [← hm]; rfl
  subst this
  exact ⟨fun _ => rfl, fun h => absurd h (by omega)⟩
 | c :: u, hV =>
  by_cases hc : c = 58
  ·subst hc
   have : V = u := by rw [← hV]; simp [Lib.trimPrefix, pre1]
   subst this
   match V, hm with
   | [], hm =>
    have : m = 0 := by rw [← hm]; rfl
    subst this
    exact ⟨fun _ => rfl, fun h => absurd h (by omega)⟩
   | d :: t, hm =>
    rw [List.takeWhile_cons] at hm
    by_cases hg : isDg d = true
    ·rw [if_pos hg] at hm
     refine ⟨fun h => by subst h; simp at hm, fun _ => ⟨rfl, ?_⟩⟩
     simp only [hg, beq_self_eq_true, Bool.and_self, if_true]
     rw [show ((d :: t).takeWhile isDg).length = m by rw [List.takeWhile_cons, if_pos hg]; exact hm]
    ·rw [if_neg hg] at hm
     refine ⟨fun _ => ?_, fun h => by rw [← hm] at h; simp at h⟩
     simp [hg]
  ·have hVV : V = c :: u := by rw [← hV]; simp [Lib.trimPrefix, pre1, Ne.symm hc]
   subst hVV
   have hg : isDg c = false := by have := hh c u rfl; unfold isLD at this; simp at this; exact this.2
   have : m = 0 := by rw [← hm, List.takeWhile_cons, hg]; rfl
   subst this
   refine ⟨fun _ => ?_, fun h => absurd h (by omega)⟩
   cases u with
   | nil => rfl
   | cons d t => simp [hc]
theorem trim_len (l p : List UInt8) : (Lib.trimPrefix l p).length ≤ l.length := by
 unfold Lib.trimPrefix
 split
 ·rw [List.length_drop]; omega
 ·exact Nat.le_refl _
def nmR (l : List UInt8) : Option Wr := if (l.takeWhile isLt).length = 0 then none else some (nameW l)
theorem ba_loop (bs : ByteArray) : ∀ (n i : Nat) (r : List UInt8), bs.size - i = n → ByteArray.toList.loop bs i r = r.reverse ++ bs.data.toList.drop i
 | 0, i, r, h => by
  unfold ByteArray.toList.loop
  rw [if_neg (by omega), List.drop_eq_nil_of_le (by rw [ba_len]; omega), List.append_nil]
 | n + 1, i, r, h => by
  have hi : i < bs.size := by omega
  unfold ByteArray.toList.loop
  rw [if_pos hi, ba_loop bs n (i + 1) _ (by omega), drop_at hi, List.reverse_cons, List.append_assoc]
  congr 2
  show [bs.data[i]!] ++ _ = bs[i] :: _
  rw [getElem!_pos bs.data i hi]; rfl
theorem ba_toList (bs : ByteArray) : bs.toList = bs.data.toList := by
 unfold ByteArray.toList
 rw [ba_loop bs _ 0 [] rfl]; rfl
theorem hrow.setCell {w : World} {g : Nat} {cs : Array Value} {t : TypeId} (h : hrow w g cs t) (o : Nat) (v : Value) : hrow (w.setCell ⟨g, o, none⟩ v) g (cs.setIfInBounds o v) t := heap_setCell_same _ _ _ _ _ _ h.h
/-- The load of a word. -/
theorem load_word {ops : Array Oper} {rest : List Oper} {o : Oper} {a : Act} {w : World} {Q : Exit → Act → World → Prop} (hgd : o.guard = none) (x : Operand) (ho : o.op = .load 36 x)
    (g : Nat) (hx : a.eval x = .pointer (some ⟨g, 0, none⟩)) (kind at_ nx : Int) (t : ByteArray) (lv c0 c1 c2 c3 : Int)
    (hg : hrow w g #[.int .i64 kind, .int .i64 at_, .int .i64 nx, .string t, .int .i64 lv, .int .u64 c0, .int .u64 c1, .int .u64 c2, .int .u64 c3] 36)
    (h : wpList Tryz.prog ops Q rest (a.put o.dst (.agg #[.int .i64 kind, .int .i64 at_, .int .i64 nx, .string t, .int .i64 lv, .int .u64 c0, .int .u64 c1, .int .u64 c2, .int .u64 c3])) w) : wpList Tryz.prog ops Q (o :: rest) a w :=
  wpList_load_row hgd _ x ho g hx _ _ _ _ hg.h Tryz.underlying36 rfl (wd_sz rfl) h
theorem name_any (s : ByteArray) (k g : Nat) (w : World) (hr : Rdr w g s k) (hs : s.size ≤ 1000000) (hk : k ≤ s.size) :
  Calls Tryz.prog 16 #[.pointer (some ⟨g, 0, none⟩)] w fun e w' => e = .returned (rdO (nmR (s.data.toList.drop k)) k) ∧ Below w.heap.size w w' := by
 have HRD := Lib.hid hr
 have HS := Lib.hid hs
 have HK := Lib.hid hk
 have HLF := Lib.hid (fun (x : World) (h : Rdr x g s k) => left_any s k g x h hk)
 have HLL : Hid ((s.data.toList.drop k).length + k = s.size) := by unfold Hid; rw [List.length_drop, ba_len]; omega
 clear hr hs hk
 generalize s.data.toList.drop k = L at *
 have hLs : (tx L).size ≤ 1000000 := by rw [tx_size]; have := HLL.out; have := HS.out; omega
 have HLS := Lib.hid hLs; clear hLs
 by_cases h0 : (L.takeWhile isLt).length = 0
 ·have HE : Hid (nmR L = none) := by unfold Hid nmR; rw [if_pos h0]
  have hz : ((L.takeWhile isLt).length : Int) = 0 := by omega
  clear h0
  go_enter Tryz.func16, Tryz.ntmps16
  go_wp2_with fail
  have HB := Lib.hid ((Below.refl w.heap.size w).alloc (Nat.le_refl _) (.cells #[.int .i64 0, .int .i64 0, .int .i64 0, .string ⟨#[]⟩, .int .i64 0, .int .u64 0, .int .u64 0, .int .u64 0, .int .u64 0] 36))
  have HR := Lib.hid (show hrow (w.alloc (.cells #[.int .i64 0, .int .i64 0, .int .i64 0, .string ⟨#[]⟩, .int .i64 0, .int .u64 0, .int .u64 0, .int .u64 0, .int .u64 0] 36)) w.heap.size wd0 36 from hrow.new _ _ _)
  replace HRD := Lib.hid (Rdr.below HRD.out HB.out)
  revert HB HR HRD
  generalize w.alloc (.cells #[.int .i64 0, .int .i64 0, .int .i64 0, .string ⟨#[]⟩, .int .i64 0, .int .u64 0, .int .u64 0, .int .u64 0, .int .u64 0] 36) = wb
  intro HB HR HRD
  have HRN : Hid (∀ n, hrow (wb.drewN n) w.heap.size wd0 36) := Lib.hid (fun _ => HR.out)
  clear HRN
  go_wp2_with fail
  refine (HLF.out _ HRD.out).mono ?_
  rintro e x ⟨rfl, hb⟩
  replace HR := Lib.hid (HR.out.below hb)
  replace HRD := Lib.hid (Rdr.below HRD.out hb)
  replace HB := Lib.hid (HB.out.trans (hb.mono HB.out.size))
  clear hb
  go_wp2_with fail
  refine (span_lt (tx L) _ HLS.out).mono ?_
  rintro e x ⟨rfl, hb⟩
  replace HR := Lib.hid (HR.out.below hb)
  replace HRD := Lib.hid (Rdr.below HRD.out hb)
  replace HB := Lib.hid (HB.out.trans (hb.mono HB.out.size))
  clear hb
  rw [tx_list, hz]
  clear hz
  go_wp2_with (with_reducible refine store_word rfl (.tmp 2) (.tmp 16) rfl w.heap.size _ _ _ _ _ _ _ _ _ rfl rfl HR.out ?_)
  refine bodyPost_ret (results_word rfl _ _ w.heap.size _ _ rfl rfl HR.out ?_) rfl ?_
  next => rfl
  next => first | exact ⟨rfl, below_setRow HB.out (Nat.le_refl _) _⟩ | exact ⟨by rw [HE.out]; rfl, below_setRow HB.out (Nat.le_refl _) _⟩
 ·have HE : Hid (nmR L = some (nameW L)) := by unfold Hid nmR; rw [if_neg h0]
  have hz : ((L.takeWhile isLt).length : Int) ≠ 0 := by omega
  generalize hzz : (L.takeWhile isLt).length = z at *
  have HZ := Lib.hid hzz; clear hzz
  clear h0
  have hnL := tw_len isLD L
  generalize hn : (L.takeWhile isLD).length = n at *
  have HNN := Lib.hid hn; clear hn
  have HN := Lib.hid (fun V => nameW_is L V n)
  have hsl1 : ∀ wx, (Instr.slice 9 (.string (tx L)) none (some (.int .i64 n)) none).run Tryz.prog wx = .ok (.string (tx (L.take n))) wx := to_run 9 Tryz.underlying9 L n n rfl hnL
  have hsl2 : ∀ wx, (Instr.slice 9 (.string (tx L)) (some (.int .i64 n)) none none).run Tryz.prog wx = .ok (.string (tx (L.drop n))) wx := from_run 9 Tryz.underlying9 (tx L) n n rfl (by rw [tx_size]; exact hnL)
  go_enter Tryz.func16, Tryz.ntmps16
  go_wp2_with fail
  have HB := Lib.hid ((Below.refl w.heap.size w).alloc (Nat.le_refl _) (.cells #[.int .i64 0, .int .i64 0, .int .i64 0, .string ⟨#[]⟩, .int .i64 0, .int .u64 0, .int .u64 0, .int .u64 0, .int .u64 0] 36))
  have HR := Lib.hid (show hrow (w.alloc (.cells #[.int .i64 0, .int .i64 0, .int .i64 0, .string ⟨#[]⟩, .int .i64 0, .int .u64 0, .int .u64 0, .int .u64 0, .int .u64 0] 36)) w.heap.size wd0 36 from hrow.new _ _ _)
  replace HRD := Lib.hid (Rdr.below HRD.out HB.out)
  revert HB HR HRD
  generalize w.alloc (.cells #[.int .i64 0, .int .i64 0, .int .i64 0, .string ⟨#[]⟩, .int .i64 0, .int .u64 0, .int .u64 0, .int .u64 0, .int .u64 0] 36) = wb
  intro HB HR HRD
  have HRN : Hid (∀ n, hrow (wb.drewN n) w.heap.size wd0 36) := Lib.hid (fun _ => HR.out)
  clear HRN
  go_wp2_with fail
  refine (HLF.out _ HRD.out).mono ?_
  rintro e x ⟨rfl, hb⟩
  replace HR := Lib.hid (HR.out.below hb)
  replace HRD := Lib.hid (Rdr.below HRD.out hb)
  replace HB := Lib.hid (HB.out.trans (hb.mono HB.out.size))
  clear hb
  go_wp2_with fail
  refine (span_lt (tx L) _ HLS.out).mono ?_
  rintro e x ⟨rfl, hb⟩
  replace HR := Lib.hid (HR.out.below hb)
  replace HRD := Lib.hid (Rdr.below HRD.out hb)
  replace HB := Lib.hid (HB.out.trans (hb.mono HB.out.size))
  clear hb
  rw [tx_list, HZ.out]
  go_wp2_with fail
  refine (span_ld (tx L) _ HLS.out).mono ?_
  rintro e x ⟨rfl, hb⟩
  replace HR := Lib.hid (HR.out.below hb)
  replace HRD := Lib.hid (Rdr.below HRD.out hb)
  replace HB := Lib.hid (HB.out.trans (hb.mono HB.out.size))
  clear hb
  rw [tx_list, HNN.out]
  have HNL := Lib.hid hnL; clear hz hnL
  go_wp2_with fail
  have hb := (Below.refl x.heap.size x).alloc (Nat.le_refl _) (.cells #[.int .i64 2, .int .i64 0, .int .i64 0, .string (tx (L.take n)), .int .i64 (-1), .int .u64 0, .int .u64 0, .int .u64 0, .int .u64 0] 36)
  have HW := Lib.hid (hrow.new x #[.int .i64 2, .int .i64 0, .int .i64 0, .string (tx (L.take n)), .int .i64 (-1), .int .u64 0, .int .u64 0, .int .u64 0, .int .u64 0] 36)
  have HG6 := Lib.hid (HR.out.lt)
  have HG7 := Lib.hid (HRD.out.lt)
  replace HR := Lib.hid (HR.out.below hb)
  replace HRD := Lib.hid (Rdr.below HRD.out hb)
  replace HB := Lib.hid (HB.out.trans (hb.mono HB.out.size))
  clear hb
  revert HB HR HRD HW
  generalize x.alloc _ = y
  revert HG6 HG7
  generalize x.heap.size = g6
  intro HG6 HG7 HW HR HRD HB
  have HT : Calls Tryz.prog 28 #[.string (tx (L.drop n)), .string ⟨#[58]⟩] y fun e w' => e = .returned (.string (tx (Lib.trimPrefix (L.drop n) [58]))) ∧ w' = y := Tryz.strings_TrimPrefix (tx (L.drop n)) _ y
  generalize hV : Lib.trimPrefix (L.drop n) [58] = V at HT
  refine HT.mono ?_
  rintro e y2 ⟨rfl, rfl⟩
  clear HT
  have HN := Lib.hid (fun m => HN.out V m HNN.out hV)
  have hVl : V.length ≤ L.length := by rw [← hV]; exact Nat.le_trans (trim_len _ _) (by rw [List.length_drop]; omega)
  clear hV
  have HVS : Hid ((tx V).size ≤ 1000000) := by have := HLS.out; rw [tx_size] at this; unfold Hid; rw [tx_size]; omega
  go_wp2_with fail
  refine (span_dg (tx V) _ HVS.out).mono ?_
  rintro e x ⟨rfl, hb⟩
  replace HW := Lib.hid (HW.out.below hb)
  replace HR := Lib.hid (HR.out.below hb)
  replace HRD := Lib.hid (Rdr.below HRD.out hb)
  replace HB := Lib.hid (HB.out.trans (hb.mono HB.out.size))
  clear hb
  rw [tx_list]
  have hmV := tw_len isDg V
  have HMA := Lib.hid (tw_all isDg V)
  have HMT := Lib.hid (take_tw (p := isDg) V)
  have HM := Lib.hid (HN.out _ rfl); clear HN
  generalize (V.takeWhile isDg).length = m at *
  have HMB : Hid (n ≤ 1000000 ∧ V.length ≤ 1000000 ∧ m ≤ 1000000) := by have h1 := HLS.out; have h2 := HNL.out; rw [tx_size] at h1; unfold Hid; omega
  by_cases hm0 : m = 0
  ·subst hm0
   have HE2 : Hid (nmR L = some ⟨2, n, L.take n, -1, []⟩) := by rw [HE.out, HM.out.1 rfl]; rfl
   have HE := HE2
   clear HE2 HM
   go_wp2_with (with_reducible refine load_word rfl (.tmp 6) rfl _ rfl _ _ _ _ _ _ _ _ _ HW.out ?_)
   refine (word_any 2 0 0 (-1) 0 0 0 0 n (tx (L.take n)) s k g _ HRD.out (by have := HS.out; have := HK.out; omega) (by omega) (by have := HMB.out; omega)).mono ?_
   rintro e wx ⟨rfl, hb⟩
   have HRX := Lib.hid (HR.out.below hb)
   have HBX := Lib.hid (HB.out.trans (hb.mono HB.out.size))
   clear hb HR HRD HB HW
   go_wp2_with (with_reducible refine store_word rfl (.tmp 2) (.tmp 51) rfl w.heap.size _ _ _ _ _ _ _ _ _ rfl rfl HRX.out ?_)
   refine bodyPost_ret (results_word rfl _ _ w.heap.size _ _ rfl rfl HRX.out ?_) rfl ?_
   next => rfl
   next => first | exact ⟨rfl, below_setRow HBX.out (Nat.le_refl _) _⟩ | exact ⟨by rw [HE.out]; rfl, below_setRow HBX.out (Nat.le_refl _) _⟩
  ·obtain ⟨hU, hNW⟩ := HM.out.2 (by omega)
   have HE2 : Hid (nmR L = some ⟨2, n + (1 + m), L.take n, lvl (V.take m), []⟩) := by rw [HE.out, hNW, Nat.add_assoc]; rfl
   have hm1 : (0 : Int) < m := by omega
   rw [hU] at hsl2
   have hnb : ((tx V).toList == (tx (58 :: V)).toList) = false := by
    rw [ba_toList, ba_toList, tx_list, tx_list]
    exact beq_eq_false_iff_ne.2 fun h => by have := congrArg List.length h; simp at this
   have hsl3 : ∀ wx, (Instr.slice 9 (.string (tx V)) none (some (.int .i64 m)) none).run Tryz.prog wx = .ok (.string (tx (V.take m))) wx := to_run 9 Tryz.underlying9 V m m rfl hmV
   have HE := HE2
   have HMM : Hid (n + 1 + m ≤ 1000000) := by have h1 := HLS.out; have h2 := congrArg List.length hU; rw [tx_size] at h1; rw [List.length_drop, List.length_cons] at h2; unfold Hid; omega
   clear HE2 HM hU hNW hmV hVl
   go_wp2_with fail
   refine (level_any (V.take m) (by rw [HMT.out]; exact HMA.out) (by rw [List.length_take]; have := HMB.out; omega) x).mono ?_
   rintro e x ⟨rfl, hb⟩
   replace HW := Lib.hid (HW.out.below hb)
   replace HR := Lib.hid (HR.out.below hb)
   replace HRD := Lib.hid (Rdr.below HRD.out hb)
   replace HB := Lib.hid (HB.out.trans (hb.mono HB.out.size))
   clear hb
   have hM1 : (m : Int) ≤ 1000000 := by have := HMM.out; omega
   have hM2 : (n : Int) + (1 + m) ≤ 1000000 := by have := HMM.out; omega
   have hM3 : (0 : Int) ≤ n + (1 + m) := by omega
   generalize hlv : lvl (V.take m) = lv at *
   clear hlv
   obtain ⟨_, _, _, _, w4, _⟩ := HW.out.c9
   obtain ⟨_, _, _, _, f4, _⟩ := HW.out.f9
   have HWS := Lib.hid (show hrow (x.setCell ⟨g6, 4, none⟩ (.int .i64 lv)) g6 #[.int .i64 2, .int .i64 0, .int .i64 0, .string (tx (L.take n)), .int .i64 lv, .int .u64 0, .int .u64 0, .int .u64 0, .int .u64 0] 36 from HW.out.setCell 4 _)
   replace HR := Lib.hid (HR.out.fr (Fr.setCell x ⟨g6, 4, none⟩ (.int .i64 lv)) (by have := HG6.out; simp; omega))
   replace HRD := Lib.hid (HRD.out.fr (Fr.setCell x ⟨g6, 4, none⟩ (.int .i64 lv)) (by have := HG7.out; simp; omega))
   replace HB := Lib.hid (HB.out.setCell (B := w.heap.size) (p := ⟨g6, 4, none⟩) (by have := HG6.out; show w.heap.size ≤ g6; omega) (.int .i64 lv))
   go_wp2_with (with_reducible refine load_word rfl (.tmp 6) rfl _ rfl _ _ _ _ _ _ _ _ _ HWS.out ?_)
   refine (word_any 2 0 0 lv 0 0 0 0 (n + (1 + m)) (tx (L.take n)) s k g _ HRD.out (by have := HS.out; have := HK.out; omega) (by omega) (by omega)).mono ?_
   rintro e wx ⟨rfl, hb⟩
   have HRX := Lib.hid (HR.out.below hb)
   have HBX := Lib.hid (HB.out.trans (hb.mono HB.out.size))
   clear hb HR HRD HB HW HWS w4 f4
   go_wp2_with (with_reducible refine store_word rfl (.tmp 2) (.tmp 51) rfl w.heap.size _ _ _ _ _ _ _ _ _ rfl rfl HRX.out ?_)
   refine bodyPost_ret (results_word rfl _ _ w.heap.size _ _ rfl rfl HRX.out ?_) rfl ?_
   next => rfl
   next => first | exact ⟨rfl, below_setRow HBX.out (Nat.le_refl _) _⟩ | exact ⟨by rw [HE.out]; rfl, below_setRow HBX.out (Nat.le_refl _) _⟩
end Go.Proofs.YtnfkcdnkmcifbaaGreatDoor
namespace Go.Proofs.YtnfkcdnkmcifbaaGreatDoor
open Go.RowKit
set_option maxRecDepth 100000
set_option maxHeartbeats 4000000

theorem bo_info : (Tryz.prog.info? 4).map (fun i => (i.zero, i.size, i.bytes)) = some (some (.bool false), 1, 1) := by kernel_rfl
theorem mk256 (w : World) : (Instr.makeSlice 113 (.int .i64 256) (.int .i64 256)).run Tryz.prog w = .ok (.slice (some ⟨w.heap.size, 0, none⟩) 256 256) (w.alloc (.cells (boA fun _ => false) 4)) := by
 obtain ⟨i, hi, hz, hs, hb⟩ := info_parts bo_info
 have := run_make (P := Tryz.prog) w 113 4 i (.bool false) Tryz.underlying113 hi hz .i64 .i64 256 256 (by decide) (by decide) (by rw [hb]; decide) (by decide)
 rw [hs, show madeCells (Value.bool false).cells (Int.toNat 256 * 1) = boA (fun _ => false) by kernel_rfl] at this
 exact this
theorem rrng_any (p : UInt8 × UInt8) (w : World) : Calls Tryz.prog 51 #[.int .u8 p.1.toNat, .int .u8 p.2.toNat] w fun e w' => e = .returned (.agg (cw (rgW p))) ∧ Below w.heap.size w w' := by
 obtain ⟨p1, p2⟩ := p
 show Calls Tryz.prog 51 #[.int .u8 p1.toNat, .int .u8 p2.toNat] w fun e w' => e = .returned (.agg (cw (rgW (p1, p2)))) ∧ Below w.heap.size w w'
 have ha : p1.toNat < 256 := p1.toNat_lt
 have hb : p2.toNat < 256 := p2.toNat_lt
 have HRg : Hid (∀ c, c < 256 → inW (rgW (p1, p2)) c = decide (p1.toNat ≤ c ∧ c ≤ p2.toNat)) := fun c hc => rgW_in _ c hc
 have HRw := Lib.hid (rgW_words (p1, p2))
 generalize rgW (p1, p2) = R at *
 generalize p1.toNat = a at *
 generalize p2.toNat = b at *
 have hmk := mk256
 go_enter Tryz.func51, Tryz.ntmps51
 go_wp2_with fail
 have hr0 := hrow.new w (cw noW) 34
 have hb0 := (Below.refl w.heap.size w).alloc (Nat.le_refl _) (.cells (cw noW) 34)
 have HI0 : Hid (hrow ((w.alloc (.cells #[.int .u64 0, .int .u64 0, .int .u64 0, .int .u64 0] 34)).alloc (.cells (boA fun _ => false) 4)) w.heap.size (cw noW) 34 ∧ hrow ((w.alloc (.cells #[.int .u64 0, .int .u64 0, .int .u64 0, .int .u64 0] 34)).alloc (.cells (boA fun _ => false) 4)) (w.heap.size + 1) (boA fun c => decide (a ≤ c ∧ c < a)) 4 ∧ Below w.heap.size w ((w.alloc (.cells #[.int .u64 0, .int .u64 0, .int .u64 0, .int .u64 0] 34)).alloc (.cells (boA fun _ => false) 4))) := by
  refine ⟨hr0.below ((Below.refl _ _).alloc (Nat.le_refl _) _), ?_, hb0.alloc (by simp) _⟩
  have := hrow.new (w.alloc (.cells (cw noW) 34)) (boA fun _ => false) 4
  rw [World.size_alloc] at this
  have e : (fun c => decide (a ≤ c ∧ c < a)) = fun _ => false := by funext c; exact decide_eq_false (by omega)
  rw [e]
  exact this
 clear hr0 hb0 hmk
 go_loopw [6] (fun i wr => ∃ k : Nat, k ≤ 256 ∧ a ≤ k ∧ i = .int .i64 k ∧ (k ≤ b ∨ k = a ∨ k = b + 1) ∧ Hid (hrow wr w.heap.size (cw noW) 34 ∧ hrow wr (w.heap.size + 1) (boA fun c => decide (a ≤ c ∧ c < k)) 4 ∧ Below w.heap.size w wr)) (fun i _ => 256 - (intOf i).toNat)
 case atStart => exact ⟨a, by omega, by omega, rfl, .inr (.inl rfl), HI0.out⟩
 case round =>
  clear HI0
  obtain ⟨k, hk, hak, rfl, hkb, HI⟩ := hrel
  by_cases hlt : k ≤ b
  ·have hkI : (k : Int) ≤ b := by omega
   have hkI2 : (k : Int) < 256 := by omega
   have hk0 : (0 : Int) ≤ k := by omega
   have HN : Hid (k ≤ b ∧ a ≤ k ∧ b < 256) := ⟨hlt, hak, hb⟩
   have hcc := (HI.out.2.1.cell k).trans (boA_get _ k (by omega))
   have hff := HI.out.2.1.frozen k
   clear hlt hkb hak
   go_wp2_with fail
   go_roundw
   case rel =>
    have hn := HN.out
    refine ⟨k + 1, by omega, by omega, by go_num, by omega, HI.out.1.fr (Fr.setCell _ ⟨w.heap.size + 1, k, none⟩ _) (by simp), ?_, HI.out.2.2.setCell (p := ⟨w.heap.size + 1, k, none⟩) (by simp) _⟩
    have := hrow.setCell HI.out.2.1 k (.bool true)
    rw [boA_set] at this
    have e : (fun c => if c = k then true else decide (a ≤ c ∧ c < k)) = fun c => decide (a ≤ c ∧ c < k + 1) := by
     funext c
     by_cases hc : c = k
     ·subst hc; rw [if_pos rfl]; exact (decide_eq_true (by omega)).symm
     ·rw [if_neg hc]; exact decide_eq_decide.2 (by omega)
    rw [e] at this
    exact this
   case measure => have := HN.out; simp [intOf]; omega
  ·have hkI : ¬ (k : Int) ≤ b := by omega
   have HE : Hid (cw (bitW fun c => decide (a ≤ c ∧ c < k)) = cw R) := cw_ext (bitW_words _) HRw.out (fun c hc => by rw [bitW_in _ c hc, HRg.out c hc, Bool.eq_iff_iff]; simp; omega)
   have K2 : Hid ((Tryz.prog.info? 34).map (·.size) = some (cw R).size) := cw_info.1
   clear hkb
   go_wp2_with fail
   refine (rset_any _ _ _ HI.out.2.1).mono ?_
   rintro e w2 ⟨rfl, hb2⟩
   rw [HE.out]
   have HR := Lib.hid (HI.out.1.below hb2)
   have HB := Lib.hid (HI.out.2.2.trans (hb2.mono HI.out.2.2.size))
   clear HI HE hb2
   go_wp2_with (first
    | (with_reducible refine wpList_store_row rfl 34 (.tmp 4) (.tmp 20) rfl w.heap.size (cw R) rfl rfl 34 _ HR.out.h K2.out rfl (cw_one R) ?_))
   refine bodyPost_ret (results_cell_row rfl _ _ w.heap.size 34 _ _ _ rfl (setRow_heap _ _ _ _ _ _ HR.out) Tryz.underlying34 rfl K2.out) rfl ?_
   exact ⟨rfl, below_setRow HB.out (Nat.le_refl _) _⟩
end Go.Proofs.YtnfkcdnkmcifbaaGreatDoor
namespace Go.Proofs.YtnfkcdnkmcifbaaGreatDoor
open Go.RowKit
set_option maxRecDepth 100000
set_option maxHeartbeats 4000000

/-- A load of several cells that lie somewhere in a block, behind a guard that holds. -/
theorem wpList_load_partG {P : Program} {ops : Array Oper} {rest : List Oper} {o : Oper} {a : Act} {w : World} {Q : Exit → Act → World → Prop} (hw : Region.wanted o (yielded ops a.tmps) = true) (ty : TypeId) (x : Operand) (ho : o.op = .load ty x)
  (p : Addr) (hx : a.eval x = .pointer (some p)) (cs : Array Value) (d : TypeDesc) (hc : ∀ j v, cs.toList[j]? = some v → w.cell? (p.add j) = some v)
  (hu : P.underlying ty = some d) (hd : (match d with | .struct _ | .array _ _ => true | _ => false) = true) (hi : (P.info? ty).map (·.size) = some cs.size)
  (h : wpList P ops Q rest (a.put o.dst (.agg cs)) w) : wpList P ops Q (o :: rest) a w :=
 wpList_step fun K hK => by
  rw [if_pos hw]
  unfold Oper.wp execOp
  simp only [ho, hx, Instr.loadAt, Instr.sureAddr, Sem.run_bind, Sem.run_pure, Result.andThen_ok, run_loadVar_part w p ty cs d hc hu hd hi]
  exact hK _ _ h
theorem hasR_any (w : World) (W : Nat → Nat) (hW : Words W) (b : Nat) (hb : b < 256) :
  Calls Tryz.prog 67 #[.agg (cw W), .int .u8 b] w fun r w' => r = .returned (.bool (inW W b)) ∧ Below w.heap.size w w' := by
 have hc : (cw W)[b / 64]? = some (.int .u64 (W (b / 64))) := cw_get W _ (by omega)
 have HW := Lib.hid hW
 clear hW
 have HB := Lib.hid ((Below.refl w.heap.size w).alloc (Nat.le_refl _) (.cells (cw W) 34))
 have hc2 : (w.alloc (.cells (cw W) 34)).cell? ⟨w.heap.size, b / 64, none⟩ = some (.int .u64 (W (b / 64))) := ((hrow.new w (cw W) 34).cell _).trans hc
 go_enter Tryz.func67, Tryz.ntmps67
 go_wp2_with fail
 go_ret
 refine ⟨ret_bool ?_, HB.out⟩
 unfold inW
 rw [Nat.testBit_eq_decide_div_mod_eq, Bool.eq_iff_iff, beq_iff_eq, decide_eq_true_iff]
 have e : ((W (b / 64) : Int) / 2 ^ (b % 64)) = ((W (b / 64) / 2 ^ (b % 64) : Nat) : Int) := by norm_cast
 rw [e, Int.tmod_eq_emod_of_nonneg (Int.natCast_nonneg _)]
 omega
/-- Is the byte in one of them? -/
def anyW (Ws : List (Nat → Nat)) (c : Nat) : Bool := Ws.any fun W => inW W c
theorem anyW_orL (Ws : List (Nat → Nat)) (c : Nat) : inW (orL Ws) c = anyW Ws c := by
 suffices h : ∀ (Ws : List (Nat → Nat)) V, inW (Ws.foldl orW V) c = (inW V c || anyW Ws c) by
  unfold orL; rw [h, inW_no, Bool.false_or]
 intro Ws
 induction Ws with
 | nil => intro V; simp [anyW]
 | cons W r ih => intro V; rw [List.foldl_cons, ih, inW_or]; simp [anyW, Bool.or_assoc]
theorem orL_words : ∀ (Ws : List (Nat → Nat)), (∀ W ∈ Ws, Words W) → Words (orL Ws) := by
 intro Ws
 suffices h : ∀ (Ws : List (Nat → Nat)) V, Words V → (∀ W ∈ Ws, Words W) → Words (Ws.foldl orW V) from h Ws _ noW_words
 intro Ws
 induction Ws with
 | nil => intro V h _; exact h
 | cons W r ih => intro V h k; exact ih _ (orW_words h (k W (by simp))) (fun x hx => k x (by simp [hx]))
structure RoI (w wr : World) (ao : Option Addr) (n cap : Nat) (Ws : List (Nat → Nat)) (B : Nat → Bool) : Prop where
 res : hrow wr w.heap.size (cw noW) 34
 row : hrow wr (w.heap.size + 1) (boA B) 4
 sv : Sv wr ao n cap 4 (cws Ws)
 below : Below w.heap.size w wr
/-- Filled up to byte k; of byte k, as far as class j. -/
def roB (Ws : List (Nat → Nat)) (k j : Nat) (c : Nat) : Bool := (decide (c < k) && anyW Ws c) || (decide (c = k) && anyW (Ws.take j) c)
theorem roB_zero (Ws : List (Nat → Nat)) : roB Ws 0 0 = fun _ => false := by funext c; simp [roB, anyW]
theorem roB_next (Ws : List (Nat → Nat)) (k : Nat) : roB Ws k Ws.length = roB Ws (k + 1) 0 := by
 funext c
 unfold roB
 rw [List.take_length, List.take_zero]
 by_cases h : c = k
 ·subst h; simp [anyW]
 ·have e : decide (c < k) = decide (c < k + 1) := decide_eq_decide.2 (by omega)
  rw [decide_eq_false h, e]
  simp [anyW]
theorem roB_step (Ws : List (Nat → Nat)) (k j : Nat) (hj : j < Ws.length) (v : Bool) (hv : v = (roB Ws k j k || inW Ws[j] k)) : (fun c => if c = k then v else roB Ws k j c) = roB Ws k (j + 1) := by
 funext c
 by_cases h : c = k
 ·subst h
  rw [if_pos rfl, hv]
  unfold roB
  have e : anyW (Ws.take (j + 1)) c = (anyW (Ws.take j) c || inW Ws[j] c) := by unfold anyW; rw [List.take_succ_eq_append_getElem hj, List.any_append, List.any_cons, List.any_nil, Bool.or_false]
  rw [e]
  simp
 ·rw [if_neg h]
  unfold roB
  rw [decide_eq_false h]
  simp
theorem ror_any (w : World) (ao : Option Addr) (cap n : Nat) (Ws : List (Nat → Nat)) (hs : Sv w ao n cap 4 (cws Ws)) (hW : ∀ W ∈ Ws, Words W) :
  Calls Tryz.prog 52 #[.slice ao n cap] w fun r w' => r = .returned (.agg (cw (orL Ws))) ∧ Below w.heap.size w w' := by
 obtain ⟨hb1, hb2⟩ := hs.bound
 have hl : Ws.length = n := by have := hs.len; rw [cws_len] at this; omega
 have HL := Lib.hid hl
 have HZ := Lib.hid hW; clear hW
 have hmk := mk256
 have HI0 : Hid (RoI w ((w.alloc (.cells #[.int .u64 0, .int .u64 0, .int .u64 0, .int .u64 0] 34)).alloc (.cells (boA fun _ => false) 4)) ao n cap Ws (roB Ws 0 0)) := by
  have hb0 := (Below.refl w.heap.size w).alloc (Nat.le_refl _) (.cells (cw noW) 34)
  have hb := hb0.alloc (by simp) (.cells (boA fun _ => false) 4)
  refine ⟨(hrow.new w (cw noW) 34).below ((Below.refl _ _).alloc (Nat.le_refl _) _), ?_, hs.below hb, hb⟩
  rw [roB_zero]
  have := hrow.new (w.alloc (.cells (cw noW) 34)) (boA fun _ => false) 4
  rw [World.size_alloc] at this
  exact this
 have HAB : Hid (∀ a, ao = some a → 0 < n → a.block < w.heap.size) := fun a ha hn => by
  obtain ⟨a', e, hc⟩ := hs.cell 0 (by rw [cws_len]; omega)
  rw [ha] at e; cases e
  have h0 : a.add 0 = a := by unfold Addr.add; simp
  rw [h0, List.getElem?_eq_getElem (by rw [cws_len]; omega)] at hc
  exact World.block_lt_of_cell? w a hc
 clear hs hl
 go_enter Tryz.func52, Tryz.ntmps52
 go_wp2_with fail
 clear hmk
 go_loopw [4] (fun i wr => ∃ k : Nat, k ≤ 256 ∧ i = .int .i64 k ∧ Hid (RoI w wr ao n cap Ws (roB Ws k 0))) (fun i _ => 256 - (intOf i).toNat)
 case atStart => exact ⟨0, by omega, rfl, HI0.out⟩
 case round =>
  clear HI0
  obtain ⟨k, hk, rfl, HI⟩ := hrel
  by_cases hlt : k < 256
  ·have hkI : (k : Int) < 256 := by omega
   have hk0 : (0 : Int) ≤ k := by omega
   have HK := Lib.hid hlt; clear hlt
   go_wp2_with fail
   go_loopw [5] (fun i wr => ∃ j : Nat, j ≤ n ∧ i = .int .i64 j ∧ Hid (RoI w wr ao n cap Ws (roB Ws k j))) (fun i _ => n - (intOf i).toNat)
   case atStart => exact ⟨0, by omega, rfl, HI.out⟩
   case round =>
    clear HI
    obtain ⟨j, hj, rfl, HJ⟩ := hrel
    by_cases hjn : j < n
    ·have hjI : (j : Int) < n := by omega
     have hj0 : (0 : Int) ≤ j := by omega
     have hjz : j < Ws.length := by have := HL.out; omega
     have hcl := cws_len Ws
     obtain ⟨a, rfl, _⟩ := HJ.out.sv.cell (j * 4) (by omega)
     have hcp : ∀ i v, (cw (Ws[j])).toList[i]? = some v → wr.cell? ((a.add (j * 4)).add i) = some v := fun i v hi => by
      have h1 := cws_get Ws j hjz i v hi
      have hlt' := (List.getElem?_eq_some_iff.1 h1).1
      obtain ⟨a', ha', hc'⟩ := HJ.out.sv.cell (j * 4 + i) hlt'
      cases ha'
      rw [add_add, hc', h1]
     have hVw := HZ.out _ (List.getElem_mem hjz)
     have HVw := Lib.hid hVw
     have HST := Lib.hid (roB_step Ws k j hjz)
     have HCp := Lib.hid hcp
     clear hcp hcl hVw
     generalize Ws[j]'hjz = V at *
     have HN : Hid (j < n) := hjn
     have hcc := (HJ.out.row.cell k).trans (boA_get _ k HK.out)
     have hff := HJ.out.row.frozen k
     have HAlt := Lib.hid (HAB.out a rfl (by omega))
     have hwr : IntKind.u8.wrap (k : Int) = k := by have := HK.out; simp [IntKind.wrap, IntKind.bits, IntKind.signed]; omega
     have K2 : Hid ((Tryz.prog.info? 34).map (·.size) = some (cw V).size) := cw_info.1
     clear hjz hjn
     cases hv : roB Ws k j k with
     | true =>
      rw [hv] at hcc
      have HS1 := Lib.hid (HST.out true (by rw [hv]; simp))
      clear hv HCp
      go_wp2_with fail
      go_roundw
      case rel =>
       refine ⟨j + 1, HN.out, by go_num, HJ.out.res.fr (Fr.setCell _ ⟨w.heap.size + 1, k, none⟩ _) (by simp), ?_, HJ.out.sv.fr (Fr.setCell _ ⟨w.heap.size + 1, k, none⟩ _) (fun a' e _ => by cases e; have := HAlt.out; simp; omega), HJ.out.below.setCell (p := ⟨w.heap.size + 1, k, none⟩) (by simp) _⟩
       have := hrow.setCell HJ.out.row k (.bool true)
       rw [boA_set, HS1.out] at this
       exact this
      case measure => have := HN.out; simp [intOf]; omega
     | false =>
      rw [hv] at hcc
      have HS1 := Lib.hid (HST.out (inW V k) (by rw [hv]; simp))
      clear hv
      go_wp2_with (refine wpList_load_partG rfl 34 (.tmp 26) rfl (a.add (j * 4)) rfl (cw V) _ HCp.out Tryz.underlying34 rfl K2.out ?_)
      refine (hasR_any _ V HVw.out k HK.out).mono ?_
      rintro e x ⟨rfl, hb⟩
      have HR1 := Lib.hid (HJ.out.row.below hb)
      have HQ : Hid (hrow x w.heap.size (cw noW) 34 ∧ Sv x (some a) n cap 4 (cws Ws) ∧ Below w.heap.size w x) := ⟨HJ.out.res.below hb, HJ.out.sv.below hb, HJ.out.below.trans (hb.mono HJ.out.below.size)⟩
      have hff2 := HR1.out.frozen k
      have hcc2 := (HR1.out.cell k).trans (boA_get _ k HK.out)
      clear hb HCp hcc hff
      go_wp2_with fail
      go_roundw
      case rel =>
       refine ⟨j + 1, HN.out, by go_num, HQ.out.1.fr (Fr.setCell _ ⟨w.heap.size + 1, k, none⟩ _) (by simp), ?_, HQ.out.2.1.fr (Fr.setCell _ ⟨w.heap.size + 1, k, none⟩ _) (fun a' e _ => by cases e; have := HAlt.out; simp; omega), HQ.out.2.2.setCell (p := ⟨w.heap.size + 1, k, none⟩) (by simp) _⟩
       have := hrow.setCell HR1.out k (.bool (inW V k))
       rw [boA_set, HS1.out] at this
       exact this
      case measure => have := HN.out; simp [intOf]; omega
    ·have hjI : ¬ (j : Int) < n := by omega
     obtain rfl : j = n := by omega
     have HX : Hid (RoI w wr ao j cap Ws (roB Ws (k + 1) 0)) := by rw [← roB_next, HL.out]; exact HJ.out
     go_wp2_with fail
     go_roundw
     case rel => exact ⟨k + 1, HK.out, by go_num, HX.out⟩
     case measure => have := HK.out; simp [intOf]; omega
  ·have hkI : ¬ (k : Int) < 256 := by omega
   obtain rfl : k = 256 := by omega
   have HE : Hid (cw (bitW (roB Ws 256 0)) = cw (orL Ws)) := cw_ext (bitW_words _) (orL_words Ws HZ.out) (fun c hc => by rw [bitW_in _ c hc, anyW_orL]; unfold roB; rw [decide_eq_true hc]; simp; omega)
   have K2 : Hid ((Tryz.prog.info? 34).map (·.size) = some (cw (orL Ws)).size) := cw_info.1
   go_wp2_with fail
   refine (rset_any _ _ _ HI.out.row).mono ?_
   rintro e w2 ⟨rfl, hb2⟩
   rw [HE.out]
   have HR := Lib.hid (HI.out.res.below hb2)
   have HB := Lib.hid (HI.out.below.trans (hb2.mono HI.out.below.size))
   clear HI HE hb2
   go_wp2_with (first
    | (with_reducible refine wpList_store_row rfl 34 (.tmp 2) (.tmp 34) rfl w.heap.size (cw (orL Ws)) rfl rfl 34 _ HR.out.h K2.out rfl (cw_one _) ?_))
   refine bodyPost_ret (results_cell_row rfl _ _ w.heap.size 34 _ _ _ rfl (setRow_heap _ _ _ _ _ _ HR.out) Tryz.underlying34 rfl K2.out) rfl ?_
   exact ⟨rfl, below_setRow HB.out (Nat.le_refl _) _⟩
end Go.Proofs.YtnfkcdnkmcifbaaGreatDoor
namespace Go.Proofs.YtnfkcdnkmcifbaaGreatDoor
open Go.RowKit
set_option maxRecDepth 100000
set_option maxHeartbeats 4000000

theorem rlet_any (c : UInt8) (w : World) : Calls Tryz.prog 36 #[.int .u8 c.toNat] w fun e w' => e = .returned (.bool (isLt c)) ∧ w' = w := by
 have H : Hid (isLt c = (decide (97 ≤ (c.toNat : Int)) && decide ((c.toNat : Int) ≤ 122) || decide (65 ≤ (c.toNat : Int)) && decide ((c.toNat : Int) ≤ 90) || decide ((c.toNat : Int) = 95))) :=
  u8_all (P := fun c => isLt c = (decide (97 ≤ (c.toNat : Int)) && decide ((c.toNat : Int) ≤ 122) || decide (65 ≤ (c.toNat : Int)) && decide ((c.toNat : Int) ≤ 90) || decide ((c.toNat : Int) = 95))) (by decide +kernel) c
 generalize (c.toNat : Int) = b at *
 go_enter Tryz.func36, Tryz.ntmps36
 go_wp2_with fail
 all_goals
  go_ret
  refine ⟨?_, rfl⟩
  rw [H.out]
  refine ret_bool ?_
  rw [Bool.eq_iff_iff]
  simp
  try omega
theorem rdig_any (c : UInt8) (w : World) : Calls Tryz.prog 49 #[.int .u8 c.toNat] w fun e w' => e = .returned (.bool (isDg c)) ∧ w' = w := by
 have H : Hid (isDg c = (decide (48 ≤ (c.toNat : Int)) && decide ((c.toNat : Int) ≤ 57))) :=
  u8_all (P := fun c => isDg c = (decide (48 ≤ (c.toNat : Int)) && decide ((c.toNat : Int) ≤ 57))) (by decide +kernel) c
 generalize (c.toNat : Int) = b at *
 go_enter Tryz.func49, Tryz.ntmps49
 go_wp2_with fail
 all_goals
  go_ret
  refine ⟨?_, rfl⟩
  rw [H.out]
  refine ret_bool ?_
  rw [Bool.eq_iff_iff]
  simp
  try omega
theorem rskip_any (s : ByteArray) (a : Int) (w : World) (hs : s.size ≤ 1000000) : Calls Tryz.prog 13 #[.string s, .int .i64 a] w fun e w' => e = .returned (.int .i64 (skA s.data.toList a)) ∧ Below w.heap.size w w' := by
 by_cases h : a < 0
 ·have HE : Hid (skA s.data.toList a = a) := by unfold Hid skA; rw [if_pos (.inl h)]
  rw [HE.out]
  go_enter Tryz.func13, Tryz.ntmps13
  go_wp2_with fail
  go_ret
  exact ⟨rfl, Below.refl _ _⟩
 by_cases h2 : (s.size : Int) < a
 ·have HE : Hid (skA s.data.toList a = a) := by unfold Hid skA; rw [if_pos (.inr (by rw [ba_len]; exact h2))]
  rw [HE.out]
  obtain ⟨k, rfl⟩ : ∃ k : Nat, a = k := ⟨a.toNat, by omega⟩
  have HB := Lib.hid (Below.refl w.heap.size w)
  go_enter Tryz.func13, Tryz.ntmps13
  have hge : ¬ (k : Int) < s.size := by omega
  go_wp2_with fail
  go_loopw [1, 5] (fun i r wr => i = .int .i64 k ∧ r = .bool false ∧ Hid (Below w.heap.size w wr)) (fun i _ _ => 0)
  case atStart => exact ⟨rfl, rfl, HB.out⟩
  case round =>
   obtain ⟨rfl, rfl, HI⟩ := hrel
   go_wp2_with fail
   go_ret
   exact ⟨rfl, HI.out⟩
 obtain ⟨k0, rfl⟩ : ∃ k0 : Nat, a = k0 := ⟨a.toNat, by omega⟩
 have hk0 : k0 ≤ s.size := by omega
 obtain ⟨R, hR⟩ : ∃ R, R = k0 + skp false (s.data.toList.drop k0) := ⟨_, rfl⟩
 have HE : Hid (skA s.data.toList k0 = R) := by unfold Hid; rw [skA_in (by rw [ba_len]; exact hk0), hR]; omega
 rw [HE.out]
 have HB := Lib.hid (Below.refl w.heap.size w)
 have HS := Lib.hid hs; clear hs
 have HR := Lib.hid hR; clear hR
 have h0 : (0 : Int) ≤ k0 := by omega
 clear h h2
 go_enter Tryz.func13, Tryz.ntmps13
 go_wp2_with fail
 go_loopw [1, 5] (fun i r wr => ∃ (k : Nat) (b : Bool), k ≤ s.size ∧ i = .int .i64 k ∧ r = .bool b ∧ Hid (R = k + skp b (s.data.toList.drop k) ∧ Below w.heap.size w wr)) (fun i _ _ => s.size - (intOf i).toNat)
 case atStart => exact ⟨k0, false, hk0, rfl, rfl, HR.out, HB.out⟩
 case round =>
  clear HR HB HE
  obtain ⟨k, b, hk, rfl, rfl, HI⟩ := hrel
  by_cases hlt : k < s.size
  ·have hkI : (k : Int) < s.size := by omega
   have hk1 : (0 : Int) ≤ k := by omega
   have hkb : (s.size : Int) ≤ 1000000 := by have := HS.out; omega
   have HD := Lib.hid (drop_at hlt)
   have HB := Lib.hid HI.out.2
   have HR := Lib.hid HI.out.1
   rw [HD.out] at HR
   clear HI HD
   obtain ⟨X, hX⟩ : ∃ X : Int, ((s[k].toNat : Nat) : Int) = X := ⟨_, rfl⟩
   have E10 := Lib.hid (u8_all (P := fun c => (c != 10) = ((c.toNat : Int) != 10)) (by decide +kernel) (s[k]))
   have HBl := Lib.hid (u8_all (P := fun c => isBl c = ((c.toNat : Int) == 32 || (c.toNat : Int) == 9 || (c.toNat : Int) == 10 || (c.toNat : Int) == 13)) (by decide +kernel) (s[k]))
   have H35 := Lib.hid (u8_all (P := fun c => (c == 35) = ((c.toNat : Int) == 35)) (by decide +kernel) (s[k]))
   rw [show skp b (s[k] :: s.data.toList.drop (k + 1)) = if b = true then 1 + skp (s[k] != 10) (s.data.toList.drop (k + 1)) else if isBl (s[k]) = true then 1 + skp false (s.data.toList.drop (k + 1)) else if (s[k] == 35) = true then 1 + skp true (s.data.toList.drop (k + 1)) else 0 by cases b <;> simp [skp], E10.out, HBl.out, H35.out, hX] at HR
   have HK := Lib.hid hlt
   clear E10 HBl H35
   cases b with
   | true =>
    rw [if_pos rfl] at HR
    obtain ⟨q, hq⟩ : ∃ q, (X != 10) = q := ⟨_, rfl⟩
    rw [hq] at HR
    go_wp2_with fail
    go_roundw
    case rel => exact ⟨k + 1, q, HK.out, by go_num, rfl, by have := HR.out; omega, HB.out⟩
    case measure => have := HK.out; simp [intOf]; omega
   | false =>
    rw [if_neg (by decide)] at HR
    cases f32 : (X == 32) with
    | true =>
     rw [f32] at HR
     simp only [Bool.true_or, if_true] at HR
     go_wp2_with fail
     go_roundw
     case rel => exact ⟨k + 1, false, HK.out, by go_num, rfl, by have := HR.out; omega, HB.out⟩
     case measure => have := HK.out; simp [intOf]; omega
    | false =>
    rw [f32] at HR
    cases f9 : (X == 9) with
    | true =>
     rw [f9] at HR
     simp only [Bool.true_or, Bool.or_true, if_true] at HR
     go_wp2_with fail
     go_roundw
     case rel => exact ⟨k + 1, false, HK.out, by go_num, rfl, by have := HR.out; omega, HB.out⟩
     case measure => have := HK.out; simp [intOf]; omega
    | false =>
    rw [f9] at HR
    cases f10 : (X == 10) with
    | true =>
     rw [f10] at HR
     simp only [Bool.true_or, Bool.or_true, if_true] at HR
     go_wp2_with fail
     go_roundw
     case rel => exact ⟨k + 1, false, HK.out, by go_num, rfl, by have := HR.out; omega, HB.out⟩
     case measure => have := HK.out; simp [intOf]; omega
    | false =>
    rw [f10] at HR
    cases f13 : (X == 13) with
    | true =>
     rw [f13] at HR
     simp only [Bool.or_true, if_true] at HR
     go_wp2_with fail
     go_roundw
     case rel => exact ⟨k + 1, false, HK.out, by go_num, rfl, by have := HR.out; omega, HB.out⟩
     case measure => have := HK.out; simp [intOf]; omega
    | false =>
    rw [f13] at HR
    simp only [Bool.or_false, Bool.false_eq_true, if_false] at HR
    cases f35 : (X == 35) with
    | true =>
     rw [f35] at HR
     simp only [if_true] at HR
     go_wp2_with fail
     go_roundw
     case rel => exact ⟨k + 1, true, HK.out, by go_num, rfl, by have := HR.out; omega, HB.out⟩
     case measure => have := HK.out; simp [intOf]; omega
    | false =>
     rw [f35] at HR
     simp only [Bool.false_eq_true, if_false] at HR
     have HRk : Hid (R = k) := by have := HR.out; unfold Hid; omega
     go_wp2_with fail
     go_ret
     exact ⟨by rw [HRk.out]; rfl, HB.out⟩
  ·obtain rfl : k = s.size := by omega
   have hkI : ¬ (s.size : Int) < s.size := by omega
   have HRk : Hid (R = s.size) := by have := HI.out.1; rw [List.drop_eq_nil_of_le (by rw [ba_len]; exact Nat.le_refl _)] at this; cases b <;> (unfold Hid; simpa [skp] using this)
   go_wp2_with fail
   go_ret
   exact ⟨by rw [HRk.out]; rfl, HI.out.2⟩
end Go.Proofs.YtnfkcdnkmcifbaaGreatDoor
