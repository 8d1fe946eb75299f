/- Walks: words: a name. -/
import Derived.Test.YtnfkcdnkmcifbaaDoorV6
namespace Go.Proofs.YtnfkcdnkmcifbaaDoor
open Go.RowKit
set_option maxRecDepth 100000
set_option maxHeartbeats 4000000

theorem take_tw {p : UInt8 → Bool} : ∀ l : List UInt8, l.take (l.takeWhile p).length = l.takeWhile p
 | [] => rfl
 | c :: l => by
  rw [List.takeWhile_cons]
  split
  ·rw [List.length_cons, List.take_succ_cons, take_tw l]
  ·rfl
theorem tw_len (p : UInt8 → Bool) (l : List UInt8) : (l.takeWhile p).length ≤ l.length := by
 have := List.takeWhile_prefix p (l := l)
 exact this.length_le
theorem tw_all (p : UInt8 → Bool) (l : List UInt8) : ∀ c ∈ l.takeWhile p, p c = true := fun c hc => by
 have := List.all_takeWhile (p := p) (l := l)
 exact List.all_eq_true.1 this c hc
/-- What a name is, by what the program measures. -/
theorem nameW_is (l V : List UInt8) (n m : Nat) (hn : (l.takeWhile isLD).length = n) (hV : Lib.trimPrefix (l.drop n) [58] = V) (hm : (V.takeWhile isDg).length = m) :
  (m = 0 → nameW l = ⟨2, n, l.take n, -1, []⟩) ∧ (0 < m → l.drop n = 58 :: V ∧ nameW l = ⟨2, n + 1 + m, l.take n, lvl (V.take m), []⟩) := by
 have hd : l.dropWhile isLD = l.drop n := by rw [← hn]; exact drop_tw l
 have ht : l.take n = l.takeWhile isLD := by rw [← hn]; exact take_tw l
 have hdm : V.take m = V.takeWhile isDg := by rw [← hm]; exact take_tw V
 rw [ht, hdm]
 unfold nameW
 rw [hd, hn]
 have hh : ∀ c u, l.drop n = c :: u → isLD c = false := fun c u h => drop_head (hd.trans h)
 generalize l.drop n = U at *
 match U, hV with
 | [], hV =>
  have : V = [] := by rw [← hV]; rfl
  subst this
  have : m = 0 := by rw [← hm]; rfl
  subst this
  exact ⟨fun _ => rfl, fun h => absurd h (by omega)⟩
 | c :: u, hV =>
  by_cases hc : c = 58
  ·subst hc
   have : V = u := by rw [← hV]; simp [Lib.trimPrefix, pre1]
   subst this
   match V, hm with
   | [], hm =>
    have : m = 0 := by rw [← hm]; rfl
    subst this
    exact ⟨fun _ => rfl, fun h => absurd h (by omega)⟩
   | d :: t, hm =>
    rw [List.takeWhile_cons] at hm
    by_cases hg : isDg d = true
    ·rw [if_pos hg] at hm
     refine ⟨fun h => by subst h; simp at hm, fun _ => ⟨rfl, ?_⟩⟩
     simp only [hg, beq_self_eq_true, Bool.and_self, if_true]
     rw [show ((d :: t).takeWhile isDg).length = m by rw [List.takeWhile_cons, if_pos hg]; exact hm]
    ·rw [if_neg hg] at hm
     refine ⟨fun _ => ?_, fun h => by rw [← hm] at h; simp at h⟩
     simp [hg]
  ·have hVV : V = c :: u := by rw [← hV]; simp [Lib.trimPrefix, pre1, Ne.symm hc]
   subst hVV
   have hg : isDg c = false := by have := hh c u rfl; unfold isLD at this; simp at this; exact this.2
   have : m = 0 := by rw [← hm, List.takeWhile_cons, hg]; rfl
   subst this
   refine ⟨fun _ => ?_, fun h => absurd h (by omega)⟩
   cases u with
   | nil => rfl
   | cons d t => simp [hc]
theorem trim_len (l p : List UInt8) : (Lib.trimPrefix l p).length ≤ l.length := by
 unfold Lib.trimPrefix
 split
 ·rw [List.length_drop]; omega
 ·exact Nat.le_refl _
def nmR (l : List UInt8) : Option Wr := if (l.takeWhile isLt).length = 0 then none else some (nameW l)
theorem ba_loop (bs : ByteArray) : ∀ (n i : Nat) (r : List UInt8), bs.size - i = n → ByteArray.toList.loop bs i r = r.reverse ++ bs.data.toList.drop i
 | 0, i, r, h => by
  unfold ByteArray.toList.loop
  rw [if_neg (by omega), List.drop_eq_nil_of_le (by rw [ba_len]; omega), List.append_nil]
 | n + 1, i, r, h => by
  have hi : i < bs.size := by omega
  unfold ByteArray.toList.loop
  rw [if_pos hi, ba_loop bs n (i + 1) _ (by omega), drop_at hi, List.reverse_cons, List.append_assoc]
  congr 2
  show [bs.data[i]!] ++ _ = bs[i] :: _
  rw [getElem!_pos bs.data i hi]; rfl
theorem ba_toList (bs : ByteArray) : bs.toList = bs.data.toList := by
 unfold ByteArray.toList
 rw [ba_loop bs _ 0 [] rfl]; rfl
theorem hrow.setCell {w : World} {g : Nat} {cs : Array Value} {t : TypeId} (h : hrow w g cs t) (o : Nat) (v : Value) : hrow (w.setCell ⟨g, o, none⟩ v) g (cs.setIfInBounds o v) t := heap_setCell_same _ _ _ _ _ _ h.h
/-- The load of a word. -/
theorem load_word {ops : Array Oper} {rest : List Oper} {o : Oper} {a : Act} {w : World} {Q : Exit → Act → World → Prop} (hgd : o.guard = none) (x : Operand) (ho : o.op = .load 33 x)
    (g : Nat) (hx : a.eval x = .pointer (some ⟨g, 0, none⟩)) (kind at_ nx : Int) (t : ByteArray) (lv c0 c1 c2 c3 : Int)
    (hg : hrow w g #[.int .i64 kind, .int .i64 at_, .int .i64 nx, .string t, .int .i64 lv, .int .u64 c0, .int .u64 c1, .int .u64 c2, .int .u64 c3] 33)
    (h : wpList Tryd.prog ops Q rest (a.put o.dst (.agg #[.int .i64 kind, .int .i64 at_, .int .i64 nx, .string t, .int .i64 lv, .int .u64 c0, .int .u64 c1, .int .u64 c2, .int .u64 c3])) w) : wpList Tryd.prog ops Q (o :: rest) a w :=
  wpList_load_row hgd _ x ho g hx _ _ _ _ hg.h Tryd.underlying33 rfl (wd_sz rfl) h
theorem name_any (s : ByteArray) (k g : Nat) (w : World) (hr : Rdr w g s k) (hs : s.size ≤ 1000000) (hk : k ≤ s.size) :
  Calls Tryd.prog 15 #[.pointer (some ⟨g, 0, none⟩)] w fun e w' => e = .returned (rdO (nmR (s.data.toList.drop k)) k) ∧ Below w.heap.size w w' := by
 have HRD := Lib.hid hr
 have HS := Lib.hid hs
 have HK := Lib.hid hk
 have HLF := Lib.hid (fun (x : World) (h : Rdr x g s k) => left_any s k g x h hk)
 have HLL : Hid ((s.data.toList.drop k).length + k = s.size) := by unfold Hid; rw [List.length_drop, ba_len]; omega
 clear hr hs hk
 generalize s.data.toList.drop k = L at *
 have hLs : (tx L).size ≤ 1000000 := by rw [tx_size]; have := HLL.out; have := HS.out; omega
 have HLS := Lib.hid hLs; clear hLs
 by_cases h0 : (L.takeWhile isLt).length = 0
 ·have HE : Hid (nmR L = none) := by unfold Hid nmR; rw [if_pos h0]
  have hz : ((L.takeWhile isLt).length : Int) = 0 := by omega
  clear h0
  go_enter Tryd.func15, Tryd.ntmps15
  go_wp2_with fail
  have HB := Lib.hid ((Below.refl w.heap.size w).alloc (Nat.le_refl _) (.cells #[.int .i64 0, .int .i64 0, .int .i64 0, .string ⟨#[]⟩, .int .i64 0, .int .u64 0, .int .u64 0, .int .u64 0, .int .u64 0] 33))
  have HR := Lib.hid (show hrow (w.alloc (.cells #[.int .i64 0, .int .i64 0, .int .i64 0, .string ⟨#[]⟩, .int .i64 0, .int .u64 0, .int .u64 0, .int .u64 0, .int .u64 0] 33)) w.heap.size wd0 33 from hrow.new _ _ _)
  replace HRD := Lib.hid (Rdr.below HRD.out HB.out)
  revert HB HR HRD
  generalize w.alloc (.cells #[.int .i64 0, .int .i64 0, .int .i64 0, .string ⟨#[]⟩, .int .i64 0, .int .u64 0, .int .u64 0, .int .u64 0, .int .u64 0] 33) = wb
  intro HB HR HRD
  have HRN : Hid (∀ n, hrow (wb.drewN n) w.heap.size wd0 33) := Lib.hid (fun _ => HR.out)
  clear HRN
  go_wp2_with fail
  refine (HLF.out _ HRD.out).mono ?_
  rintro e x ⟨rfl, hb⟩
  replace HR := Lib.hid (HR.out.below hb)
  replace HRD := Lib.hid (Rdr.below HRD.out hb)
  replace HB := Lib.hid (HB.out.trans (hb.mono HB.out.size))
  clear hb
  go_wp2_with fail
  refine (span_lt (tx L) _ HLS.out).mono ?_
  rintro e x ⟨rfl, hb⟩
  replace HR := Lib.hid (HR.out.below hb)
  replace HRD := Lib.hid (Rdr.below HRD.out hb)
  replace HB := Lib.hid (HB.out.trans (hb.mono HB.out.size))
  clear hb
  rw [tx_list, hz]
  clear hz
  go_wp2_with (with_reducible refine store_word rfl (.tmp 2) (.tmp 16) rfl w.heap.size _ _ _ _ _ _ _ _ _ rfl rfl HR.out ?_)
  refine bodyPost_ret (results_word rfl _ _ w.heap.size _ _ rfl rfl HR.out ?_) rfl ?_
  next => rfl
  next => first | exact ⟨rfl, below_setRow HB.out (Nat.le_refl _) _⟩ | exact ⟨by rw [HE.out]; rfl, below_setRow HB.out (Nat.le_refl _) _⟩
 ·have HE : Hid (nmR L = some (nameW L)) := by unfold Hid nmR; rw [if_neg h0]
  have hz : ((L.takeWhile isLt).length : Int) ≠ 0 := by omega
  generalize hzz : (L.takeWhile isLt).length = z at *
  have HZ := Lib.hid hzz; clear hzz
  clear h0
  have hnL := tw_len isLD L
  generalize hn : (L.takeWhile isLD).length = n at *
  have HNN := Lib.hid hn; clear hn
  have HN := Lib.hid (fun V => nameW_is L V n)
  have hsl1 : ∀ wx, (Instr.slice 9 (.string (tx L)) none (some (.int .i64 n)) none).run Tryd.prog wx = .ok (.string (tx (L.take n))) wx := to_run 9 Tryd.underlying9 L n n rfl hnL
  have hsl2 : ∀ wx, (Instr.slice 9 (.string (tx L)) (some (.int .i64 n)) none none).run Tryd.prog wx = .ok (.string (tx (L.drop n))) wx := from_run 9 Tryd.underlying9 (tx L) n n rfl (by rw [tx_size]; exact hnL)
  go_enter Tryd.func15, Tryd.ntmps15
  go_wp2_with fail
  have HB := Lib.hid ((Below.refl w.heap.size w).alloc (Nat.le_refl _) (.cells #[.int .i64 0, .int .i64 0, .int .i64 0, .string ⟨#[]⟩, .int .i64 0, .int .u64 0, .int .u64 0, .int .u64 0, .int .u64 0] 33))
  have HR := Lib.hid (show hrow (w.alloc (.cells #[.int .i64 0, .int .i64 0, .int .i64 0, .string ⟨#[]⟩, .int .i64 0, .int .u64 0, .int .u64 0, .int .u64 0, .int .u64 0] 33)) w.heap.size wd0 33 from hrow.new _ _ _)
  replace HRD := Lib.hid (Rdr.below HRD.out HB.out)
  revert HB HR HRD
  generalize w.alloc (.cells #[.int .i64 0, .int .i64 0, .int .i64 0, .string ⟨#[]⟩, .int .i64 0, .int .u64 0, .int .u64 0, .int .u64 0, .int .u64 0] 33) = wb
  intro HB HR HRD
  have HRN : Hid (∀ n, hrow (wb.drewN n) w.heap.size wd0 33) := Lib.hid (fun _ => HR.out)
  clear HRN
  go_wp2_with fail
  refine (HLF.out _ HRD.out).mono ?_
  rintro e x ⟨rfl, hb⟩
  replace HR := Lib.hid (HR.out.below hb)
  replace HRD := Lib.hid (Rdr.below HRD.out hb)
  replace HB := Lib.hid (HB.out.trans (hb.mono HB.out.size))
  clear hb
  go_wp2_with fail
  refine (span_lt (tx L) _ HLS.out).mono ?_
  rintro e x ⟨rfl, hb⟩
  replace HR := Lib.hid (HR.out.below hb)
  replace HRD := Lib.hid (Rdr.below HRD.out hb)
  replace HB := Lib.hid (HB.out.trans (hb.mono HB.out.size))
  clear hb
  rw [tx_list, HZ.out]
  go_wp2_with fail
  refine (span_ld (tx L) _ HLS.out).mono ?_
  rintro e x ⟨rfl, hb⟩
  replace HR := Lib.hid (HR.out.below hb)
  replace HRD := Lib.hid (Rdr.below HRD.out hb)
  replace HB := Lib.hid (HB.out.trans (hb.mono HB.out.size))
  clear hb
  rw [tx_list, HNN.out]
  have HNL := Lib.hid hnL; clear hz hnL
  go_wp2_with fail
  have hb := (Below.refl x.heap.size x).alloc (Nat.le_refl _) (.cells #[.int .i64 2, .int .i64 0, .int .i64 0, .string (tx (L.take n)), .int .i64 (-1), .int .u64 0, .int .u64 0, .int .u64 0, .int .u64 0] 33)
  have HW := Lib.hid (hrow.new x #[.int .i64 2, .int .i64 0, .int .i64 0, .string (tx (L.take n)), .int .i64 (-1), .int .u64 0, .int .u64 0, .int .u64 0, .int .u64 0] 33)
  have HG6 := Lib.hid (HR.out.lt)
  have HG7 := Lib.hid (HRD.out.lt)
  replace HR := Lib.hid (HR.out.below hb)
  replace HRD := Lib.hid (Rdr.below HRD.out hb)
  replace HB := Lib.hid (HB.out.trans (hb.mono HB.out.size))
  clear hb
  revert HB HR HRD HW
  generalize x.alloc _ = y
  revert HG6 HG7
  generalize x.heap.size = g6
  intro HG6 HG7 HW HR HRD HB
  have HT : Calls Tryd.prog 26 #[.string (tx (L.drop n)), .string ⟨#[58]⟩] y fun e w' => e = .returned (.string (tx (Lib.trimPrefix (L.drop n) [58]))) ∧ w' = y := Tryd.strings_TrimPrefix (tx (L.drop n)) _ y
  generalize hV : Lib.trimPrefix (L.drop n) [58] = V at HT
  refine HT.mono ?_
  rintro e y2 ⟨rfl, rfl⟩
  clear HT
  have HN := Lib.hid (fun m => HN.out V m HNN.out hV)
  have hVl : V.length ≤ L.length := by rw [← hV]; exact Nat.le_trans (trim_len _ _) (by rw [List.length_drop]; omega)
  clear hV
  have HVS : Hid ((tx V).size ≤ 1000000) := by have := HLS.out; rw [tx_size] at this; unfold Hid; rw [tx_size]; omega
  go_wp2_with fail
  refine (span_dg (tx V) _ HVS.out).mono ?_
  rintro e x ⟨rfl, hb⟩
  replace HW := Lib.hid (HW.out.below hb)
  replace HR := Lib.hid (HR.out.below hb)
  replace HRD := Lib.hid (Rdr.below HRD.out hb)
  replace HB := Lib.hid (HB.out.trans (hb.mono HB.out.size))
  clear hb
  rw [tx_list]
  have hmV := tw_len isDg V
  have HMA := Lib.hid (tw_all isDg V)
  have HMT := Lib.hid (take_tw (p := isDg) V)
  have HM := Lib.hid (HN.out _ rfl); clear HN
  generalize (V.takeWhile isDg).length = m at *
  have HMB : Hid (n ≤ 1000000 ∧ V.length ≤ 1000000 ∧ m ≤ 1000000) := by have h1 := HLS.out; have h2 := HNL.out; rw [tx_size] at h1; unfold Hid; omega
  by_cases hm0 : m = 0
  ·subst hm0
   have HE2 : Hid (nmR L = some ⟨2, n, L.take n, -1, []⟩) := by rw [HE.out, HM.out.1 rfl]; rfl
   have HE := HE2
   clear HE2 HM
   go_wp2_with (with_reducible refine load_word rfl (.tmp 6) rfl _ rfl _ _ _ _ _ _ _ _ _ HW.out ?_)
   refine (word_any 2 0 0 (-1) 0 0 0 0 n (tx (L.take n)) s k g _ HRD.out (by have := HS.out; have := HK.out; omega) (by omega) (by have := HMB.out; omega)).mono ?_
   rintro e wx ⟨rfl, hb⟩
   have HRX := Lib.hid (HR.out.below hb)
   have HBX := Lib.hid (HB.out.trans (hb.mono HB.out.size))
   clear hb HR HRD HB HW
   go_wp2_with (with_reducible refine store_word rfl (.tmp 2) (.tmp 51) rfl w.heap.size _ _ _ _ _ _ _ _ _ rfl rfl HRX.out ?_)
   refine bodyPost_ret (results_word rfl _ _ w.heap.size _ _ rfl rfl HRX.out ?_) rfl ?_
   next => rfl
   next => first | exact ⟨rfl, below_setRow HBX.out (Nat.le_refl _) _⟩ | exact ⟨by rw [HE.out]; rfl, below_setRow HBX.out (Nat.le_refl _) _⟩
  ·obtain ⟨hU, hNW⟩ := HM.out.2 (by omega)
   have HE2 : Hid (nmR L = some ⟨2, n + (1 + m), L.take n, lvl (V.take m), []⟩) := by rw [HE.out, hNW, Nat.add_assoc]; rfl
   have hm1 : (0 : Int) < m := by omega
   rw [hU] at hsl2
   have hnb : ((tx V).toList == (tx (58 :: V)).toList) = false := by
    rw [ba_toList, ba_toList, tx_list, tx_list]
    exact beq_eq_false_iff_ne.2 fun h => by have := congrArg List.length h; simp at this
   have hsl3 : ∀ wx, (Instr.slice 9 (.string (tx V)) none (some (.int .i64 m)) none).run Tryd.prog wx = .ok (.string (tx (V.take m))) wx := to_run 9 Tryd.underlying9 V m m rfl hmV
   have HE := HE2
   have HMM : Hid (n + 1 + m ≤ 1000000) := by have h1 := HLS.out; have h2 := congrArg List.length hU; rw [tx_size] at h1; rw [List.length_drop, List.length_cons] at h2; unfold Hid; omega
   clear HE2 HM hU hNW hmV hVl
   go_wp2_with fail
   refine (level_any (V.take m) (by rw [HMT.out]; exact HMA.out) (by rw [List.length_take]; have := HMB.out; omega) x).mono ?_
   rintro e x ⟨rfl, hb⟩
   replace HW := Lib.hid (HW.out.below hb)
   replace HR := Lib.hid (HR.out.below hb)
   replace HRD := Lib.hid (Rdr.below HRD.out hb)
   replace HB := Lib.hid (HB.out.trans (hb.mono HB.out.size))
   clear hb
   have hM1 : (m : Int) ≤ 1000000 := by have := HMM.out; omega
   have hM2 : (n : Int) + (1 + m) ≤ 1000000 := by have := HMM.out; omega
   have hM3 : (0 : Int) ≤ n + (1 + m) := by omega
   generalize hlv : lvl (V.take m) = lv at *
   clear hlv
   obtain ⟨_, _, _, _, w4, _⟩ := HW.out.c9
   obtain ⟨_, _, _, _, f4, _⟩ := HW.out.f9
   have HWS := Lib.hid (show hrow (x.setCell ⟨g6, 4, none⟩ (.int .i64 lv)) g6 #[.int .i64 2, .int .i64 0, .int .i64 0, .string (tx (L.take n)), .int .i64 lv, .int .u64 0, .int .u64 0, .int .u64 0, .int .u64 0] 33 from HW.out.setCell 4 _)
   replace HR := Lib.hid (HR.out.fr (Fr.setCell x ⟨g6, 4, none⟩ (.int .i64 lv)) (by have := HG6.out; simp; omega))
   replace HRD := Lib.hid (HRD.out.fr (Fr.setCell x ⟨g6, 4, none⟩ (.int .i64 lv)) (by have := HG7.out; simp; omega))
   replace HB := Lib.hid (HB.out.setCell (B := w.heap.size) (p := ⟨g6, 4, none⟩) (by have := HG6.out; show w.heap.size ≤ g6; omega) (.int .i64 lv))
   go_wp2_with (with_reducible refine load_word rfl (.tmp 6) rfl _ rfl _ _ _ _ _ _ _ _ _ HWS.out ?_)
   refine (word_any 2 0 0 lv 0 0 0 0 (n + (1 + m)) (tx (L.take n)) s k g _ HRD.out (by have := HS.out; have := HK.out; omega) (by omega) (by omega)).mono ?_
   rintro e wx ⟨rfl, hb⟩
   have HRX := Lib.hid (HR.out.below hb)
   have HBX := Lib.hid (HB.out.trans (hb.mono HB.out.size))
   clear hb HR HRD HB HW HWS w4 f4
   go_wp2_with (with_reducible refine store_word rfl (.tmp 2) (.tmp 51) rfl w.heap.size _ _ _ _ _ _ _ _ _ rfl rfl HRX.out ?_)
   refine bodyPost_ret (results_word rfl _ _ w.heap.size _ _ rfl rfl HRX.out ?_) rfl ?_
   next => rfl
   next => first | exact ⟨rfl, below_setRow HBX.out (Nat.le_refl _) _⟩ | exact ⟨by rw [HE.out]; rfl, below_setRow HBX.out (Nat.le_refl _) _⟩
end Go.Proofs.YtnfkcdnkmcifbaaDoor
