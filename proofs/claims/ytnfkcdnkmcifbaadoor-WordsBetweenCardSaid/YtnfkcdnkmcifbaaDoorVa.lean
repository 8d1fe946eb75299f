/- Walks: words: the word that comes next. -/
import Derived.Test.YtnfkcdnkmcifbaaDoorV9
namespace Go.Proofs.YtnfkcdnkmcifbaaDoor
open Go.RowKit
set_option maxRecDepth 100000
set_option maxHeartbeats 1000000

theorem nm_letter {c : UInt8} {t : List UInt8} (h : isLt c = true) : nmR (c :: t) = some (nameW (c :: t)) := by
 unfold nmR; rw [List.takeWhile_cons, if_pos h, if_neg (by simp)]
theorem nm_other {c : UInt8} {t : List UInt8} (h : isLt c = false) : nmR (c :: t) = none := by
 unfold nmR; rw [List.takeWhile_cons, h]; rfl
theorem word_alt (l : List UInt8) : wordR l = (endR l).or ((nmR l).or ((txR l).or ((stR l).or ((arrR l).or (sgnR l))))) := by
 match l with
 | [] => rfl
 | c :: t =>
  unfold wordR
  simp only []
  have he : endR (c :: t) = none := rfl
  rw [he, Option.none_or]
  by_cases h1 : isLt c = true
  ·rw [if_pos h1, nm_letter h1]; rfl
  rw [if_neg h1, nm_other (by simpa using h1), Option.none_or]
  by_cases h2 : c = 34
  ·subst h2
   have e1 : stR (34 :: t) = none := rfl
   have e2 : arrR (34 :: t) = none := by cases t <;> rfl
   have e3 : sgnR (34 :: t) = none := rfl
   rw [if_pos (by decide), e1, e2, e3]
   unfold txR qdS
   simp only []
   rw [if_pos (by decide)]
   simp
  have e2 : txR (c :: t) = none := by unfold txR; simp only []; rw [if_neg (by simpa using h2)]
  rw [if_neg (by simpa using h2), e2, Option.none_or]
  by_cases h3 : c = 91
  ·subst h3
   have e4 : arrR (91 :: t) = none := by cases t <;> rfl
   have e5 : sgnR (91 :: t) = none := rfl
   rw [if_pos (by decide), e4, e5]
   unfold stR cdS
   simp only []
   rw [if_pos (by decide)]
   simp
  have e3 : stR (c :: t) = none := by unfold stR; simp only []; rw [if_neg (by simpa using h3)]
  rw [if_neg (by simpa using h3), e3, Option.none_or]
  have ea : arrR (c :: t) = if c == 60 && t.head? == some 45 then some ⟨5, 2, [60, 45], 0, []⟩ else none := by
   cases t with
   | nil => simp [arrR]
   | cons d u => simp [arrR]
  rw [ea]
  by_cases h4 : (c == 60 && t.head? == some 45) = true
  ·rw [if_pos h4, if_pos h4]; rfl
  rw [if_neg h4, if_neg h4, Option.none_or]
  rfl
theorem ix6_0 (x0 x1 x2 x3 x4 x5 : Value) (w : World) : (Instr.index 52 (.agg #[x0, x1, x2, x3, x4, x5]) (.int .i64 0)).run Tryd.prog w = .ok x0 w := by kernel_rfl
theorem ix6_1 (x0 x1 x2 x3 x4 x5 : Value) (w : World) : (Instr.index 52 (.agg #[x0, x1, x2, x3, x4, x5]) (.int .i64 1)).run Tryd.prog w = .ok x1 w := by kernel_rfl
theorem ix6_2 (x0 x1 x2 x3 x4 x5 : Value) (w : World) : (Instr.index 52 (.agg #[x0, x1, x2, x3, x4, x5]) (.int .i64 2)).run Tryd.prog w = .ok x2 w := by kernel_rfl
theorem ix6_3 (x0 x1 x2 x3 x4 x5 : Value) (w : World) : (Instr.index 52 (.agg #[x0, x1, x2, x3, x4, x5]) (.int .i64 3)).run Tryd.prog w = .ok x3 w := by kernel_rfl
theorem ix6_4 (x0 x1 x2 x3 x4 x5 : Value) (w : World) : (Instr.index 52 (.agg #[x0, x1, x2, x3, x4, x5]) (.int .i64 4)).run Tryd.prog w = .ok x4 w := by kernel_rfl
theorem ix6_5 (x0 x1 x2 x3 x4 x5 : Value) (w : World) : (Instr.index 52 (.agg #[x0, x1, x2, x3, x4, x5]) (.int .i64 5)).run Tryd.prog w = .ok x5 w := by kernel_rfl
/-- The readers, by number. -/
def rdN (l : List UInt8) : Nat → Option Wr
 | 0 => endR l | 1 => nmR l | 2 => txR l | 3 => stR l | 4 => arrR l | _ => sgnR l
/-- How far the loop over the readers has come. -/
structure NxI (s : ByteArray) (K g : Nat) (w : World) (j : Nat) (wr : World) : Prop where
 no : ∀ m, m < j → rdN (s.data.toList.drop K) m = none
 bl : Below w.heap.size w wr
 rd : Rdr wr g s K
 rs : hrow wr w.heap.size wd0 33
theorem NxI.next {s : ByteArray} {K g j : Nat} {w wr x : World} (h : NxI s K g w j wr) (hn : rdN (s.data.toList.drop K) j = none) (hb : Below wr.heap.size wr x) : NxI s K g w (j + 1) x :=
 ⟨fun m hm => by rcases Nat.lt_or_ge m j with h1 | h1
                 ·exact h.no m h1
                 ·obtain rfl : m = j := by omega
                  exact hn, h.bl.trans (hb.mono h.bl.size), h.rd.below hb, h.rs.below hb⟩
/-- A word, and that there is one; or none. -/
def wdD (d : Wd) : Array Value := wdA d.kind d.at_ d.nx (tx d.tx) d.lv (clsW d.cl 0) (clsW d.cl 1) (clsW d.cl 2) (clsW d.cl 3)
def nxV : Option Wd → Value
 | some d => .tuple #[.agg (wdD d), .bool true]
 | none => .tuple #[.agg wd0, .bool false]
theorem rdO_nx (o : Option Wr) (k : Nat) : rdO o k = nxV (o.map fun r => r.at k) := by cases o <;> rfl
theorem next_any (s : ByteArray) (k : Nat) (w : World) (hs : s.size ≤ 1000000) (hk : k ≤ s.size) :
  Calls Tryd.prog 8 #[.string s, .int .i64 k] w fun e w' => e = .returned (nxV (nextW s.data.toList k)) ∧ Below w.heap.size w w' := by
 have hk0 : ¬ (k : Int) < 0 := by omega
 have hk1 : ¬ (s.size : Int) < k := by omega
 have HSk := Lib.hid (fun x => skip_in s k x hs hk)
 obtain ⟨K, hK⟩ : ∃ K, K = k + skp false (s.data.toList.drop k) := ⟨_, rfl⟩
 have hKs : K ≤ s.size := by have := skp_le (s.data.toList.drop k) false; rw [List.length_drop, ba_len] at this; omega
 have HNX : Hid (nxV (nextW s.data.toList k) = rdO (wordR (s.data.toList.drop K)) K) := by unfold Hid nextW; rw [rdO_nx, ← hK]
 rw [HNX.out]
 have HKE : Hid ((k : Int) + skp false (s.data.toList.drop k) = K) := by unfold Hid; omega
 have HS := Lib.hid hs
 have HKS := Lib.hid hKs
 have HWA := Lib.hid (word_alt (s.data.toList.drop K))
 clear hK hs hk hKs
 have i0 := ix6_0
 have i1 := ix6_1
 have i2 := ix6_2
 have i3 := ix6_3
 have i4 := ix6_4
 have i5 := ix6_5
 go_enter Tryd.func8, Tryd.ntmps8
 go_wp2_with fail
 have HB := Lib.hid ((Below.refl w.heap.size w).alloc (Nat.le_refl _) (.cells #[.int .i64 0, .int .i64 0, .int .i64 0, .string ⟨#[]⟩, .int .i64 0, .int .u64 0, .int .u64 0, .int .u64 0, .int .u64 0] 33))
 have HR := Lib.hid (show hrow (w.alloc (.cells #[.int .i64 0, .int .i64 0, .int .i64 0, .string ⟨#[]⟩, .int .i64 0, .int .u64 0, .int .u64 0, .int .u64 0, .int .u64 0] 33)) w.heap.size wd0 33 from hrow.new _ _ _)
 go_wp2_with fail
 refine (HSk.out _).mono ?_
 rintro e x ⟨rfl, hb⟩
 replace HR := Lib.hid (HR.out.below hb)
 replace HB := Lib.hid (HB.out.trans (hb.mono HB.out.size))
 clear hb HSk
 rw [HKE.out]
 go_wp2_with fail
 have HI : Hid (NxI s K x.heap.size w 0 (x.alloc (.cells #[.string s, .int .i64 K] 50))) :=
  ⟨fun m hm => absurd hm (by omega), HB.out.alloc HB.out.size _, hrow.new _ _ _, HR.out.below ((Below.refl _ _).alloc (Nat.le_refl _) _)⟩
 clear HR HB
 generalize x.heap.size = g at *
 go_loopw [40] (fun i wr => ∃ j : Nat, j ≤ 6 ∧ i = .int .i64 j ∧ Hid (NxI s K g w j wr)) (fun i _ => 6 - (intOf i).toNat)
 case atStart => exact ⟨0, by omega, by go_num, HI.out⟩
 case round =>
  clear HI
  obtain ⟨j, hj, rfl, HJ⟩ := hrel
  by_cases h0 : j = 0
  ·subst h0
   have HO := Lib.hid (end_any s K g wr HJ.out.rd HS.out HKS.out)
   clear hj
   cases hq : endR (s.data.toList.drop K) with
   | none =>
    have HQ := Lib.hid hq
    rw [hq] at HO
    unfold rdO wd0 wdA at HO
    clear hq
    go_wp2_with fail
    refine HO.out.mono ?_
    rintro e y ⟨rfl, hb⟩
    have HJ2 : Hid (NxI s K g w 1 (y.alloc (.cells #[.int .i64 0, .int .i64 0, .int .i64 0, .string ⟨#[]⟩, .int .i64 0, .int .u64 0, .int .u64 0, .int .u64 0, .int .u64 0] 33))) := HJ.out.next HQ.out (hb.alloc hb.size _)
    clear hb HJ HO
    go_wp2_with fail
    go_roundw
    case rel => exact ⟨1, by omega, by go_num, HJ2.out⟩
    case measure => simp [intOf]
   | some r =>
    have HE : Hid (wordR (s.data.toList.drop K) = some r) := by unfold Hid; rw [HWA.out, hq, Option.some_or]
    rw [hq] at HO
    unfold rdO wdv wdA at HO
    clear hq
    go_wp2_with fail
    refine HO.out.mono ?_
    rintro e y ⟨rfl, hb⟩
    have HR := Lib.hid (HJ.out.rs.below (hb.alloc hb.size (.cells #[.int .i64 r.kind, .int .i64 K, .int .i64 (K + r.n), .string (tx r.tx), .int .i64 r.lv, .int .u64 (clsW r.cl 0), .int .u64 (clsW r.cl 1), .int .u64 (clsW r.cl 2), .int .u64 (clsW r.cl 3)] 33)))
    have HB := Lib.hid (HJ.out.bl.trans ((hb.alloc hb.size (.cells #[.int .i64 r.kind, .int .i64 K, .int .i64 (K + r.n), .string (tx r.tx), .int .i64 r.lv, .int .u64 (clsW r.cl 0), .int .u64 (clsW r.cl 1), .int .u64 (clsW r.cl 2), .int .u64 (clsW r.cl 3)] 33)).mono HJ.out.bl.size))
    have HW := Lib.hid (hrow.new y #[.int .i64 r.kind, .int .i64 K, .int .i64 (K + r.n), .string (tx r.tx), .int .i64 r.lv, .int .u64 (clsW r.cl 0), .int .u64 (clsW r.cl 1), .int .u64 (clsW r.cl 2), .int .u64 (clsW r.cl 3)] 33)
    clear hb HJ HO
    go_wp2_with (first
     | (with_reducible refine load_word rfl (.tmp 9) rfl _ rfl _ _ _ _ _ _ _ _ _ HW.out ?_)
     | (with_reducible refine store_word rfl (.tmp 4) (.tmp 49) rfl w.heap.size _ _ _ _ _ _ _ _ _ rfl rfl HR.out ?_))
    refine bodyPost_ret (results_word rfl _ _ w.heap.size _ _ rfl rfl HR.out ?_) rfl ?_
    next => rfl
    next => first | exact ⟨rfl, below_setRow HB.out (Nat.le_refl _) _⟩ | exact ⟨by rw [HE.out]; rfl, below_setRow HB.out (Nat.le_refl _) _⟩
  by_cases h1 : j = 1
  ·subst h1
   have HO := Lib.hid (name_any s K g wr HJ.out.rd HS.out HKS.out)
   clear hj
   cases hq : nmR (s.data.toList.drop K) with
   | none =>
    have HQ := Lib.hid hq
    rw [hq] at HO
    unfold rdO wd0 wdA at HO
    clear hq
    go_wp2_with fail
    refine HO.out.mono ?_
    rintro e y ⟨rfl, hb⟩
    have HJ2 : Hid (NxI s K g w 2 (y.alloc (.cells #[.int .i64 0, .int .i64 0, .int .i64 0, .string ⟨#[]⟩, .int .i64 0, .int .u64 0, .int .u64 0, .int .u64 0, .int .u64 0] 33))) := HJ.out.next HQ.out (hb.alloc hb.size _)
    clear hb HJ HO
    go_wp2_with fail
    go_roundw
    case rel => exact ⟨2, by omega, by go_num, HJ2.out⟩
    case measure => simp [intOf]
   | some r =>
    have HE : Hid (wordR (s.data.toList.drop K) = some r) := by unfold Hid; rw [HWA.out, show endR _ = none from HJ.out.no 0 (by omega), Option.none_or, hq, Option.some_or]
    rw [hq] at HO
    unfold rdO wdv wdA at HO
    clear hq
    go_wp2_with fail
    refine HO.out.mono ?_
    rintro e y ⟨rfl, hb⟩
    have HR := Lib.hid (HJ.out.rs.below (hb.alloc hb.size (.cells #[.int .i64 r.kind, .int .i64 K, .int .i64 (K + r.n), .string (tx r.tx), .int .i64 r.lv, .int .u64 (clsW r.cl 0), .int .u64 (clsW r.cl 1), .int .u64 (clsW r.cl 2), .int .u64 (clsW r.cl 3)] 33)))
    have HB := Lib.hid (HJ.out.bl.trans ((hb.alloc hb.size (.cells #[.int .i64 r.kind, .int .i64 K, .int .i64 (K + r.n), .string (tx r.tx), .int .i64 r.lv, .int .u64 (clsW r.cl 0), .int .u64 (clsW r.cl 1), .int .u64 (clsW r.cl 2), .int .u64 (clsW r.cl 3)] 33)).mono HJ.out.bl.size))
    have HW := Lib.hid (hrow.new y #[.int .i64 r.kind, .int .i64 K, .int .i64 (K + r.n), .string (tx r.tx), .int .i64 r.lv, .int .u64 (clsW r.cl 0), .int .u64 (clsW r.cl 1), .int .u64 (clsW r.cl 2), .int .u64 (clsW r.cl 3)] 33)
    clear hb HJ HO
    go_wp2_with (first
     | (with_reducible refine load_word rfl (.tmp 9) rfl _ rfl _ _ _ _ _ _ _ _ _ HW.out ?_)
     | (with_reducible refine store_word rfl (.tmp 4) (.tmp 49) rfl w.heap.size _ _ _ _ _ _ _ _ _ rfl rfl HR.out ?_))
    refine bodyPost_ret (results_word rfl _ _ w.heap.size _ _ rfl rfl HR.out ?_) rfl ?_
    next => rfl
    next => first | exact ⟨rfl, below_setRow HB.out (Nat.le_refl _) _⟩ | exact ⟨by rw [HE.out]; rfl, below_setRow HB.out (Nat.le_refl _) _⟩
  by_cases h2 : j = 2
  ·subst h2
   have HO := Lib.hid (text_any s K g wr HJ.out.rd HS.out HKS.out)
   clear hj
   cases hq : txR (s.data.toList.drop K) with
   | none =>
    have HQ := Lib.hid hq
    rw [hq] at HO
    unfold rdO wd0 wdA at HO
    clear hq
    go_wp2_with fail
    refine HO.out.mono ?_
    rintro e y ⟨rfl, hb⟩
    have HJ2 : Hid (NxI s K g w 3 (y.alloc (.cells #[.int .i64 0, .int .i64 0, .int .i64 0, .string ⟨#[]⟩, .int .i64 0, .int .u64 0, .int .u64 0, .int .u64 0, .int .u64 0] 33))) := HJ.out.next HQ.out (hb.alloc hb.size _)
    clear hb HJ HO
    go_wp2_with fail
    go_roundw
    case rel => exact ⟨3, by omega, by go_num, HJ2.out⟩
    case measure => simp [intOf]
   | some r =>
    have HE : Hid (wordR (s.data.toList.drop K) = some r) := by unfold Hid; rw [HWA.out, show endR _ = none from HJ.out.no 0 (by omega), Option.none_or, show nmR _ = none from HJ.out.no 1 (by omega), Option.none_or, hq, Option.some_or]
    rw [hq] at HO
    unfold rdO wdv wdA at HO
    clear hq
    go_wp2_with fail
    refine HO.out.mono ?_
    rintro e y ⟨rfl, hb⟩
    have HR := Lib.hid (HJ.out.rs.below (hb.alloc hb.size (.cells #[.int .i64 r.kind, .int .i64 K, .int .i64 (K + r.n), .string (tx r.tx), .int .i64 r.lv, .int .u64 (clsW r.cl 0), .int .u64 (clsW r.cl 1), .int .u64 (clsW r.cl 2), .int .u64 (clsW r.cl 3)] 33)))
    have HB := Lib.hid (HJ.out.bl.trans ((hb.alloc hb.size (.cells #[.int .i64 r.kind, .int .i64 K, .int .i64 (K + r.n), .string (tx r.tx), .int .i64 r.lv, .int .u64 (clsW r.cl 0), .int .u64 (clsW r.cl 1), .int .u64 (clsW r.cl 2), .int .u64 (clsW r.cl 3)] 33)).mono HJ.out.bl.size))
    have HW := Lib.hid (hrow.new y #[.int .i64 r.kind, .int .i64 K, .int .i64 (K + r.n), .string (tx r.tx), .int .i64 r.lv, .int .u64 (clsW r.cl 0), .int .u64 (clsW r.cl 1), .int .u64 (clsW r.cl 2), .int .u64 (clsW r.cl 3)] 33)
    clear hb HJ HO
    go_wp2_with (first
     | (with_reducible refine load_word rfl (.tmp 9) rfl _ rfl _ _ _ _ _ _ _ _ _ HW.out ?_)
     | (with_reducible refine store_word rfl (.tmp 4) (.tmp 49) rfl w.heap.size _ _ _ _ _ _ _ _ _ rfl rfl HR.out ?_))
    refine bodyPost_ret (results_word rfl _ _ w.heap.size _ _ rfl rfl HR.out ?_) rfl ?_
    next => rfl
    next => first | exact ⟨rfl, below_setRow HB.out (Nat.le_refl _) _⟩ | exact ⟨by rw [HE.out]; rfl, below_setRow HB.out (Nat.le_refl _) _⟩
  by_cases h3 : j = 3
  ·subst h3
   have HO := Lib.hid (set_any s K g wr HJ.out.rd HS.out HKS.out)
   clear hj
   cases hq : stR (s.data.toList.drop K) with
   | none =>
    have HQ := Lib.hid hq
    rw [hq] at HO
    unfold rdO wd0 wdA at HO
    clear hq
    go_wp2_with fail
    refine HO.out.mono ?_
    rintro e y ⟨rfl, hb⟩
    have HJ2 : Hid (NxI s K g w 4 (y.alloc (.cells #[.int .i64 0, .int .i64 0, .int .i64 0, .string ⟨#[]⟩, .int .i64 0, .int .u64 0, .int .u64 0, .int .u64 0, .int .u64 0] 33))) := HJ.out.next HQ.out (hb.alloc hb.size _)
    clear hb HJ HO
    go_wp2_with fail
    go_roundw
    case rel => exact ⟨4, by omega, by go_num, HJ2.out⟩
    case measure => simp [intOf]
   | some r =>
    have HE : Hid (wordR (s.data.toList.drop K) = some r) := by unfold Hid; rw [HWA.out, show endR _ = none from HJ.out.no 0 (by omega), Option.none_or, show nmR _ = none from HJ.out.no 1 (by omega), Option.none_or, show txR _ = none from HJ.out.no 2 (by omega), Option.none_or, hq, Option.some_or]
    rw [hq] at HO
    unfold rdO wdv wdA at HO
    clear hq
    go_wp2_with fail
    refine HO.out.mono ?_
    rintro e y ⟨rfl, hb⟩
    have HR := Lib.hid (HJ.out.rs.below (hb.alloc hb.size (.cells #[.int .i64 r.kind, .int .i64 K, .int .i64 (K + r.n), .string (tx r.tx), .int .i64 r.lv, .int .u64 (clsW r.cl 0), .int .u64 (clsW r.cl 1), .int .u64 (clsW r.cl 2), .int .u64 (clsW r.cl 3)] 33)))
    have HB := Lib.hid (HJ.out.bl.trans ((hb.alloc hb.size (.cells #[.int .i64 r.kind, .int .i64 K, .int .i64 (K + r.n), .string (tx r.tx), .int .i64 r.lv, .int .u64 (clsW r.cl 0), .int .u64 (clsW r.cl 1), .int .u64 (clsW r.cl 2), .int .u64 (clsW r.cl 3)] 33)).mono HJ.out.bl.size))
    have HW := Lib.hid (hrow.new y #[.int .i64 r.kind, .int .i64 K, .int .i64 (K + r.n), .string (tx r.tx), .int .i64 r.lv, .int .u64 (clsW r.cl 0), .int .u64 (clsW r.cl 1), .int .u64 (clsW r.cl 2), .int .u64 (clsW r.cl 3)] 33)
    clear hb HJ HO
    go_wp2_with (first
     | (with_reducible refine load_word rfl (.tmp 9) rfl _ rfl _ _ _ _ _ _ _ _ _ HW.out ?_)
     | (with_reducible refine store_word rfl (.tmp 4) (.tmp 49) rfl w.heap.size _ _ _ _ _ _ _ _ _ rfl rfl HR.out ?_))
    refine bodyPost_ret (results_word rfl _ _ w.heap.size _ _ rfl rfl HR.out ?_) rfl ?_
    next => rfl
    next => first | exact ⟨rfl, below_setRow HB.out (Nat.le_refl _) _⟩ | exact ⟨by rw [HE.out]; rfl, below_setRow HB.out (Nat.le_refl _) _⟩
  by_cases h4 : j = 4
  ·subst h4
   have HO := Lib.hid (arrow_any s K g wr HJ.out.rd HS.out HKS.out)
   clear hj
   cases hq : arrR (s.data.toList.drop K) with
   | none =>
    have HQ := Lib.hid hq
    rw [hq] at HO
    unfold rdO wd0 wdA at HO
    clear hq
    go_wp2_with fail
    refine HO.out.mono ?_
    rintro e y ⟨rfl, hb⟩
    have HJ2 : Hid (NxI s K g w 5 (y.alloc (.cells #[.int .i64 0, .int .i64 0, .int .i64 0, .string ⟨#[]⟩, .int .i64 0, .int .u64 0, .int .u64 0, .int .u64 0, .int .u64 0] 33))) := HJ.out.next HQ.out (hb.alloc hb.size _)
    clear hb HJ HO
    go_wp2_with fail
    go_roundw
    case rel => exact ⟨5, by omega, by go_num, HJ2.out⟩
    case measure => simp [intOf]
   | some r =>
    have HE : Hid (wordR (s.data.toList.drop K) = some r) := by unfold Hid; rw [HWA.out, show endR _ = none from HJ.out.no 0 (by omega), Option.none_or, show nmR _ = none from HJ.out.no 1 (by omega), Option.none_or, show txR _ = none from HJ.out.no 2 (by omega), Option.none_or, show stR _ = none from HJ.out.no 3 (by omega), Option.none_or, hq, Option.some_or]
    rw [hq] at HO
    unfold rdO wdv wdA at HO
    clear hq
    go_wp2_with fail
    refine HO.out.mono ?_
    rintro e y ⟨rfl, hb⟩
    have HR := Lib.hid (HJ.out.rs.below (hb.alloc hb.size (.cells #[.int .i64 r.kind, .int .i64 K, .int .i64 (K + r.n), .string (tx r.tx), .int .i64 r.lv, .int .u64 (clsW r.cl 0), .int .u64 (clsW r.cl 1), .int .u64 (clsW r.cl 2), .int .u64 (clsW r.cl 3)] 33)))
    have HB := Lib.hid (HJ.out.bl.trans ((hb.alloc hb.size (.cells #[.int .i64 r.kind, .int .i64 K, .int .i64 (K + r.n), .string (tx r.tx), .int .i64 r.lv, .int .u64 (clsW r.cl 0), .int .u64 (clsW r.cl 1), .int .u64 (clsW r.cl 2), .int .u64 (clsW r.cl 3)] 33)).mono HJ.out.bl.size))
    have HW := Lib.hid (hrow.new y #[.int .i64 r.kind, .int .i64 K, .int .i64 (K + r.n), .string (tx r.tx), .int .i64 r.lv, .int .u64 (clsW r.cl 0), .int .u64 (clsW r.cl 1), .int .u64 (clsW r.cl 2), .int .u64 (clsW r.cl 3)] 33)
    clear hb HJ HO
    go_wp2_with (first
     | (with_reducible refine load_word rfl (.tmp 9) rfl _ rfl _ _ _ _ _ _ _ _ _ HW.out ?_)
     | (with_reducible refine store_word rfl (.tmp 4) (.tmp 49) rfl w.heap.size _ _ _ _ _ _ _ _ _ rfl rfl HR.out ?_))
    refine bodyPost_ret (results_word rfl _ _ w.heap.size _ _ rfl rfl HR.out ?_) rfl ?_
    next => rfl
    next => first | exact ⟨rfl, below_setRow HB.out (Nat.le_refl _) _⟩ | exact ⟨by rw [HE.out]; rfl, below_setRow HB.out (Nat.le_refl _) _⟩
  by_cases h5 : j = 5
  ·subst h5
   have hlt : K < s.size := by
    rcases Nat.lt_or_ge K s.size with h | h
    ·exact h
    ·have := HJ.out.no 0 (by omega)
     rw [List.drop_eq_nil_of_le (by rw [ba_len]; exact h)] at this; cases this
   have HO := Lib.hid (sign_any s K g wr HJ.out.rd HS.out hlt)
   clear hlt
   clear hj
   cases hq : sgnR (s.data.toList.drop K) with
   | none =>
    have HQ := Lib.hid hq
    rw [hq] at HO
    unfold rdO wd0 wdA at HO
    clear hq
    go_wp2_with fail
    refine HO.out.mono ?_
    rintro e y ⟨rfl, hb⟩
    have HJ2 : Hid (NxI s K g w 6 (y.alloc (.cells #[.int .i64 0, .int .i64 0, .int .i64 0, .string ⟨#[]⟩, .int .i64 0, .int .u64 0, .int .u64 0, .int .u64 0, .int .u64 0] 33))) := HJ.out.next HQ.out (hb.alloc hb.size _)
    clear hb HJ HO
    go_wp2_with fail
    go_roundw
    case rel => exact ⟨6, by omega, by go_num, HJ2.out⟩
    case measure => simp [intOf]
   | some r =>
    have HE : Hid (wordR (s.data.toList.drop K) = some r) := by unfold Hid; rw [HWA.out, show endR _ = none from HJ.out.no 0 (by omega), Option.none_or, show nmR _ = none from HJ.out.no 1 (by omega), Option.none_or, show txR _ = none from HJ.out.no 2 (by omega), Option.none_or, show stR _ = none from HJ.out.no 3 (by omega), Option.none_or, show arrR _ = none from HJ.out.no 4 (by omega), Option.none_or, hq]
    rw [hq] at HO
    unfold rdO wdv wdA at HO
    clear hq
    go_wp2_with fail
    refine HO.out.mono ?_
    rintro e y ⟨rfl, hb⟩
    have HR := Lib.hid (HJ.out.rs.below (hb.alloc hb.size (.cells #[.int .i64 r.kind, .int .i64 K, .int .i64 (K + r.n), .string (tx r.tx), .int .i64 r.lv, .int .u64 (clsW r.cl 0), .int .u64 (clsW r.cl 1), .int .u64 (clsW r.cl 2), .int .u64 (clsW r.cl 3)] 33)))
    have HB := Lib.hid (HJ.out.bl.trans ((hb.alloc hb.size (.cells #[.int .i64 r.kind, .int .i64 K, .int .i64 (K + r.n), .string (tx r.tx), .int .i64 r.lv, .int .u64 (clsW r.cl 0), .int .u64 (clsW r.cl 1), .int .u64 (clsW r.cl 2), .int .u64 (clsW r.cl 3)] 33)).mono HJ.out.bl.size))
    have HW := Lib.hid (hrow.new y #[.int .i64 r.kind, .int .i64 K, .int .i64 (K + r.n), .string (tx r.tx), .int .i64 r.lv, .int .u64 (clsW r.cl 0), .int .u64 (clsW r.cl 1), .int .u64 (clsW r.cl 2), .int .u64 (clsW r.cl 3)] 33)
    clear hb HJ HO
    go_wp2_with (first
     | (with_reducible refine load_word rfl (.tmp 9) rfl _ rfl _ _ _ _ _ _ _ _ _ HW.out ?_)
     | (with_reducible refine store_word rfl (.tmp 4) (.tmp 49) rfl w.heap.size _ _ _ _ _ _ _ _ _ rfl rfl HR.out ?_))
    refine bodyPost_ret (results_word rfl _ _ w.heap.size _ _ rfl rfl HR.out ?_) rfl ?_
    next => rfl
    next => first | exact ⟨rfl, below_setRow HB.out (Nat.le_refl _) _⟩ | exact ⟨by rw [HE.out]; rfl, below_setRow HB.out (Nat.le_refl _) _⟩
  ·obtain rfl : j = 6 := by omega
   have HE : Hid (wordR (s.data.toList.drop K) = none) := by unfold Hid; rw [HWA.out, show endR _ = none from HJ.out.no 0 (by omega), Option.none_or, show nmR _ = none from HJ.out.no 1 (by omega), Option.none_or, show txR _ = none from HJ.out.no 2 (by omega), Option.none_or, show stR _ = none from HJ.out.no 3 (by omega), Option.none_or, show arrR _ = none from HJ.out.no 4 (by omega), Option.none_or, show sgnR _ = none from HJ.out.no 5 (by omega)]
   have HR := Lib.hid HJ.out.rs
   have HB := Lib.hid HJ.out.bl
   clear hj HJ
   go_wp2_with (with_reducible refine store_word rfl (.tmp 4) (.tmp 51) rfl w.heap.size _ _ _ _ _ _ _ _ _ rfl rfl HR.out ?_)
   refine bodyPost_ret (results_word rfl _ _ w.heap.size _ _ rfl rfl HR.out ?_) rfl ?_
   next => rfl
   next => first | exact ⟨rfl, below_setRow HB.out (Nat.le_refl _) _⟩ | exact ⟨by rw [HE.out]; rfl, below_setRow HB.out (Nat.le_refl _) _⟩
end Go.Proofs.YtnfkcdnkmcifbaaDoor
