/- Walks and plain laws: Va S6 Wf Vb. -/
import Derived.Test.YtnfkcdnkmcifbaaGreatDoorM11
import Derived.Test.YtnfkcdnkmcifbaaGreatDoorM12
import Derived.BigRegion
import Derived.Test.YtnfkcdnkmcifbaaGreatDoorM10
import Derived.RangeFuncNested
import Derived.RangeFuncBound
import Derived.RangeFuncCalls
import Derived.RangeFuncLeaves
import Derived.Shelf.Abstract
import Derived.Shelf.RegionOpen
import Derived.WalkKit
import Derived.OwnWalkIn
import Derived.TacticsInMore
import Derived.LoopNIn
import Derived.LoopIn
namespace Go.Proofs.YtnfkcdnkmcifbaaGreatDoor
open Go.RowKit
set_option maxRecDepth 100000
set_option maxHeartbeats 1000000

theorem nm_letter {c : UInt8} {t : List UInt8} (h : isLt c = true) : nmR (c :: t) = some (nameW (c :: t)) := by
 unfold nmR; rw [List.takeWhile_cons, if_pos h, if_neg (by simp)]
theorem nm_other {c : UInt8} {t : List UInt8} (h : isLt c = false) : nmR (c :: t) = none := by
 unfold nmR; rw [List.takeWhile_cons, h]; rfl
theorem word_alt (l : List UInt8) : wordR l = (endR l).or ((nmR l).or ((txR l).or ((stR l).or ((arrR l).or (sgnR l))))) := by
 match l with
 | [] => rfl
 | c :: t =>
  unfold wordR
  simp only []
  have he : endR (c :: t) = none := rfl
  rw [he, Option.none_or]
  by_cases h1 : isLt c = true
  ·rw [if_pos h1, nm_letter h1]; rfl
  rw [if_neg h1, nm_other (by simpa using h1), Option.none_or]
  by_cases h2 : c = 34
  ·subst h2
   have e1 : stR (34 :: t) = none := rfl
   have e2 : arrR (34 :: t) = none := by cases t <;> rfl
   have e3 : sgnR (34 :: t) = none := rfl
   rw [if_pos (by decide), e1, e2, e3]
   unfold txR qdS
   simp only []
   rw [if_pos (by decide)]
   simp
  have e2 : txR (c :: t) = none := by unfold txR; simp only []; rw [if_neg (by simpa using h2)]
  rw [if_neg (by simpa using h2), e2, Option.none_or]
  by_cases h3 : c = 91
  ·subst h3
   have e4 : arrR (91 :: t) = none := by cases t <;> rfl
   have e5 : sgnR (91 :: t) = none := rfl
   rw [if_pos (by decide), e4, e5]
   unfold stR cdS
   simp only []
   rw [if_pos (by decide)]
   simp
  have e3 : stR (c :: t) = none := by unfold stR; simp only []; rw [if_neg (by simpa using h3)]
  rw [if_neg (by simpa using h3), e3, Option.none_or]
  have ea : arrR (c :: t) = if c == 60 && t.head? == some 45 then some ⟨5, 2, [60, 45], 0, []⟩ else none := by
   cases t with
   | nil => simp [arrR]
   | cons d u => simp [arrR]
  rw [ea]
  by_cases h4 : (c == 60 && t.head? == some 45) = true
  ·rw [if_pos h4, if_pos h4]; rfl
  rw [if_neg h4, if_neg h4, Option.none_or]
  rfl
theorem ix6_0 (x0 x1 x2 x3 x4 x5 : Value) (w : World) : (Instr.index 57 (.agg #[x0, x1, x2, x3, x4, x5]) (.int .i64 0)).run Tryz.prog w = .ok x0 w := by kernel_rfl
theorem ix6_1 (x0 x1 x2 x3 x4 x5 : Value) (w : World) : (Instr.index 57 (.agg #[x0, x1, x2, x3, x4, x5]) (.int .i64 1)).run Tryz.prog w = .ok x1 w := by kernel_rfl
theorem ix6_2 (x0 x1 x2 x3 x4 x5 : Value) (w : World) : (Instr.index 57 (.agg #[x0, x1, x2, x3, x4, x5]) (.int .i64 2)).run Tryz.prog w = .ok x2 w := by kernel_rfl
theorem ix6_3 (x0 x1 x2 x3 x4 x5 : Value) (w : World) : (Instr.index 57 (.agg #[x0, x1, x2, x3, x4, x5]) (.int .i64 3)).run Tryz.prog w = .ok x3 w := by kernel_rfl
theorem ix6_4 (x0 x1 x2 x3 x4 x5 : Value) (w : World) : (Instr.index 57 (.agg #[x0, x1, x2, x3, x4, x5]) (.int .i64 4)).run Tryz.prog w = .ok x4 w := by kernel_rfl
theorem ix6_5 (x0 x1 x2 x3 x4 x5 : Value) (w : World) : (Instr.index 57 (.agg #[x0, x1, x2, x3, x4, x5]) (.int .i64 5)).run Tryz.prog w = .ok x5 w := by kernel_rfl
/-- The readers, by number. -/
def rdN (l : List UInt8) : Nat → Option Wr
 | 0 => endR l | 1 => nmR l | 2 => txR l | 3 => stR l | 4 => arrR l | _ => sgnR l
/-- How far the loop over the readers has come. -/
structure NxI (s : ByteArray) (K g : Nat) (w : World) (j : Nat) (wr : World) : Prop where
 no : ∀ m, m < j → rdN (s.data.toList.drop K) m = none
 bl : Below w.heap.size w wr
 rd : Rdr wr g s K
 rs : hrow wr w.heap.size wd0 36
theorem NxI.next {s : ByteArray} {K g j : Nat} {w wr x : World} (h : NxI s K g w j wr) (hn : rdN (s.data.toList.drop K) j = none) (hb : Below wr.heap.size wr x) : NxI s K g w (j + 1) x :=
 ⟨fun m hm => by rcases Nat.lt_or_ge m j with h1 | h1
                 ·exact h.no m h1
                 ·obtain rfl : m = j := by omega
                  exact hn, h.bl.trans (hb.mono h.bl.size), h.rd.below hb, h.rs.below hb⟩
/-- A word, and that there is one; or none. -/
def wdD (d : Wd) : Array Value := wdA d.kind d.at_ d.nx (tx d.tx) d.lv (clsW d.cl 0) (clsW d.cl 1) (clsW d.cl 2) (clsW d.cl 3)
def nxV : Option Wd → Value
 | some d => .tuple #[.agg (wdD d), .bool true]
 | none => .tuple #[.agg wd0, .bool false]
theorem rdO_nx (o : Option Wr) (k : Nat) : rdO o k = nxV (o.map fun r => r.at k) := by cases o <;> rfl
theorem next_any (s : ByteArray) (k : Nat) (w : World) (hs : s.size ≤ 1000000) (hk : k ≤ s.size) :
  Calls Tryz.prog 9 #[.string s, .int .i64 k] w fun e w' => e = .returned (nxV (nextW s.data.toList k)) ∧ Below w.heap.size w w' := by
 have hk0 : ¬ (k : Int) < 0 := by omega
 have hk1 : ¬ (s.size : Int) < k := by omega
 have HSk := Lib.hid (fun x => skip_in s k x hs hk)
 obtain ⟨K, hK⟩ : ∃ K, K = k + skp false (s.data.toList.drop k) := ⟨_, rfl⟩
 have hKs : K ≤ s.size := by have := skp_le (s.data.toList.drop k) false; rw [List.length_drop, ba_len] at this; omega
 have HNX : Hid (nxV (nextW s.data.toList k) = rdO (wordR (s.data.toList.drop K)) K) := by unfold Hid nextW; rw [rdO_nx, ← hK]
 rw [HNX.out]
 have HKE : Hid ((k : Int) + skp false (s.data.toList.drop k) = K) := by unfold Hid; omega
 have HS := Lib.hid hs
 have HKS := Lib.hid hKs
 have HWA := Lib.hid (word_alt (s.data.toList.drop K))
 clear hK hs hk hKs
 have i0 := ix6_0
 have i1 := ix6_1
 have i2 := ix6_2
 have i3 := ix6_3
 have i4 := ix6_4
 have i5 := ix6_5
 go_enter Tryz.func9, Tryz.ntmps9
 go_wp2_with fail
 have HB := Lib.hid ((Below.refl w.heap.size w).alloc (Nat.le_refl _) (.cells #[.int .i64 0, .int .i64 0, .int .i64 0, .string ⟨#[]⟩, .int .i64 0, .int .u64 0, .int .u64 0, .int .u64 0, .int .u64 0] 36))
 have HR := Lib.hid (show hrow (w.alloc (.cells #[.int .i64 0, .int .i64 0, .int .i64 0, .string ⟨#[]⟩, .int .i64 0, .int .u64 0, .int .u64 0, .int .u64 0, .int .u64 0] 36)) w.heap.size wd0 36 from hrow.new _ _ _)
 go_wp2_with fail
 refine (HSk.out _).mono ?_
 rintro e x ⟨rfl, hb⟩
 replace HR := Lib.hid (HR.out.below hb)
 replace HB := Lib.hid (HB.out.trans (hb.mono HB.out.size))
 clear hb HSk
 rw [HKE.out]
 go_wp2_with fail
 have HI : Hid (NxI s K x.heap.size w 0 (x.alloc (.cells #[.string s, .int .i64 K] 55))) :=
  ⟨fun m hm => absurd hm (by omega), HB.out.alloc HB.out.size _, hrow.new _ _ _, HR.out.below ((Below.refl _ _).alloc (Nat.le_refl _) _)⟩
 clear HR HB
 generalize x.heap.size = g at *
 go_loopw [40] (fun i wr => ∃ j : Nat, j ≤ 6 ∧ i = .int .i64 j ∧ Hid (NxI s K g w j wr)) (fun i _ => 6 - (intOf i).toNat)
 case atStart => exact ⟨0, by omega, by go_num, HI.out⟩
 case round =>
  clear HI
  obtain ⟨j, hj, rfl, HJ⟩ := hrel
  by_cases h0 : j = 0
  ·subst h0
   have HO := Lib.hid (end_any s K g wr HJ.out.rd HS.out HKS.out)
   clear hj
   cases hq : endR (s.data.toList.drop K) with
   | none =>
    have HQ := Lib.hid hq
    rw [hq] at HO
    unfold rdO wd0 wdA at HO
    clear hq
    go_wp2_with fail
    refine HO.out.mono ?_
    rintro e y ⟨rfl, hb⟩
    have HJ2 : Hid (NxI s K g w 1 (y.alloc (.cells #[.int .i64 0, .int .i64 0, .int .i64 0, .string ⟨#[]⟩, .int .i64 0, .int .u64 0, .int .u64 0, .int .u64 0, .int .u64 0] 36))) := HJ.out.next HQ.out (hb.alloc hb.size _)
    clear hb HJ HO
    go_wp2_with fail
    go_roundw
    case rel => exact ⟨1, by omega, by go_num, HJ2.out⟩
    case measure => simp [intOf]
   | some r =>
    have HE : Hid (wordR (s.data.toList.drop K) = some r) := by unfold Hid; rw [HWA.out, hq, Option.some_or]
    rw [hq] at HO
    unfold rdO wdv wdA at HO
    clear hq
    go_wp2_with fail
    refine HO.out.mono ?_
    rintro e y ⟨rfl, hb⟩
    have HR := Lib.hid (HJ.out.rs.below (hb.alloc hb.size (.cells #[.int .i64 r.kind, .int .i64 K, .int .i64 (K + r.n), .string (tx r.tx), .int .i64 r.lv, .int .u64 (clsW r.cl 0), .int .u64 (clsW r.cl 1), .int .u64 (clsW r.cl 2), .int .u64 (clsW r.cl 3)] 36)))
    have HB := Lib.hid (HJ.out.bl.trans ((hb.alloc hb.size (.cells #[.int .i64 r.kind, .int .i64 K, .int .i64 (K + r.n), .string (tx r.tx), .int .i64 r.lv, .int .u64 (clsW r.cl 0), .int .u64 (clsW r.cl 1), .int .u64 (clsW r.cl 2), .int .u64 (clsW r.cl 3)] 36)).mono HJ.out.bl.size))
    have HW := Lib.hid (hrow.new y #[.int .i64 r.kind, .int .i64 K, .int .i64 (K + r.n), .string (tx r.tx), .int .i64 r.lv, .int .u64 (clsW r.cl 0), .int .u64 (clsW r.cl 1), .int .u64 (clsW r.cl 2), .int .u64 (clsW r.cl 3)] 36)
    clear hb HJ HO
    go_wp2_with (first
     | (with_reducible refine load_word rfl (.tmp 9) rfl _ rfl _ _ _ _ _ _ _ _ _ HW.out ?_)
     | (with_reducible refine store_word rfl (.tmp 4) (.tmp 49) rfl w.heap.size _ _ _ _ _ _ _ _ _ rfl rfl HR.out ?_))
    refine bodyPost_ret (results_word rfl _ _ w.heap.size _ _ rfl rfl HR.out ?_) rfl ?_
    next => rfl
    next => first | exact ⟨rfl, below_setRow HB.out (Nat.le_refl _) _⟩ | exact ⟨by rw [HE.out]; rfl, below_setRow HB.out (Nat.le_refl _) _⟩
  by_cases h1 : j = 1
  ·subst h1
   have HO := Lib.hid (name_any s K g wr HJ.out.rd HS.out HKS.out)
   clear hj
   cases hq : nmR (s.data.toList.drop K) with
   | none =>
    have HQ := Lib.hid hq
    rw [hq] at HO
    unfold rdO wd0 wdA at HO
    clear hq
    go_wp2_with fail
    refine HO.out.mono ?_
    rintro e y ⟨rfl, hb⟩
    have HJ2 : Hid (NxI s K g w 2 (y.alloc (.cells #[.int .i64 0, .int .i64 0, .int .i64 0, .string ⟨#[]⟩, .int .i64 0, .int .u64 0, .int .u64 0, .int .u64 0, .int .u64 0] 36))) := HJ.out.next HQ.out (hb.alloc hb.size _)
    clear hb HJ HO
    go_wp2_with fail
    go_roundw
    case rel => exact ⟨2, by omega, by go_num, HJ2.out⟩
    case measure => simp [intOf]
   | some r =>
    have HE : Hid (wordR (s.data.toList.drop K) = some r) := by unfold Hid; rw [HWA.out, show endR _ = none from HJ.out.no 0 (by omega), Option.none_or, hq, Option.some_or]
    rw [hq] at HO
    unfold rdO wdv wdA at HO
    clear hq
    go_wp2_with fail
    refine HO.out.mono ?_
    rintro e y ⟨rfl, hb⟩
    have HR := Lib.hid (HJ.out.rs.below (hb.alloc hb.size (.cells #[.int .i64 r.kind, .int .i64 K, .int .i64 (K + r.n), .string (tx r.tx), .int .i64 r.lv, .int .u64 (clsW r.cl 0), .int .u64 (clsW r.cl 1), .int .u64 (clsW r.cl 2), .int .u64 (clsW r.cl 3)] 36)))
    have HB := Lib.hid (HJ.out.bl.trans ((hb.alloc hb.size (.cells #[.int .i64 r.kind, .int .i64 K, .int .i64 (K + r.n), .string (tx r.tx), .int .i64 r.lv, .int .u64 (clsW r.cl 0), .int .u64 (clsW r.cl 1), .int .u64 (clsW r.cl 2), .int .u64 (clsW r.cl 3)] 36)).mono HJ.out.bl.size))
    have HW := Lib.hid (hrow.new y #[.int .i64 r.kind, .int .i64 K, .int .i64 (K + r.n), .string (tx r.tx), .int .i64 r.lv, .int .u64 (clsW r.cl 0), .int .u64 (clsW r.cl 1), .int .u64 (clsW r.cl 2), .int .u64 (clsW r.cl 3)] 36)
    clear hb HJ HO
    go_wp2_with (first
     | (with_reducible refine load_word rfl (.tmp 9) rfl _ rfl _ _ _ _ _ _ _ _ _ HW.out ?_)
     | (with_reducible refine store_word rfl (.tmp 4) (.tmp 49) rfl w.heap.size _ _ _ _ _ _ _ _ _ rfl rfl HR.out ?_))
    refine bodyPost_ret (results_word rfl _ _ w.heap.size _ _ rfl rfl HR.out ?_) rfl ?_
    next => rfl
    next => first | exact ⟨rfl, below_setRow HB.out (Nat.le_refl _) _⟩ | exact ⟨by rw [HE.out]; rfl, below_setRow HB.out (Nat.le_refl _) _⟩
  by_cases h2 : j = 2
  ·subst h2
   have HO := Lib.hid (text_any s K g wr HJ.out.rd HS.out HKS.out)
   clear hj
   cases hq : txR (s.data.toList.drop K) with
   | none =>
    have HQ := Lib.hid hq
    rw [hq] at HO
    unfold rdO wd0 wdA at HO
    clear hq
    go_wp2_with fail
    refine HO.out.mono ?_
    rintro e y ⟨rfl, hb⟩
    have HJ2 : Hid (NxI s K g w 3 (y.alloc (.cells #[.int .i64 0, .int .i64 0, .int .i64 0, .string ⟨#[]⟩, .int .i64 0, .int .u64 0, .int .u64 0, .int .u64 0, .int .u64 0] 36))) := HJ.out.next HQ.out (hb.alloc hb.size _)
    clear hb HJ HO
    go_wp2_with fail
    go_roundw
    case rel => exact ⟨3, by omega, by go_num, HJ2.out⟩
    case measure => simp [intOf]
   | some r =>
    have HE : Hid (wordR (s.data.toList.drop K) = some r) := by unfold Hid; rw [HWA.out, show endR _ = none from HJ.out.no 0 (by omega), Option.none_or, show nmR _ = none from HJ.out.no 1 (by omega), Option.none_or, hq, Option.some_or]
    rw [hq] at HO
    unfold rdO wdv wdA at HO
    clear hq
    go_wp2_with fail
    refine HO.out.mono ?_
    rintro e y ⟨rfl, hb⟩
    have HR := Lib.hid (HJ.out.rs.below (hb.alloc hb.size (.cells #[.int .i64 r.kind, .int .i64 K, .int .i64 (K + r.n), .string (tx r.tx), .int .i64 r.lv, .int .u64 (clsW r.cl 0), .int .u64 (clsW r.cl 1), .int .u64 (clsW r.cl 2), .int .u64 (clsW r.cl 3)] 36)))
    have HB := Lib.hid (HJ.out.bl.trans ((hb.alloc hb.size (.cells #[.int .i64 r.kind, .int .i64 K, .int .i64 (K + r.n), .string (tx r.tx), .int .i64 r.lv, .int .u64 (clsW r.cl 0), .int .u64 (clsW r.cl 1), .int .u64 (clsW r.cl 2), .int .u64 (clsW r.cl 3)] 36)).mono HJ.out.bl.size))
    have HW := Lib.hid (hrow.new y #[.int .i64 r.kind, .int .i64 K, .int .i64 (K + r.n), .string (tx r.tx), .int .i64 r.lv, .int .u64 (clsW r.cl 0), .int .u64 (clsW r.cl 1), .int .u64 (clsW r.cl 2), .int .u64 (clsW r.cl 3)] 36)
    clear hb HJ HO
    go_wp2_with (first
     | (with_reducible refine load_word rfl (.tmp 9) rfl _ rfl _ _ _ _ _ _ _ _ _ HW.out ?_)
     | (with_reducible refine store_word rfl (.tmp 4) (.tmp 49) rfl w.heap.size _ _ _ _ _ _ _ _ _ rfl rfl HR.out ?_))
    refine bodyPost_ret (results_word rfl _ _ w.heap.size _ _ rfl rfl HR.out ?_) rfl ?_
    next => rfl
    next => first | exact ⟨rfl, below_setRow HB.out (Nat.le_refl _) _⟩ | exact ⟨by rw [HE.out]; rfl, below_setRow HB.out (Nat.le_refl _) _⟩
  by_cases h3 : j = 3
  ·subst h3
   have HO := Lib.hid (set_any s K g wr HJ.out.rd HS.out HKS.out)
   clear hj
   cases hq : stR (s.data.toList.drop K) with
   | none =>
    have HQ := Lib.hid hq
    rw [hq] at HO
    unfold rdO wd0 wdA at HO
    clear hq
    go_wp2_with fail
    refine HO.out.mono ?_
    rintro e y ⟨rfl, hb⟩
    have HJ2 : Hid (NxI s K g w 4 (y.alloc (.cells #[.int .i64 0, .int .i64 0, .int .i64 0, .string ⟨#[]⟩, .int .i64 0, .int .u64 0, .int .u64 0, .int .u64 0, .int .u64 0] 36))) := HJ.out.next HQ.out (hb.alloc hb.size _)
    clear hb HJ HO
    go_wp2_with fail
    go_roundw
    case rel => exact ⟨4, by omega, by go_num, HJ2.out⟩
    case measure => simp [intOf]
   | some r =>
    have HE : Hid (wordR (s.data.toList.drop K) = some r) := by unfold Hid; rw [HWA.out, show endR _ = none from HJ.out.no 0 (by omega), Option.none_or, show nmR _ = none from HJ.out.no 1 (by omega), Option.none_or, show txR _ = none from HJ.out.no 2 (by omega), Option.none_or, hq, Option.some_or]
    rw [hq] at HO
    unfold rdO wdv wdA at HO
    clear hq
    go_wp2_with fail
    refine HO.out.mono ?_
    rintro e y ⟨rfl, hb⟩
    have HR := Lib.hid (HJ.out.rs.below (hb.alloc hb.size (.cells #[.int .i64 r.kind, .int .i64 K, .int .i64 (K + r.n), .string (tx r.tx), .int .i64 r.lv, .int .u64 (clsW r.cl 0), .int .u64 (clsW r.cl 1), .int .u64 (clsW r.cl 2), .int .u64 (clsW r.cl 3)] 36)))
    have HB := Lib.hid (HJ.out.bl.trans ((hb.alloc hb.size (.cells #[.int .i64 r.kind, .int .i64 K, .int .i64 (K + r.n), .string (tx r.tx), .int .i64 r.lv, .int .u64 (clsW r.cl 0), .int .u64 (clsW r.cl 1), .int .u64 (clsW r.cl 2), .int .u64 (clsW r.cl 3)] 36)).mono HJ.out.bl.size))
    have HW := Lib.hid (hrow.new y #[.int .i64 r.kind, .int .i64 K, .int .i64 (K + r.n), .string (tx r.tx), .int .i64 r.lv, .int .u64 (clsW r.cl 0), .int .u64 (clsW r.cl 1), .int .u64 (clsW r.cl 2), .int .u64 (clsW r.cl 3)] 36)
    clear hb HJ HO
    go_wp2_with (first
     | (with_reducible refine load_word rfl (.tmp 9) rfl _ rfl _ _ _ _ _ _ _ _ _ HW.out ?_)
     | (with_reducible refine store_word rfl (.tmp 4) (.tmp 49) rfl w.heap.size _ _ _ _ _ _ _ _ _ rfl rfl HR.out ?_))
    refine bodyPost_ret (results_word rfl _ _ w.heap.size _ _ rfl rfl HR.out ?_) rfl ?_
    next => rfl
    next => first | exact ⟨rfl, below_setRow HB.out (Nat.le_refl _) _⟩ | exact ⟨by rw [HE.out]; rfl, below_setRow HB.out (Nat.le_refl _) _⟩
  by_cases h4 : j = 4
  ·subst h4
   have HO := Lib.hid (arrow_any s K g wr HJ.out.rd HS.out HKS.out)
   clear hj
   cases hq : arrR (s.data.toList.drop K) with
   | none =>
    have HQ := Lib.hid hq
    rw [hq] at HO
    unfold rdO wd0 wdA at HO
    clear hq
    go_wp2_with fail
    refine HO.out.mono ?_
    rintro e y ⟨rfl, hb⟩
    have HJ2 : Hid (NxI s K g w 5 (y.alloc (.cells #[.int .i64 0, .int .i64 0, .int .i64 0, .string ⟨#[]⟩, .int .i64 0, .int .u64 0, .int .u64 0, .int .u64 0, .int .u64 0] 36))) := HJ.out.next HQ.out (hb.alloc hb.size _)
    clear hb HJ HO
    go_wp2_with fail
    go_roundw
    case rel => exact ⟨5, by omega, by go_num, HJ2.out⟩
    case measure => simp [intOf]
   | some r =>
    have HE : Hid (wordR (s.data.toList.drop K) = some r) := by unfold Hid; rw [HWA.out, show endR _ = none from HJ.out.no 0 (by omega), Option.none_or, show nmR _ = none from HJ.out.no 1 (by omega), Option.none_or, show txR _ = none from HJ.out.no 2 (by omega), Option.none_or, show stR _ = none from HJ.out.no 3 (by omega), Option.none_or, hq, Option.some_or]
    rw [hq] at HO
    unfold rdO wdv wdA at HO
    clear hq
    go_wp2_with fail
    refine HO.out.mono ?_
    rintro e y ⟨rfl, hb⟩
    have HR := Lib.hid (HJ.out.rs.below (hb.alloc hb.size (.cells #[.int .i64 r.kind, .int .i64 K, .int .i64 (K + r.n), .string (tx r.tx), .int .i64 r.lv, .int .u64 (clsW r.cl 0), .int .u64 (clsW r.cl 1), .int .u64 (clsW r.cl 2), .int .u64 (clsW r.cl 3)] 36)))
    have HB := Lib.hid (HJ.out.bl.trans ((hb.alloc hb.size (.cells #[.int .i64 r.kind, .int .i64 K, .int .i64 (K + r.n), .string (tx r.tx), .int .i64 r.lv, .int .u64 (clsW r.cl 0), .int .u64 (clsW r.cl 1), .int .u64 (clsW r.cl 2), .int .u64 (clsW r.cl 3)] 36)).mono HJ.out.bl.size))
    have HW := Lib.hid (hrow.new y #[.int .i64 r.kind, .int .i64 K, .int .i64 (K + r.n), .string (tx r.tx), .int .i64 r.lv, .int .u64 (clsW r.cl 0), .int .u64 (clsW r.cl 1), .int .u64 (clsW r.cl 2), .int .u64 (clsW r.cl 3)] 36)
    clear hb HJ HO
    go_wp2_with (first
     | (with_reducible refine load_word rfl (.tmp 9) rfl _ rfl _ _ _ _ _ _ _ _ _ HW.out ?_)
     | (with_reducible refine store_word rfl (.tmp 4) (.tmp 49) rfl w.heap.size _ _ _ _ _ _ _ _ _ rfl rfl HR.out ?_))
    refine bodyPost_ret (results_word rfl _ _ w.heap.size _ _ rfl rfl HR.out ?_) rfl ?_
    next => rfl
    next => first | exact ⟨rfl, below_setRow HB.out (Nat.le_refl _) _⟩ | exact ⟨by rw [HE.out]; rfl, below_setRow HB.out (Nat.le_refl _) _⟩
  by_cases h5 : j = 5
  ·subst h5
   have hlt : K < s.size := by
    rcases Nat.lt_or_ge K s.size with h | h
    ·exact h
    ·have := HJ.out.no 0 (by omega)
     rw [List.drop_eq_nil_of_le (by rw [ba_len]; exact h)] at this; cases this
   have HO := Lib.hid (sign_any s K g wr HJ.out.rd HS.out hlt)
   clear hlt
   clear hj
   cases hq : sgnR (s.data.toList.drop K) with
   | none =>
    have HQ := Lib.hid hq
    rw [hq] at HO
    unfold rdO wd0 wdA at HO
    clear hq
    go_wp2_with fail
    refine HO.out.mono ?_
    rintro e y ⟨rfl, hb⟩
    have HJ2 : Hid (NxI s K g w 6 (y.alloc (.cells #[.int .i64 0, .int .i64 0, .int .i64 0, .string ⟨#[]⟩, .int .i64 0, .int .u64 0, .int .u64 0, .int .u64 0, .int .u64 0] 36))) := HJ.out.next HQ.out (hb.alloc hb.size _)
    clear hb HJ HO
    go_wp2_with fail
    go_roundw
    case rel => exact ⟨6, by omega, by go_num, HJ2.out⟩
    case measure => simp [intOf]
   | some r =>
    have HE : Hid (wordR (s.data.toList.drop K) = some r) := by unfold Hid; rw [HWA.out, show endR _ = none from HJ.out.no 0 (by omega), Option.none_or, show nmR _ = none from HJ.out.no 1 (by omega), Option.none_or, show txR _ = none from HJ.out.no 2 (by omega), Option.none_or, show stR _ = none from HJ.out.no 3 (by omega), Option.none_or, show arrR _ = none from HJ.out.no 4 (by omega), Option.none_or, hq]
    rw [hq] at HO
    unfold rdO wdv wdA at HO
    clear hq
    go_wp2_with fail
    refine HO.out.mono ?_
    rintro e y ⟨rfl, hb⟩
    have HR := Lib.hid (HJ.out.rs.below (hb.alloc hb.size (.cells #[.int .i64 r.kind, .int .i64 K, .int .i64 (K + r.n), .string (tx r.tx), .int .i64 r.lv, .int .u64 (clsW r.cl 0), .int .u64 (clsW r.cl 1), .int .u64 (clsW r.cl 2), .int .u64 (clsW r.cl 3)] 36)))
    have HB := Lib.hid (HJ.out.bl.trans ((hb.alloc hb.size (.cells #[.int .i64 r.kind, .int .i64 K, .int .i64 (K + r.n), .string (tx r.tx), .int .i64 r.lv, .int .u64 (clsW r.cl 0), .int .u64 (clsW r.cl 1), .int .u64 (clsW r.cl 2), .int .u64 (clsW r.cl 3)] 36)).mono HJ.out.bl.size))
    have HW := Lib.hid (hrow.new y #[.int .i64 r.kind, .int .i64 K, .int .i64 (K + r.n), .string (tx r.tx), .int .i64 r.lv, .int .u64 (clsW r.cl 0), .int .u64 (clsW r.cl 1), .int .u64 (clsW r.cl 2), .int .u64 (clsW r.cl 3)] 36)
    clear hb HJ HO
    go_wp2_with (first
     | (with_reducible refine load_word rfl (.tmp 9) rfl _ rfl _ _ _ _ _ _ _ _ _ HW.out ?_)
     | (with_reducible refine store_word rfl (.tmp 4) (.tmp 49) rfl w.heap.size _ _ _ _ _ _ _ _ _ rfl rfl HR.out ?_))
    refine bodyPost_ret (results_word rfl _ _ w.heap.size _ _ rfl rfl HR.out ?_) rfl ?_
    next => rfl
    next => first | exact ⟨rfl, below_setRow HB.out (Nat.le_refl _) _⟩ | exact ⟨by rw [HE.out]; rfl, below_setRow HB.out (Nat.le_refl _) _⟩
  ·obtain rfl : j = 6 := by omega
   have HE : Hid (wordR (s.data.toList.drop K) = none) := by unfold Hid; rw [HWA.out, show endR _ = none from HJ.out.no 0 (by omega), Option.none_or, show nmR _ = none from HJ.out.no 1 (by omega), Option.none_or, show txR _ = none from HJ.out.no 2 (by omega), Option.none_or, show stR _ = none from HJ.out.no 3 (by omega), Option.none_or, show arrR _ = none from HJ.out.no 4 (by omega), Option.none_or, show sgnR _ = none from HJ.out.no 5 (by omega)]
   have HR := Lib.hid HJ.out.rs
   have HB := Lib.hid HJ.out.bl
   clear hj HJ
   go_wp2_with (with_reducible refine store_word rfl (.tmp 4) (.tmp 51) rfl w.heap.size _ _ _ _ _ _ _ _ _ rfl rfl HR.out ?_)
   refine bodyPost_ret (results_word rfl _ _ w.heap.size _ _ rfl rfl HR.out ?_) rfl ?_
   next => rfl
   next => first | exact ⟨rfl, below_setRow HB.out (Nat.le_refl _) _⟩ | exact ⟨by rw [HE.out]; rfl, below_setRow HB.out (Nat.le_refl _) _⟩
end Go.Proofs.YtnfkcdnkmcifbaaGreatDoor
namespace Go.Proofs.YtnfkcdnkmcifbaaGreatDoor
open Go.RowKit
set_option maxRecDepth 100000
set_option maxHeartbeats 4000000

/-- The word from whatever place on. -/
def nxA (l : List UInt8) (a : Int) : Option Wd := if a < 0 ∨ (l.length : Int) < a then none else nextW l a.toNat
theorem nxA_in {l : List UInt8} {k : Nat} (h : k ≤ l.length) : nxA l k = nextW l k := by unfold nxA; rw [if_neg (by omega), Int.toNat_natCast]
theorem nxA_out {l : List UInt8} {a : Int} (h : a < 0 ∨ (l.length : Int) < a) : nxA l a = none := if_pos h
theorem results_rword2 {fn : Func} {p q : Tmp} (h : fn.results = #[.cell p 43, .tmp q]) (tmps : Array Value) (w : World) (g : Nat) (cs : Array Value) (b : Value)
    (hp : tmps.getD p undef = .pointer (some ⟨g, 0, none⟩)) (hq : tmps.getD q undef = b) (hg : hrow w g wd0 43) (hs : cs.size = 9) : (results fn tmps).run Tryz.prog (w.setRow g cs) = .ok (.tuple #[.agg cs, b]) (w.setRow g cs) := by
  subst hq
  exact results_row2 h tmps _ g _ cs _ _ hp (setRow_heap _ _ _ _ _ _ hg) Tryz.underlying43 rfl (rw_sz hs)
theorem hrow_drew {w : World} {g : Nat} {cs : Array Value} {t : TypeId} (h : hrow w g cs t) : hrow w.drew g cs t := h
theorem set9_row {W : World} {g : Nat} {t : TypeId} {u0 u1 u2 u3 u4 u5 u6 u7 u8 : Value} (h : hrow W g #[u0, u1, u2, u3, u4, u5, u6, u7, u8] t) (v0 v1 v2 v3 v4 v5 v6 v7 v8 : Value) : hrow (((((((((W.setCell ⟨g, 0, none⟩ v0).setCell ⟨g, 1, none⟩ v1).setCell ⟨g, 2, none⟩ v2).setCell ⟨g, 3, none⟩ v3).setCell ⟨g, 4, none⟩ v4).setCell ⟨g, 5, none⟩ v5).setCell ⟨g, 6, none⟩ v6).setCell ⟨g, 7, none⟩ v7).setCell ⟨g, 8, none⟩ v8).drew g #[v0, v1, v2, v3, v4, v5, v6, v7, v8] t := by
 have h0 : hrow (W.setCell ⟨g, 0, none⟩ v0) g #[v0, u1, u2, u3, u4, u5, u6, u7, u8] t := hrow.setCell h 0 v0
 have h1 : hrow ((W.setCell ⟨g, 0, none⟩ v0).setCell ⟨g, 1, none⟩ v1) g #[v0, v1, u2, u3, u4, u5, u6, u7, u8] t := hrow.setCell h0 1 v1
 have h2 : hrow (((W.setCell ⟨g, 0, none⟩ v0).setCell ⟨g, 1, none⟩ v1).setCell ⟨g, 2, none⟩ v2) g #[v0, v1, v2, u3, u4, u5, u6, u7, u8] t := hrow.setCell h1 2 v2
 have h3 : hrow ((((W.setCell ⟨g, 0, none⟩ v0).setCell ⟨g, 1, none⟩ v1).setCell ⟨g, 2, none⟩ v2).setCell ⟨g, 3, none⟩ v3) g #[v0, v1, v2, v3, u4, u5, u6, u7, u8] t := hrow.setCell h2 3 v3
 have h4 : hrow (((((W.setCell ⟨g, 0, none⟩ v0).setCell ⟨g, 1, none⟩ v1).setCell ⟨g, 2, none⟩ v2).setCell ⟨g, 3, none⟩ v3).setCell ⟨g, 4, none⟩ v4) g #[v0, v1, v2, v3, v4, u5, u6, u7, u8] t := hrow.setCell h3 4 v4
 have h5 : hrow ((((((W.setCell ⟨g, 0, none⟩ v0).setCell ⟨g, 1, none⟩ v1).setCell ⟨g, 2, none⟩ v2).setCell ⟨g, 3, none⟩ v3).setCell ⟨g, 4, none⟩ v4).setCell ⟨g, 5, none⟩ v5) g #[v0, v1, v2, v3, v4, v5, u6, u7, u8] t := hrow.setCell h4 5 v5
 have h6 : hrow (((((((W.setCell ⟨g, 0, none⟩ v0).setCell ⟨g, 1, none⟩ v1).setCell ⟨g, 2, none⟩ v2).setCell ⟨g, 3, none⟩ v3).setCell ⟨g, 4, none⟩ v4).setCell ⟨g, 5, none⟩ v5).setCell ⟨g, 6, none⟩ v6) g #[v0, v1, v2, v3, v4, v5, v6, u7, u8] t := hrow.setCell h5 6 v6
 have h7 : hrow ((((((((W.setCell ⟨g, 0, none⟩ v0).setCell ⟨g, 1, none⟩ v1).setCell ⟨g, 2, none⟩ v2).setCell ⟨g, 3, none⟩ v3).setCell ⟨g, 4, none⟩ v4).setCell ⟨g, 5, none⟩ v5).setCell ⟨g, 6, none⟩ v6).setCell ⟨g, 7, none⟩ v7) g #[v0, v1, v2, v3, v4, v5, v6, v7, u8] t := hrow.setCell h6 7 v7
 have h8 : hrow (((((((((W.setCell ⟨g, 0, none⟩ v0).setCell ⟨g, 1, none⟩ v1).setCell ⟨g, 2, none⟩ v2).setCell ⟨g, 3, none⟩ v3).setCell ⟨g, 4, none⟩ v4).setCell ⟨g, 5, none⟩ v5).setCell ⟨g, 6, none⟩ v6).setCell ⟨g, 7, none⟩ v7).setCell ⟨g, 8, none⟩ v8) g #[v0, v1, v2, v3, v4, v5, v6, v7, v8] t := hrow.setCell h7 8 v8
 exact hrow_drew h8
theorem set9_bel {B : Nat} {w W : World} {g : Nat} (h : Below B w W) (hg : B ≤ g) (v0 v1 v2 v3 v4 v5 v6 v7 v8 : Value) : Below B w (((((((((W.setCell ⟨g, 0, none⟩ v0).setCell ⟨g, 1, none⟩ v1).setCell ⟨g, 2, none⟩ v2).setCell ⟨g, 3, none⟩ v3).setCell ⟨g, 4, none⟩ v4).setCell ⟨g, 5, none⟩ v5).setCell ⟨g, 6, none⟩ v6).setCell ⟨g, 7, none⟩ v7).setCell ⟨g, 8, none⟩ v8).drew := (((((((((h.setCell (p := ⟨g, 0, none⟩) hg v0).setCell (p := ⟨g, 1, none⟩) hg v1).setCell (p := ⟨g, 2, none⟩) hg v2).setCell (p := ⟨g, 3, none⟩) hg v3).setCell (p := ⟨g, 4, none⟩) hg v4).setCell (p := ⟨g, 5, none⟩) hg v5).setCell (p := ⟨g, 6, none⟩) hg v6).setCell (p := ⟨g, 7, none⟩) hg v7).setCell (p := ⟨g, 8, none⟩) hg v8).drew
theorem rnext_any (s : ByteArray) (a : Int) (w : World) (hs : s.size ≤ 1000000) : Calls Tryz.prog 10 #[.string s, .int .i64 a] w fun e w' => e = .returned (nxV (nxA s.data.toList a)) ∧ Below w.heap.size w w' := by
 have HB := Lib.hid ((Below.refl w.heap.size w).alloc (Nat.le_refl _) (.cells #[.int .i64 0, .int .i64 0, .int .i64 0, .string ⟨#[]⟩, .int .i64 0, .int .u64 0, .int .u64 0, .int .u64 0, .int .u64 0] 43))
 have HR := Lib.hid (show hrow (w.alloc (.cells #[.int .i64 0, .int .i64 0, .int .i64 0, .string ⟨#[]⟩, .int .i64 0, .int .u64 0, .int .u64 0, .int .u64 0, .int .u64 0] 43)) w.heap.size wd0 43 from hrow.new _ _ _)
 by_cases h : a < 0
 ·have HE : Hid (nxA s.data.toList a = none) := nxA_out (.inl h)
  go_enter Tryz.func10, Tryz.ntmps10
  go_wp2_with (first
   | (with_reducible refine store_rword rfl (.tmp 4) (.tmp 15) rfl w.heap.size _ _ _ _ _ _ _ _ _ rfl rfl HR.out ?_))
  refine bodyPost_ret (results_rword2 rfl _ _ w.heap.size _ _ rfl rfl HR.out rfl) rfl ?_
  exact ⟨by rw [HE.out]; rfl, below_setRow HB.out (Nat.le_refl _) _⟩
 by_cases h2 : (s.size : Int) < a
 ·have HE : Hid (nxA s.data.toList a = none) := nxA_out (.inr (by rw [ba_len]; exact h2))
  go_enter Tryz.func10, Tryz.ntmps10
  go_wp2_with (first
   | (with_reducible refine store_rword rfl (.tmp 4) (.tmp 15) rfl w.heap.size _ _ _ _ _ _ _ _ _ rfl rfl HR.out ?_))
  refine bodyPost_ret (results_rword2 rfl _ _ w.heap.size _ _ rfl rfl HR.out rfl) rfl ?_
  exact ⟨by rw [HE.out]; rfl, below_setRow HB.out (Nat.le_refl _) _⟩
 obtain ⟨k, rfl⟩ : ∃ k : Nat, a = k := ⟨a.toNat, by omega⟩
 have hk : k ≤ s.size := by omega
 have HE : Hid (nxA s.data.toList k = nextW s.data.toList k) := nxA_in (by rw [ba_len]; exact hk)
 obtain ⟨K, hK⟩ : ∃ K, K = k + skp false (s.data.toList.drop k) := ⟨_, rfl⟩
 have hKs : K ≤ s.size := by have := skp_le (s.data.toList.drop k) false; rw [List.length_drop, ba_len] at this; omega
 have HN : Hid (nextW s.data.toList k = (wordR (s.data.toList.drop K)).map fun r => r.at K) := by unfold Hid nextW; rw [← hK]
 have HSk := Lib.hid (fun x => rskip_any s k x hs)
 rw [skA_in (by rw [ba_len]; exact hk), show ((k : Int) + (skp false (s.data.toList.drop k) : Nat)) = K by omega] at HSk
 have HW := Lib.hid (fun x => rword_any s K x hs hKs)
 clear hK hs
 go_enter Tryz.func10, Tryz.ntmps10
 go_wp2_with fail
 refine (HSk.out _).mono ?_
 rintro e x ⟨rfl, hb⟩
 have HB1 := Lib.hid (HB.out.trans (hb.mono HB.out.size))
 have HR1 := Lib.hid (HR.out.below hb)
 clear hb HSk HB HR
 go_wp2_with fail
 refine (HW.out _).mono ?_
 rintro e y ⟨rfl, hb⟩
 have HB2 := Lib.hid (HB1.out.trans (hb.mono HB1.out.size))
 have HR2 := Lib.hid (HR1.out.below hb)
 clear hb HW HB1 HR1
 cases hq : wordR (s.data.toList.drop K) with
 | none =>
  have HQ : Hid (nxA s.data.toList k = none) := by unfold Hid; rw [HE.out, HN.out, hq]; rfl
  unfold rqV wd0 wdA
  simp only []
  clear hq HE HN
  have hbl := (Below.refl y.heap.size y).alloc (Nat.le_refl _) (.cells #[.int .i64 0, .int .i64 0, .int .i64 0, .string ⟨#[]⟩, .int .i64 0, .int .u64 0, .int .u64 0, .int .u64 0, .int .u64 0] 43)
  have HW := Lib.hid (hrow.new y #[.int .i64 0, .int .i64 0, .int .i64 0, .string ⟨#[]⟩, .int .i64 0, .int .u64 0, .int .u64 0, .int .u64 0, .int .u64 0] 43)
  have HB3 := Lib.hid (HB2.out.trans (hbl.mono HB2.out.size))
  have HR3 := Lib.hid (show hrow _ w.heap.size wd0 43 from HR2.out.below hbl)
  have HG := Lib.hid (show w.heap.size ≠ y.heap.size by have := HR2.out.lt; omega)
  clear hbl HB2 HR2
  go_wp2_with fail
  generalize y.alloc (.cells #[.int .i64 0, .int .i64 0, .int .i64 0, .string ⟨#[]⟩, .int .i64 0, .int .u64 0, .int .u64 0, .int .u64 0, .int .u64 0] 43) = z at *
  generalize y.heap.size = g6 at *
  obtain ⟨p0, p1, p2, p3, p4, p5, p6, p7, p8⟩ := hrow.c9 HW.out
  obtain ⟨r0, r1, r2, r3, r4, r5, r6, r7, r8⟩ := hrow.c9 (show hrow z w.heap.size #[.int .i64 0, .int .i64 0, .int .i64 0, .string ⟨#[]⟩, .int .i64 0, .int .u64 0, .int .u64 0, .int .u64 0, .int .u64 0] 43 from HR3.out)
  obtain ⟨f0, f1, f2, f3, f4, f5, f6, f7, f8⟩ := hrow.f9 HR3.out
  have hg := HG.out
  go_region
  go_wp2_with fail
  refine bodyPost_ret (results_row2 rfl _ _ w.heap.size _ _ _ _ rfl (set9_row HR3.out _ _ _ _ _ _ _ _ _) Tryz.underlying43 rfl (rw_sz rfl)) rfl ?_
  exact ⟨by rw [HQ.out]; rfl, set9_bel HB3.out (Nat.le_refl _) _ _ _ _ _ _ _ _ _⟩
 | some r =>
  have HQ : Hid (nxA s.data.toList k = some (r.at K)) := by unfold Hid; rw [HE.out, HN.out, hq]; rfl
  have hkd : ((r.kind : Int) != 0) = true := by have := (wordR_len hq).2.1; simp; omega
  have HNX : Hid (((r.at K).nx : Int) = (K : Int) + r.n) := by show ((K + r.n : Nat) : Int) = _; omega
  unfold rqV wdv wdA
  simp only []
  clear hq HE HN
  generalize hXK : (r.kind : Int) = XK at *
  generalize hXN : (K : Int) + r.n = XN at *
  have HXK := Lib.hid hXK; clear hXK hXN
  have hbl := (Below.refl y.heap.size y).alloc (Nat.le_refl _) (.cells #[.int .i64 XK, .int .i64 K, .int .i64 XN, .string (tx r.tx), .int .i64 r.lv, .int .u64 (clsW r.cl 0), .int .u64 (clsW r.cl 1), .int .u64 (clsW r.cl 2), .int .u64 (clsW r.cl 3)] 43)
  have HW := Lib.hid (hrow.new y #[.int .i64 XK, .int .i64 K, .int .i64 XN, .string (tx r.tx), .int .i64 r.lv, .int .u64 (clsW r.cl 0), .int .u64 (clsW r.cl 1), .int .u64 (clsW r.cl 2), .int .u64 (clsW r.cl 3)] 43)
  have HB3 := Lib.hid (HB2.out.trans (hbl.mono HB2.out.size))
  have HR3 := Lib.hid (show hrow _ w.heap.size wd0 43 from HR2.out.below hbl)
  have HG := Lib.hid (show w.heap.size ≠ y.heap.size by have := HR2.out.lt; omega)
  clear hbl HB2 HR2
  go_wp2_with fail
  generalize y.alloc (.cells #[.int .i64 XK, .int .i64 K, .int .i64 XN, .string (tx r.tx), .int .i64 r.lv, .int .u64 (clsW r.cl 0), .int .u64 (clsW r.cl 1), .int .u64 (clsW r.cl 2), .int .u64 (clsW r.cl 3)] 43) = z at *
  generalize y.heap.size = g6 at *
  obtain ⟨p0, p1, p2, p3, p4, p5, p6, p7, p8⟩ := hrow.c9 HW.out
  obtain ⟨r0, r1, r2, r3, r4, r5, r6, r7, r8⟩ := hrow.c9 (show hrow z w.heap.size #[.int .i64 0, .int .i64 0, .int .i64 0, .string ⟨#[]⟩, .int .i64 0, .int .u64 0, .int .u64 0, .int .u64 0, .int .u64 0] 43 from HR3.out)
  obtain ⟨f0, f1, f2, f3, f4, f5, f6, f7, f8⟩ := hrow.f9 HR3.out
  have hg := HG.out
  go_region
  go_wp2_with fail
  refine bodyPost_ret (results_row2 rfl _ _ w.heap.size _ _ _ _ rfl (set9_row HR3.out _ _ _ _ _ _ _ _ _) Tryz.underlying43 rfl (rw_sz rfl)) rfl ?_
  refine ⟨?_, set9_bel HB3.out (Nat.le_refl _) _ _ _ _ _ _ _ _ _⟩
  rw [HQ.out]
  unfold nxV wdD wdA
  simp only []
  rw [HNX.out, show ((r.at K).kind : Int) = XK from HXK.out]
  rfl
end Go.Proofs.YtnfkcdnkmcifbaaGreatDoor
namespace Go.Proofs.YtnfkcdnkmcifbaaGreatDoor

/-- The place where there is no word, as it is yielded. -/
def badW (e : Nat) : Wd := ⟨0, e, 0, [], 0, []⟩
/-- What is yielded from a place on. -/
def yieldsF (l : List UInt8) : Nat → Nat → List (Wd × Bool)
  | 0, _ => []
  | f + 1, k => match nextW l k with
    | none => [(badW (k + skp false (l.drop k)), false)]
    | some w => if w.kind = 1 then [(w, true)] else (w, true) :: yieldsF l f w.nx
theorem yields_words (l : List UInt8) : ∀ (f k : Nat), yieldsF l f k = (wordsF l f k).1.map (·, true) ++ (match (wordsF l f k).2 with | some e => [(badW e, false)] | none => [])
  | 0, _ => rfl
  | f + 1, k => by
    unfold yieldsF wordsF
    cases nextW l k with
    | none => rfl
    | some w =>
      simp only []
      split
      · rfl
      · rw [yields_words l f w.nx]; rfl
/-- The step: what is yielded from a place on, and what then. -/
theorem yields_none {l : List UInt8} {f k : Nat} (hf : l.length < f + k) (hk : k ≤ l.length) (h : nextW l k = none) : yieldsF l f k = [(badW (k + skp false (l.drop k)), false)] := by
  cases f with
  | zero => omega
  | succ f => unfold yieldsF; rw [h]
theorem yields_end {l : List UInt8} {f k : Nat} {w : Wd} (hf : l.length < f + k) (hk : k ≤ l.length) (h : nextW l k = some w) (hc : w.kind = 1) : yieldsF l f k = [(w, true)] := by
  cases f with
  | zero => omega
  | succ f => unfold yieldsF; rw [h]; simp only []; rw [if_pos hc]
theorem yields_more {l : List UInt8} {f k : Nat} {w : Wd} (hf : l.length < f + k) (hk : k ≤ l.length) (h : nextW l k = some w) (hc : w.kind ≠ 1) :
    ∃ g, yieldsF l f k = (w, true) :: yieldsF l g w.nx ∧ k < w.nx ∧ w.nx ≤ l.length ∧ l.length < g + w.nx := by
  obtain ⟨h1, h2, h3, h4, h5, h6, h7, h8⟩ := nextW_some h hk
  have h9 : w.at_ ≠ w.nx := fun e => hc (h7.1 e.symm)
  cases f with
  | zero => omega
  | succ f =>
    refine ⟨f, ?_, by omega, h4, by omega⟩
    conv => lhs; unfold yieldsF
    rw [h]; simp only []; rw [if_neg hc]
/-- All that a text yields. -/
def yieldsOf (l : List UInt8) : List (Wd × Bool) := yieldsF l (l.length + 1) 0
end Go.Proofs.YtnfkcdnkmcifbaaGreatDoor
namespace Go.Proofs.YtnfkcdnkmcifbaaGreatDoor
open Go.RowKit Go.Shelf
attribute [local go_sem] Oper.semAt_some
set_option maxRecDepth 100000
set_option maxHeartbeats 1000000

/-- The variable in block b holds nothing, or a row that was laid since the loop began. -/
def BoxOk (b n₀ : Nat) (W : World) : Prop := ∃ ao n c, W.cell? ⟨b, 0, none⟩ = some (.slice ao n c) ∧ ∀ a, ao = some a → n₀ ≤ a.block ∧ a.block < W.heap.size
/-- Is k the block of the row that the variable holds? -/
def RowAt (b : Nat) (W : World) (k : Nat) : Prop := ∃ (a : Addr) (n c : Nat), W.cell? ⟨b, 0, none⟩ = some (.slice (some a) n c) ∧ a.block = k
/-- What a round keeps: all that was laid since the loop began, and the blocks of H, but the row that grows. -/
def KpW (b n₀ : Nat) (H : Nat → Prop) (W W' : World) : Prop :=
 BoxOk b n₀ W → BoxOk b n₀ W' ∧ W.heap.size ≤ W'.heap.size ∧ (∀ k, RowAt b W' k → RowAt b W k ∨ W.heap.size ≤ k) ∧
  ∀ (k : Nat) (cs : Array Value) (t : TypeId) (fr : Nat × Nat), W.heap[k]? = some (Obj.cells cs t fr) → (H k ∨ n₀ ≤ k) → ¬ RowAt b W k → W'.heap[k]? = W.heap[k]?
theorem kpW_t {b n₀ : Nat} {H : Nat → Prop} {A B C : World} (h : KpW b n₀ H A B) (k : KpW b n₀ H B C) : KpW b n₀ H A C := fun hA => by
 obtain ⟨h1, h2, h3, h4⟩ := h hA
 obtain ⟨k1, k2, k3, k4⟩ := k h1
 refine ⟨k1, Nat.le_trans h2 k2, fun j hj => ?_, fun j cs t fr hj hH hn => ?_⟩
 ·rcases k3 j hj with h | h
  ·exact h3 j h
  ·exact .inr (Nat.le_trans h2 h)
 ·have e1 := h4 j cs t fr hj hH hn
  have hlt : j < A.heap.size := (Array.getElem?_eq_some_iff.1 hj).1
  rw [k4 j cs t fr (e1.trans hj) hH (fun hr => by
   rcases h3 j hr with h | h
   ·exact hn h
   ·omega), e1]
theorem cell_cells {W : World} {k o : Nat} {v : Value} (h : W.cell? ⟨k, o, none⟩ = some v) : ∃ (cs : Array Value) (t : TypeId) (fr : Nat × Nat), W.heap[k]? = some (Obj.cells cs t fr) := by
 unfold World.cell? at h
 cases hk : W.heap[k]? with
 | none => simp [hk] at h
 | some ob => cases ob <;> simp_all
theorem kpW_b {b n₀ : Nat} {H : Nat → Prop} (W : World) (l : Nat) (o o' : Obj) (h : W.heap[l]? = some o) (hc : o.isCells = false) : KpW b n₀ H W (W.putObj l o') := fun hb => by
 have hg := grownBy_putObj' W l o'
 have hk : ∀ (k : Nat) (cs : Array Value) (t : TypeId) (fr : Nat × Nat), W.heap[k]? = some (Obj.cells cs t fr) → (W.putObj l o').heap[k]? = W.heap[k]? := fun k cs t fr hk =>
  hg.block k (Array.getElem?_eq_some_iff.1 hk).1 (fun e => by cases e; rw [hk] at h; cases h; cases hc)
 obtain ⟨ao, n, c, h1, h2⟩ := hb
 obtain ⟨cs, t, fr, hh⟩ := cell_cells h1
 have e := hk _ _ _ _ hh
 have ec : (W.putObj l o').cell? ⟨b, 0, none⟩ = W.cell? ⟨b, 0, none⟩ := by unfold World.cell?; simp only [e]
 refine ⟨⟨ao, n, c, ec.trans h1, fun a ha => ⟨(h2 a ha).1, Nat.lt_of_lt_of_le (h2 a ha).2 hg.size⟩⟩, hg.size, fun k ⟨a, n, c, hr, hk⟩ => .inl ⟨a, n, c, ec.symm.trans hr, hk⟩, fun k cs t fr hk' _ _ => hk k cs t fr hk'⟩
end Go.Proofs.YtnfkcdnkmcifbaaGreatDoor
