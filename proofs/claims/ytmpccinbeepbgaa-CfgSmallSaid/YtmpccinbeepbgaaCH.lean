/- Walks: the chapter's examples. -/
import Derived.Test.YtmpccinbeepbgaaCG
import Derived.Test.YtmpccinbeepbgaaGr6
import Derived.Test.YtmpccinbeepbgaaAp
import Derived.Lib.SlBytesConst
namespace Go.Proofs.Ytmpccinbeepbgaa
open Go.RowKit

theorem ex_byt : Byt exL := by
  intro o ho
  simp only [exL, List.mem_cons, List.not_mem_nil, or_false] at ho
  rcases ho with rfl | rfl <;> decide

theorem Sv.of_block {w : World} {g : Nat} {cs : Array Value} {t : TypeId} {fr : Nat × Nat} (h : w.heap[g]? = some (.cells cs t fr)) (n size : Nat) (hm : n ≤ maxLen) (hs : cs.size = n * size) : Sv w (some ⟨g, 0, none⟩) n n size cs.toList := by
  refine ⟨by simpa using hs, Nat.le_refl _, hm, (fun h => nomatch h), fun j hj => ⟨_, rfl, ?_⟩⟩
  have e : (⟨g, 0, none⟩ : Addr).add j = ⟨g, j, none⟩ := by unfold Addr.add; split <;> simp_all
  rw [e, cell_of_row w g j cs t fr h]; simp
/-- A constant's bytes, laid anew and marked. -/
theorem Sv.const (w : World) (e : TypeId) (cs : Array Value) (fr : Nat × Nat) (n : Nat) (hm : n ≤ maxLen) (hs : cs.size = n) : Sv (w.alloc (.cells cs e fr)) (some ⟨w.heap.size, 0, none⟩) n n 1 cs.toList :=
  Sv.of_block (heap_alloc_new _ _) n 1 hm (by omega)

/-- The example's operators, laid anew. -/
def ExPost (w : World) (e : Ending) (w' : World) : Prop := ∃ ao cap, e = .returned (.slice ao 2 cap) ∧ Below w.heap.size w w' ∧ Sv w' ao 2 cap 2 (opc exL)

set_option maxHeartbeats 1000000 in
theorem example_any (w : World) : Calls Try.prog 21 #[] w (ExPost w) := by
  go_enter Try.func21, Try.ntmps21
  go_wp2_with fail
  go_ret
  refine ⟨_, _, rfl, (Below.refl _ _).alloc (Nat.le_refl _) _, ?_⟩
  exact Sv.lit w 43 #[.int .u8 43, .bool false, .int .u8 94, .bool true] 2 2 (by unfold maxLen; omega) rfl

set_option maxRecDepth 100000 in
set_option maxHeartbeats 4000000 in
theorem awake_any (w : World) : Calls Try.prog 8 #[] w fun r w' => r = .returned (.bool true) ∧ Below w.heap.size w w' := by
  have HT := Lib.hid (fun w lo lc wo wc h k => tree_any w lo 2 lc wo 9 wc exL exW ex_byt (by decide) h k 0 9)
  have HL := Lib.hid (fun w lo lc wo wc h k => longest_any w lo 2 lc wo 4 wc exL exV ex_byt (by decide) h k 0)
  have HW := Lib.hid (fun w lo lc wo wc h k => ways_any w lo 2 lc wo 9 wc exL exW ex_byt (by decide) h k 0 0 9)
  have HD1 := Lib.hid (fun w lo lc wo wc h k => der_any w lo 2 lc wo 9 wc exL exW ex_byt (by decide) h k 1 0 9)
  have HD2 := Lib.hid (fun w lo lc wo wc h k => der_any w lo 2 lc wo 9 wc exL exW ex_byt (by decide) h k 1 2 7)
  have hw : wayI exL exW 0 0 9 = 1 := by unfold wayI; rw [show derB exL exW 0 0 9 = true from ex_der]; rfl
  rw [hw] at HW
  rw [show derB exL exW 0 0 9 = true from ex_der, ex_tr] at HT
  rw [ex_lg] at HL
  rw [show derB exL exW 1 0 9 = false from ex_der0] at HD1
  rw [show derB exL exW 1 2 7 = true from ex_der1] at HD2
  clear hw
  have kc := fun (w : World) (C : Array Value) (n c : Nat) => Lib.run_convert_bytes_const (P := Try.prog) w 23 5 C n c Try.underlying23 Try.underlying5
  go_enter Try.func8, Try.ntmps8
  go_wp2_with fail
  have HB1 : Hid (Below w.heap.size w (w.alloc (.cells #[.int .u8 49, .int .u8 43, .int .u8 50, .int .u8 94, .int .u8 51, .int .u8 94, .int .u8 52, .int .u8 43, .int .u8 53] 5 (9, 10)))) := (Below.refl _ _).alloc (Nat.le_refl _) _
  have HY1 : Hid (Sv (w.alloc (.cells #[.int .u8 49, .int .u8 43, .int .u8 50, .int .u8 94, .int .u8 51, .int .u8 94, .int .u8 52, .int .u8 43, .int .u8 53] 5 (9, 10))) (some ⟨w.heap.size, 0, none⟩) 9 9 1 (byc exW)) :=
    Sv.const w 5 #[.int .u8 49, .int .u8 43, .int .u8 50, .int .u8 94, .int .u8 51, .int .u8 94, .int .u8 52, .int .u8 43, .int .u8 53] (9, 10) 9 (by unfold maxLen; omega) rfl
  revert HB1 HY1
  generalize w.alloc (.cells #[.int .u8 49, .int .u8 43, .int .u8 50, .int .u8 94, .int .u8 51, .int .u8 94, .int .u8 52, .int .u8 43, .int .u8 53] 5 (9, 10)) = w1
  generalize (⟨w.heap.size, 0, none⟩ : Addr) = ya
  intro HB1 HY1
  refine (example_any _).mono ?_
  rintro e w2 ⟨xo, xc, rfl, hb2, hx2⟩
  have HB2 := Lib.hid (HB1.out.trans (hb2.mono HB1.out.size)); have HX2 := Lib.hid hx2; have HY2 := Lib.hid (HY1.out.below hb2)
  clear hb2 hx2 HY1 HB1
  go_wp2_with fail
  refine (HT.out _ _ _ _ _ HX2.out HY2.out).mono ?_
  rintro e w3 ⟨tv, rfl, hot⟩
  rw [show exT.length = 9 from rfl] at hot
  obtain ⟨tq, tc, rfl, hts⟩ := hot.sv
  have HB3 := Lib.hid (HB2.out.trans (hot.2.mono HB2.out.size)); have HY3 := Lib.hid (HY2.out.below hot.2); have HTS := Lib.hid hts
  clear hot hts HX2 HY2 HB2 HT
  go_wp2_with fail
  refine (example_any _).mono ?_
  rintro e w4 ⟨xo, xc, rfl, hb2, hx2⟩
  have HB4 := Lib.hid (HB3.out.trans (hb2.mono HB3.out.size)); have HX4 := Lib.hid hx2; have HY4 := Lib.hid (HY3.out.below hb2); have HT4 := Lib.hid (HTS.out.below hb2)
  clear hb2 hx2 HY3 HB3 HTS
  go_wp2_with fail
  have HB5 : Hid (Below w.heap.size w (w4.alloc (.cells #[.int .u8 49, .int .u8 43, .int .u8 40, .int .u8 50] 5 (4, 5)))) := HB4.out.alloc HB4.out.size _
  have hb5 : Below w4.heap.size w4 (w4.alloc (.cells #[.int .u8 49, .int .u8 43, .int .u8 40, .int .u8 50] 5 (4, 5))) := (Below.refl _ _).alloc (Nat.le_refl _) _
  have HX5 := Lib.hid (HX4.out.below hb5); have HY5 := Lib.hid (HY4.out.below hb5); have HT5 := Lib.hid (HT4.out.below hb5)
  have HV5 : Hid (Sv (w4.alloc (.cells #[.int .u8 49, .int .u8 43, .int .u8 40, .int .u8 50] 5 (4, 5))) (some ⟨w4.heap.size, 0, none⟩) 4 4 1 (byc exV)) :=
    Sv.const w4 5 #[.int .u8 49, .int .u8 43, .int .u8 40, .int .u8 50] (4, 5) 4 (by unfold maxLen; omega) rfl
  clear hb5 HB4 HX4 HY4 HT4
  revert HB5 HX5 HY5 HT5 HV5
  generalize w4.alloc (.cells #[.int .u8 49, .int .u8 43, .int .u8 40, .int .u8 50] 5 (4, 5)) = w5
  generalize (⟨w4.heap.size, 0, none⟩ : Addr) = va
  intro HB5 HX5 HY5 HT5 HV5
  refine (HL.out _ _ _ _ _ HX5.out HV5.out).mono ?_
  rintro e w6 ⟨rfl, hb6⟩
  have HB6 := Lib.hid (HB5.out.trans (hb6.mono HB5.out.size)); have HY6 := Lib.hid (HY5.out.below hb6); have HT6 := Lib.hid (HT5.out.below hb6)
  clear hb6 HB5 HX5 HY5 HT5 HV5 HL
  unfold lgV
  go_wp2_with fail
  refine (example_any _).mono ?_
  rintro e w2 ⟨xo, xc, rfl, hb2, hx2⟩
  have HB7 := Lib.hid (HB6.out.trans (hb2.mono HB6.out.size)); have HX7 := Lib.hid hx2; have HY7 := Lib.hid (HY6.out.below hb2); have HT7 := Lib.hid (HT6.out.below hb2)
  clear hb2 hx2 HY6 HB6 HT6
  go_wp2_with fail
  refine (HW.out _ _ _ _ _ HX7.out HY7.out).mono ?_
  rintro e w8 ⟨rfl, hb6⟩
  have HB8 := Lib.hid (HB7.out.trans (hb6.mono HB7.out.size)); have HY8 := Lib.hid (HY7.out.below hb6); have HT8 := Lib.hid (HT7.out.below hb6)
  clear hb6 HB7 HX7 HY7 HT7 HW
  go_wp2_with fail
  refine (example_any _).mono ?_
  rintro e w9 ⟨xo, xc, rfl, hb2, hx2⟩
  have HB9 := Lib.hid (HB8.out.trans (hb2.mono HB8.out.size)); have HX9 := Lib.hid hx2; have HY9 := Lib.hid (HY8.out.below hb2); have HT9 := Lib.hid (HT8.out.below hb2)
  clear hb2 hx2 HY8 HB8 HT8
  go_wp2_with fail
  refine (HD1.out _ _ _ _ _ HX9.out HY9.out).mono ?_
  rintro e w8 ⟨rfl, hb6⟩
  have HB8 := Lib.hid (HB9.out.trans (hb6.mono HB9.out.size)); have HY8 := Lib.hid (HY9.out.below hb6); have HT8 := Lib.hid (HT9.out.below hb6)
  clear hb6 HB9 HX9 HY9 HT9 HD1
  go_wp2_with fail
  refine (example_any _).mono ?_
  rintro e w9 ⟨xo, xc, rfl, hb2, hx2⟩
  have HB9 := Lib.hid (HB8.out.trans (hb2.mono HB8.out.size)); have HX9 := Lib.hid hx2; have HY9 := Lib.hid (HY8.out.below hb2); have HT9 := Lib.hid (HT8.out.below hb2)
  clear hb2 hx2 HY8 HB8 HT8
  go_wp2_with fail
  refine (HD2.out _ _ _ _ _ HX9.out HY9.out).mono ?_
  rintro e w8 ⟨rfl, hb6⟩
  have HB8 := Lib.hid (HB9.out.trans (hb6.mono HB9.out.size)); have HT8 := Lib.hid (HT9.out.below hb6)
  clear hb6 HB9 HX9 HY9 HT9 HD2 kc
  obtain ⟨ta, rfl, _⟩ := HT8.out.cell 0 (by decide)
  have hc : ∀ j, j < (exT.flatMap twc).length → w8.cell? (ta.add j) = (exT.flatMap twc)[j]? := fun j hj => by
    obtain ⟨a, h1, h2⟩ := HT8.out.cell j hj
    cases h1; exact h2
  have d1 : Hid (∀ j v, (#[.int .i64 0, .int .i64 0, .int .i64 0, .int .i64 7, .int .i64 2] : Array Value).toList[j]? = some v → w8.cell? ((ta.add 5).add j) = some v) := fun j v hj => by
    have hj' : j < 5 := (List.getElem?_eq_some_iff.1 hj).1
    rw [add_add, hc _ (by show 5 + j < 45; omega)]
    rw [← hj]
    match j, hj' with
    | 0, _ => rfl
    | 1, _ => rfl
    | 2, _ => rfl
    | 3, _ => rfl
    | 4, _ => rfl
  have d3 : Hid (∀ j v, (#[.int .i64 0, .int .i64 1, .int .i64 2, .int .i64 7, .int .i64 2] : Array Value).toList[j]? = some v → w8.cell? ((ta.add 15).add j) = some v) := fun j v hj => by
    have hj' : j < 5 := (List.getElem?_eq_some_iff.1 hj).1
    rw [add_add, hc _ (by show 15 + j < 45; omega)]
    rw [← hj]
    match j, hj' with
    | 0, _ => rfl
    | 1, _ => rfl
    | 2, _ => rfl
    | 3, _ => rfl
    | 4, _ => rfl
  have d8 : Hid (∀ j v, (#[.int .i64 0, .int .i64 1, .int .i64 8, .int .i64 9, .int .i64 0] : Array Value).toList[j]? = some v → w8.cell? ((ta.add 40).add j) = some v) := fun j v hj => by
    have hj' : j < 5 := (List.getElem?_eq_some_iff.1 hj).1
    rw [add_add, hc _ (by show 40 + j < 45; omega)]
    rw [← hj]
    match j, hj' with
    | 0, _ => rfl
    | 1, _ => rfl
    | 2, _ => rfl
    | 3, _ => rfl
    | 4, _ => rfl
  have K2 : Hid ((Try.prog.info? 57).map (·.size) = some 5) := by unfold Hid; kernel_rfl
  clear hc
  go_wp2_with (first
    | (refine wpList_load_part rfl 57 (.tmp 54) rfl (ta.add 5) rfl #[.int .i64 0, .int .i64 0, .int .i64 0, .int .i64 7, .int .i64 2] _ d1.out Try.underlying57 rfl K2.out ?_)
    | (refine wpList_load_partG rfl 57 (.tmp 61) rfl (ta.add 15) rfl #[.int .i64 0, .int .i64 1, .int .i64 2, .int .i64 7, .int .i64 2] _ d3.out Try.underlying57 rfl K2.out ?_)
    | (refine wpList_load_partG rfl 57 (.tmp 69) rfl (ta.add 40) rfl #[.int .i64 0, .int .i64 1, .int .i64 8, .int .i64 9, .int .i64 0] _ d8.out Try.underlying57 rfl K2.out ?_))
  go_ret
  exact ⟨rfl, HB8.out⟩
end Go.Proofs.Ytmpccinbeepbgaa
