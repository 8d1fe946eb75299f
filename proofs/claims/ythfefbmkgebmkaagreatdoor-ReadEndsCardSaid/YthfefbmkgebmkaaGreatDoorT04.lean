/- Walks and plain laws: Qj. -/
import Derived.Test.YthfefbmkgebmkaaGreatDoorT03
namespace Go.Proofs.YthfefbmkgebmkaaGreatDoor
open Go.RowKit
set_option maxRecDepth 100000
set_option maxHeartbeats 16000000

/-- What is left where the reader cannot go on: the empty part, and all as it was. -/
structure ErS (L : List Wd) (B gr i : Nat) (d : Int) (e a g2 : Nat) (w wr : World) : Prop where
 z : hrow wr g2 pt0C 122
 q : RqW L B gr i d e a wr
 fr : Fr (fun k => k = gr) w wr
theorem ErS.below {L : List Wd} {B gr i : Nat} {d : Int} {e a g2 : Nat} {w wr w' : World} (h : ErS L B gr i d e a g2 w wr) (hb : Below wr.heap.size wr w') : ErS L B gr i d e a g2 w w' :=
 ⟨h.z.below hb, h.q.below hb, h.fr.trans (Fr.of_below (F := fun k => k = gr) hb) (fun _ _ h => h)⟩
theorem ErS.fin {L : List Wd} {B gr i : Nat} {d : Int} {e a g2 : Nat} {w wr : World} (h : ErS L B gr i d e a g2 w wr) (hg2 : w.heap.size = g2) (hB : B ≤ g2) (cs : Array Value) : RqW L B gr i d e a (wr.setRow g2 cs) ∧ Fr (fun k => k = gr) w (wr.setRow g2 cs) := by
 have hf := Fr.setRow wr g2 cs
 exact ⟨h.q.fr hf (fun k e => by omega), h.fr.trans hf (fun k hk e => by omega)⟩
theorem qseq_err (L : List Wd) (B gr i : Nat) (d : Int) (e a : Nat) (w : World) (he : e ≠ 0) (h : RqW L B gr i d e a w) (hi : i < L.length) :
  Calls Tryz.prog 77 #[ptr gr] w fun r w' => r = .returned (.agg pt0C) ∧ RqW L B gr i d e a w' ∧ Fr (fun k => k = gr) w w' := by
 have HE := Lib.hid he; have HI := Lib.hid hi
 have hbw := h.le
 have hgB := h.lt
 have hbl := (Below.refl w.heap.size w).alloc (Nat.le_refl _) (.cells pt0C 122)
 obtain ⟨w0, hw0⟩ : ∃ x, w.alloc (.cells pt0C 122) = x := ⟨_, rfl⟩
 obtain ⟨g2, hg2⟩ : ∃ g, w.heap.size = g := ⟨_, rfl⟩
 have HJ0 : Hid (ErS L B gr i d e a g2 w (w.alloc (.cells pt0C 122))) := ⟨by rw [← hg2]; exact hrow.new w _ _, h.below hbl, Fr.of_below (F := fun k => k = gr) hbl⟩
 rw [hw0] at HJ0
 have HW0 := Lib.hid hw0; have HG2 := Lib.hid hg2; have HBW : Hid (B ≤ g2) := by unfold Hid; omega
 have HGB := Lib.hid hgB
 have HZ1 : Hid (pt0C.all (·.oneCell') = true) := by unfold Hid pt0C; simp [Value.oneCell']
 clear he h hi hbw hgB hbl hw0 hg2
 unfold ptr
 go_enter Tryz.func77, Tryz.ntmps77
 go_upto_region 2 with (fail)
 unfold pt0C at HW0
 rw [HW0.out, HG2.out]
 go_loopw [3, 4] (fun t3 _ wr => t3 = .slice none 0 0 ∧ Hid (ErS L B gr i d e a g2 w wr)) (fun _ _ _ => 0)
 case atStart => exact ⟨rfl, HJ0.out⟩
 case round =>
  clear HJ0
  obtain ⟨rfl, HJ⟩ := hrel
  have HB := Lib.hid (qbegins_any L B gr i d e a wr HJ.out.q HI.out)
  unfold ptr at HB
  have hb : (decide (e = 0) && bgW L i) = false := by simp [HE.out]
  rw [hb] at HB
  clear hb
  go_wp2_with fail
  refine HB.out.mono ?_
  rintro rr w1 ⟨rfl, hbb⟩
  have HJ1 := Lib.hid (HJ.out.below hbb)
  clear hbb HB HJ
  have HFL := Lib.hid (qfail_any L B gr i d e a w1 HJ1.out.q HI.out 7)
  unfold ptr at HFL
  go_wp2_with fail
  refine HFL.out.mono ?_
  rintro rr w2 ⟨rfl, h1, h2⟩
  rw [if_neg HE.out, if_neg HE.out] at h1
  have HJ2 : Hid (ErS L B gr i d e a g2 w w2) := ⟨HJ1.out.z.fr h2 (fun e => by have := HGB.out; have := HBW.out; omega), h1, HJ1.out.fr.trans h2 (fun _ _ h => h)⟩
  clear h1 h2 HFL HJ1
  go_wp2_with (refine store_partQ rfl (.tmp 2) (.tmp 18) rfl g2 pt0C pt0C rfl rfl HJ2.out.z rfl rfl HZ1.out ?_)
  refine bodyPost_ret (results_partQ rfl _ _ g2 _ _ rfl HJ2.out.z rfl) rfl ?_
  exact ⟨rfl, HJ2.out.fin HG2.out HBW.out _⟩
theorem qalt_err (L : List Wd) (B gr i : Nat) (d : Int) (e a : Nat) (w : World) (he : e ≠ 0) (h : RqW L B gr i d e a w) (hi : i < L.length) :
  Calls Tryz.prog 55 #[ptr gr] w fun r w' => r = .returned (.agg pt0C) ∧ RqW L B gr i d e a w' ∧ Fr (fun k => k = gr) w w' := by
 have HE := Lib.hid he; have HI := Lib.hid hi
 have hbw := h.le
 have hgB := h.lt
 have hbl := (Below.refl w.heap.size w).alloc (Nat.le_refl _) (.cells pt0C 122)
 obtain ⟨w0, hw0⟩ : ∃ x, w.alloc (.cells pt0C 122) = x := ⟨_, rfl⟩
 obtain ⟨g2, hg2⟩ : ∃ g, w.heap.size = g := ⟨_, rfl⟩
 have HJ0 : Hid (ErS L B gr i d e a g2 w (w.alloc (.cells pt0C 122))) := ⟨by rw [← hg2]; exact hrow.new w _ _, h.below hbl, Fr.of_below (F := fun k => k = gr) hbl⟩
 rw [hw0] at HJ0
 have HW0 := Lib.hid hw0; have HG2 := Lib.hid hg2; have HBW : Hid (B ≤ g2) := by unfold Hid; omega
 have HGB := Lib.hid hgB
 have HZ1 : Hid (pt0C.all (·.oneCell') = true) := by unfold Hid pt0C; simp [Value.oneCell']
 have HS := Lib.hid (qseq_err L B gr i d e a w0 he HJ0.out.q hi)
 clear he h hi hbw hgB hbl hw0 hg2
 unfold ptr at HS ⊢
 unfold pt0C at HS
 go_enter Tryz.func55, Tryz.ntmps55
 go_upto_region 1 with (fail)
 unfold pt0C at HW0
 rw [HW0.out, HG2.out]
 go_wp2_with fail
 refine HS.out.mono ?_
 rintro rr w2 ⟨rfl, h1, h2⟩
 have hz2 : hrow w2 g2 pt0C 122 := HJ0.out.z.fr h2 (fun e => by have := HGB.out; have := HBW.out; omega)
 have hJ2 : ErS L B gr i d e a g2 w w2 := ⟨hz2, h1, HJ0.out.fr.trans h2 (fun _ _ h => h)⟩
 have hbl := (Below.refl w2.heap.size w2).alloc (Nat.le_refl _) (.cells #[.int .i64 0, .int .u64 0, .int .u64 0, .int .u64 0, .int .u64 0, .string ⟨#[]⟩, .int .i64 0, .int .i64 0, .slice none 0 0, .int .i64 0, .string ⟨#[]⟩, .slice none 0 0] 122)
 have HJ3 := Lib.hid (hJ2.below hbl)
 have HCC : Hid (∀ j u, #[.int .i64 0, .int .u64 0, .int .u64 0, .int .u64 0, .int .u64 0, .string ⟨#[]⟩, .int .i64 0, .int .i64 0, .slice none 0 0, .int .i64 0, .string ⟨#[]⟩, .slice none 0 0].toList[j]? = some u → (w2.alloc (.cells #[.int .i64 0, .int .u64 0, .int .u64 0, .int .u64 0, .int .u64 0, .string ⟨#[]⟩, .int .i64 0, .int .i64 0, .slice none 0 0, .int .i64 0, .string ⟨#[]⟩, .slice none 0 0] 122)).cell? ((⟨w2.heap.size, 0, none⟩ : Addr).add j) = some u) := cell_row_new w2 _ _
 clear h1 h2 hz2 hJ2 hbl HS HJ0
 go_upto_region 2 with (fail)
 generalize w2.alloc (.cells #[.int .i64 0, .int .u64 0, .int .u64 0, .int .u64 0, .int .u64 0, .string ⟨#[]⟩, .int .i64 0, .int .i64 0, .slice none 0 0, .int .i64 0, .string ⟨#[]⟩, .slice none 0 0] 122) = w3 at HJ3 HCC ⊢
 generalize w2.heap.size = g3 at HCC ⊢
 go_loopw [3, 4] (fun t3 _ wr => t3 = .slice (some ⟨g3, 0, none⟩) 1 1 ∧ Hid (ErS L B gr i d e a g2 w wr) ∧ Hid (∀ j u, #[.int .i64 0, .int .u64 0, .int .u64 0, .int .u64 0, .int .u64 0, .string ⟨#[]⟩, .int .i64 0, .int .i64 0, .slice none 0 0, .int .i64 0, .string ⟨#[]⟩, .slice none 0 0].toList[j]? = some u → wr.cell? ((⟨g3, 0, none⟩ : Addr).add j) = some u)) (fun _ _ _ => 0)
 case atStart => exact ⟨rfl, HJ3.out, HCC.out⟩
 case round =>
  clear HJ3 HCC
  obtain ⟨rfl, HJ, HCC⟩ := hrel
  have HB := Lib.hid (qhere_any L B gr i d e a wr HJ.out.q HI.out [47])
  unfold ptr at HB
  have hb : (decide (e = 0) && hereW L i [47]) = false := by simp [HE.out]
  rw [hb] at HB
  clear hb
  go_wp2_with fail
  refine HB.out.mono ?_
  rintro rr w1 ⟨rfl, hbb⟩
  have HJ1 := Lib.hid (HJ.out.below hbb)
  have HC1 : Hid (∀ j u, #[.int .i64 0, .int .u64 0, .int .u64 0, .int .u64 0, .int .u64 0, .string ⟨#[]⟩, .int .i64 0, .int .i64 0, .slice none 0 0, .int .i64 0, .string ⟨#[]⟩, .slice none 0 0].toList[j]? = some u → w1.cell? ((⟨g3, 0, none⟩ : Addr).add j) = some u) := fun j u hj => (hbb.cell (World.block_lt_of_cell? wr _ (HCC.out j u hj))).trans (HCC.out j u hj)
  clear hbb HB HJ HCC
  go_wp2_with (first | (refine wpList_load_part rfl 122 (.tmp 27) rfl ⟨g3, 0, none⟩ rfl #[.int .i64 0, .int .u64 0, .int .u64 0, .int .u64 0, .int .u64 0, .string ⟨#[]⟩, .int .i64 0, .int .i64 0, .slice none 0 0, .int .i64 0, .string ⟨#[]⟩, .slice none 0 0] _ HC1.out Tryz.underlying122 rfl pq_info ?_) | (refine store_partQ rfl (.tmp 2) (.tmp 28) rfl g2 #[.int .i64 0, .int .u64 0, .int .u64 0, .int .u64 0, .int .u64 0, .string ⟨#[]⟩, .int .i64 0, .int .i64 0, .slice none 0 0, .int .i64 0, .string ⟨#[]⟩, .slice none 0 0] pt0C rfl rfl HJ1.out.z rfl rfl HZ1.out ?_))
  refine bodyPost_ret (results_partQ rfl _ _ g2 _ _ rfl HJ1.out.z rfl) rfl ?_
  exact ⟨rfl, HJ1.out.fin HG2.out HBW.out _⟩
end Go.Proofs.YthfefbmkgebmkaaGreatDoor
