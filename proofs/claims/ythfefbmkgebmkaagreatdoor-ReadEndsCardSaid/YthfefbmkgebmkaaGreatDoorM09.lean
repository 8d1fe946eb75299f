/- Walks and plain laws: Jb Jc Na Nb Nc Jd Je Jf. -/
import Derived.Test.YthfefbmkgebmkaaGreatDoorM08
import Derived.WalkLawsBesides
import Derived.Test.YthfefbmkgebmkaaGreatDoorM02
namespace Go.Proofs.YthfefbmkgebmkaaGreatDoor
open Go.RowKit
set_option maxRecDepth 100000
set_option maxHeartbeats 4000000

theorem results_w1 {fn : Func} {p : Tmp} (h : fn.results = #[.cell p 44]) (tmps : Array Value) (w : World) (g : Nat) (cs : Array Value)
  (hp : tmps.getD p undef = .pointer (some ⟨g, 0, none⟩)) (hg : hrow w g wd0 44) (hs : cs.size = 9) : (results fn tmps).run Tryz.prog (w.setRow g cs) = .ok (.agg cs) (w.setRow g cs) := by
 have hp' : tmps[p]?.getD undef = .pointer (some ⟨g, 0, none⟩) := by simpa using hp
 simp [results, h, hp', asAddr, run_loadVar_row (P := Tryz.prog) (w.setRow g cs) g _ _ cs _ _ (setRow_heap _ _ _ _ _ _ hg) Tryz.underlying44 rfl (wd_sz hs)]
/-- The reader's cells and its word, at any later world. -/
theorem RdW.at {L : List Wd} {B gr i : Nat} {d : Int} {w : World} (h : RdW L B gr i d w) (hi : i < L.length) :
  ∃ ao cap a, hrow w gr #[.slice ao L.length cap, .int .i64 i, .int .i64 d] 61 ∧ ao = some a ∧ (∀ j v, (wdD (wdAt L i)).toList[j]? = some v → w.cell? ((a.add (i * 9)).add j) = some v) ∧ a.block ≠ gr := by
 obtain ⟨⟨ao, cap, h1, h2, h3⟩, h4, h5⟩ := h
 obtain ⟨a, ha, hc⟩ := Sv.at wdD_len h2 (by decide) i hi
 refine ⟨ao, cap, a, h1, ha, ?_, Nat.ne_of_lt (h3 a ha)⟩
 rw [wdAt_in hi]
 exact hc
theorem word_any2 (L : List Wd) (B gr i : Nat) (d : Int) (w : World) (h : RdW L B gr i d w) (hi : i < L.length) :
  Calls Tryz.prog 17 #[ptr gr] w fun e w' => e = .returned (.agg (wdD (wdAt L i))) ∧ Below w.heap.size w w' := by
 obtain ⟨ao, cap, a, hr, rfl, hc, hna⟩ := h.at hi
 have hiI : (i : Int) < L.length := by omega
 unfold ptr wdD wdA at *
 generalize wdAt L i = x at *
 have HC := Lib.hid hc; have HR := Lib.hid hr
 clear hc hr h hi
 go_enter Tryz.func17, Tryz.ntmps17
 go_wp2_with fail
 have hb := (Below.refl _ w).alloc (Nat.le_refl _) (.cells #[.int .i64 0, .int .i64 0, .int .i64 0, .string ⟨#[]⟩, .int .i64 0, .int .u64 0, .int .u64 0, .int .u64 0, .int .u64 0] 44)
 have HW := Lib.hid (show hrow (w.alloc (.cells #[.int .i64 0, .int .i64 0, .int .i64 0, .string ⟨#[]⟩, .int .i64 0, .int .u64 0, .int .u64 0, .int .u64 0, .int .u64 0] 44)) w.heap.size wd0 44 from hrow.new _ _ _)
 have HB := Lib.hid hb
 have HR1 := Lib.hid (HR.out.below hb)
 have HP := Lib.hid (later_all (part_later (fun j v hj => (hb.cell (World.block_lt_of_cell? w _ (HC.out j v hj))).trans (HC.out j v hj))).1)
 clear hb HR HC
 revert HB HW HR1 HP
 generalize w.alloc (.cells #[.int .i64 0, .int .i64 0, .int .i64 0, .string ⟨#[]⟩, .int .i64 0, .int .u64 0, .int .u64 0, .int .u64 0, .int .u64 0] 44) = wb
 intro HW HB HR1 HP
 have c0 : ∀ x : Later wb, x.val.cell? ⟨gr, 0, none⟩ = some (.slice (some a) L.length cap) := fun x => (HR1.out.below x.ok).cell 0
 have c1 : ∀ x : Later wb, x.val.cell? ⟨gr, 1, none⟩ = some (.int .i64 i) := fun x => (HR1.out.below x.ok).cell 1
 refine wp_region_later_tail 10 (by kernel_rfl) (by kernel_rfl) ?_
 simp only [List.take_succ_cons, List.take_zero, List.drop_succ_cons, List.drop_zero]
 repeat (first | go_big_quiet_step (fail) | (refine wpQuiet_load_part rfl 44 (.tmp 11) rfl (a.add (i * 9)) rfl _ HP.out ?_; simp only [Act.put, List.setIfInBounds_toArray, List.set_cons_succ, List.set_cons_zero]))
 refine wpQuiet_nil ?_
 intro w5 hw5
 obtain ⟨y, rfl⟩ := hw5
 have HW5 := Lib.hid (HW.out.below y.ok)
 have HB5 := Lib.hid (HB.out.trans (y.ok.mono HB.out.size))
 clear c0 c1 HP HW HB HR1
 generalize y.val = w5 at *
 clear y
 go_wp2_with (with_reducible refine store_word rfl (.tmp 2) (.tmp 12) rfl w.heap.size _ _ _ _ _ _ _ _ _ rfl rfl HW5.out ?_)
 refine bodyPost_ret (results_w1 rfl _ _ w.heap.size _ rfl HW5.out rfl) rfl ?_
 exact ⟨rfl, below_setRow HB5.out (Nat.le_refl _) _⟩
theorem add_block (a : Addr) (k : Nat) : (a.add k).block = a.block := by unfold Addr.add; split <;> rfl
/-- The reader goes to another word. -/
theorem RdW.moved {L : List Wd} {B gr i j : Nat} {d d' : Int} {w w' : World} (h : RdW L B gr i d w) (hf : Fr (fun k => k = gr) w w') {x0 : Value} (hr : hrow w gr #[x0, .int .i64 i, .int .i64 d] 61) (hr' : hrow w' gr #[x0, .int .i64 j, .int .i64 d'] 61) : RdW L B gr j d' w' := by
 obtain ⟨⟨ao, cap, h1, h2, h3⟩, h4, h5⟩ := h
 have e := h1.h.symm.trans hr.h
 simp only [Option.some.injEq, Obj.cells.injEq, Array.mk.injEq, List.cons.injEq, and_true] at e
 obtain ⟨rfl, _⟩ := e
 exact ⟨⟨ao, cap, hr', h2.fr hf (fun a ha _ e => Nat.ne_of_lt (h3 a ha) e), h3⟩, h4, Nat.le_trans h5 hf.size⟩
theorem take_any (L : List Wd) (B gr i : Nat) (d : Int) (w : World) (h : RdW L B gr i d w) (hi : i < L.length) (hL : L.length ≤ 100000) :
  Calls Tryz.prog 33 #[ptr gr] w fun e w' => e = .returned (.agg (wdD (wdAt L i))) ∧ RdW L B gr (i + 1) d w' ∧ Fr (fun k => k = gr) w w' := by
 have HH := Lib.hid h
 obtain ⟨ao, cap, a, hr, rfl, hc, hna⟩ := h.at hi
 have hiI : (i : Int) < L.length := by omega
 unfold ptr wdD wdA at *
 generalize wdAt L i = x at *
 have HC := Lib.hid hc; have HR := Lib.hid hr; have HI := Lib.hid hi; have HL := Lib.hid hL
 have HNA := Lib.hid hna
 clear hc hr h hi hL hna
 go_enter Tryz.func33, Tryz.ntmps33
 go_upto_region 1 with (fail)
 have hb := (Below.refl _ w).alloc (Nat.le_refl _) (.cells #[.int .i64 0, .int .i64 0, .int .i64 0, .string ⟨#[]⟩, .int .i64 0, .int .u64 0, .int .u64 0, .int .u64 0, .int .u64 0] 44)
 have HW := Lib.hid (show hrow (w.alloc (.cells #[.int .i64 0, .int .i64 0, .int .i64 0, .string ⟨#[]⟩, .int .i64 0, .int .u64 0, .int .u64 0, .int .u64 0, .int .u64 0] 44)) w.heap.size wd0 44 from hrow.new _ _ _)
 have HB := Lib.hid hb
 have HR1 := Lib.hid (HR.out.below hb)
 have HP := Lib.hid (fun j v hj => (hb.cell (World.block_lt_of_cell? w _ (HC.out j v hj))).trans (HC.out j v hj))
 have HNE : Hid (gr < w.heap.size) := HR.out.lt
 clear hb HC
 revert HB HW HR1 HP
 generalize w.alloc (.cells #[.int .i64 0, .int .i64 0, .int .i64 0, .string ⟨#[]⟩, .int .i64 0, .int .u64 0, .int .u64 0, .int .u64 0, .int .u64 0] 44) = wb
 intro HW HB HR1 HP
 obtain ⟨c0, c1, _⟩ := HR1.out.c3
 obtain ⟨f0, f1, _⟩ := HR1.out.f3
 have hLI : (i : Int) + 1 ≤ 100000 := by have := HI.out; have := HL.out; omega
 have HC1 : Hid (∀ j v, (#[.int .i64 x.kind, .int .i64 x.at_, .int .i64 x.nx, .string (tx x.tx), .int .i64 x.lv, .int .u64 (clsW x.cl 0), .int .u64 (clsW x.cl 1), .int .u64 (clsW x.cl 2), .int .u64 (clsW x.cl 3)] : Array Value).toList[j]? = some v → wb.cell? ((a.add (i * 9)).add j) = some v) := HP.out
 go_wp2_with fail
 have hf := Fr.setCell wb ⟨gr, 1, none⟩ (.int .i64 ((i : Int) + 1))
 have HR2 := Lib.hid (show hrow (wb.setCell ⟨gr, 1, none⟩ (.int .i64 ((i : Int) + 1))) gr #[.slice (some a) L.length cap, .int .i64 ((i : Int) + 1), .int .i64 d] 61 from HR1.out.setCell 1 _)
 have HW2 := Lib.hid (HW.out.fr hf (fun e => Nat.ne_of_gt HNE.out e))
 have HP2 := Lib.hid (later_all (part_later (wx := wb.setCell ⟨gr, 1, none⟩ (.int .i64 ((i : Int) + 1))) (fun j v hj => (World.cell?_of_block (hf.block _ (World.block_lt_of_cell? wb _ (HC1.out j v hj)) (by simp only [add_block]; exact HNA.out))).trans (HC1.out j v hj))).1)
 have HF2 : Hid (Fr (fun k => k = gr) w (wb.setCell ⟨gr, 1, none⟩ (.int .i64 ((i : Int) + 1)))) := (Fr.of_below HB.out).trans hf (fun _ _ h => h)
 clear hf HW HB HR1 HP HC1 c0 c1 f0 f1
 revert HR2 HW2 HP2 HF2
 generalize wb.setCell ⟨gr, 1, none⟩ (.int .i64 ((i : Int) + 1)) = wc
 intro HR2 HW2 HP2 HF2
 have c0 : ∀ x : Later wc, x.val.cell? ⟨gr, 0, none⟩ = some (.slice (some a) L.length cap) := fun x => (HR2.out.below x.ok).cell 0
 have c1 : ∀ x : Later wc, x.val.cell? ⟨gr, 1, none⟩ = some (.int .i64 ((i : Int) + 1)) := fun x => (HR2.out.below x.ok).cell 1
 refine wp_region_later_tail 11 (by kernel_rfl) (by kernel_rfl) ?_
 simp only [List.take_succ_cons, List.take_zero, List.drop_succ_cons, List.drop_zero]
 repeat (first | go_big_quiet_step (fail) | (refine wpQuiet_load_part rfl 44 (.tmp 19) rfl (a.add (i * 9)) rfl _ HP2.out ?_; simp only [Act.put, List.setIfInBounds_toArray, List.set_cons_succ, List.set_cons_zero]))
 refine wpQuiet_nil ?_
 intro w5 hw5
 obtain ⟨y, rfl⟩ := hw5
 have HW5 := Lib.hid (HW2.out.below y.ok)
 have HF5 := Lib.hid (HF2.out.trans (Fr.of_below (F := fun k => k = gr) y.ok) (fun _ _ h => h))
 have HR5 := Lib.hid (HR2.out.below y.ok)
 clear c0 c1 HP2 HW2 HF2 HR2
 generalize y.val = w5 at *
 clear y
 go_wp2_with (with_reducible refine store_word rfl (.tmp 2) (.tmp 20) rfl w.heap.size _ _ _ _ _ _ _ _ _ rfl rfl HW5.out ?_)
 refine bodyPost_ret (results_w1 rfl _ _ w.heap.size _ rfl HW5.out rfl) rfl ?_
 have hF := HF5.out.trans (Fr.setRow w5 w.heap.size #[.int .i64 x.kind, .int .i64 x.at_, .int .i64 x.nx, .string (tx x.tx), .int .i64 x.lv, .int .u64 (clsW x.cl 0), .int .u64 (clsW x.cl 1), .int .u64 (clsW x.cl 2), .int .u64 (clsW x.cl 3)]) (fun k hk e => absurd hk (by omega))
 exact ⟨rfl, HH.out.moved hF HR.out (by have h1 := HR5.out.setOther (cs' := #[.int .i64 x.kind, .int .i64 x.at_, .int .i64 x.nx, .string (tx x.tx), .int .i64 x.lv, .int .u64 (clsW x.cl 0), .int .u64 (clsW x.cl 1), .int .u64 (clsW x.cl 2), .int .u64 (clsW x.cl 3)]) (show gr ≠ w.heap.size by have := HNE.out; omega); exact h1), hF⟩
/-- A panic of the reader's. -/
def badE (e a : Nat) : Ending := .panicked [{ v := .iface 33 (.agg #[.int .i64 e, .int .i64 a]), recovered := false }]
theorem wfld (x0 x1 x2 x3 x4 x5 x6 x7 x8 : Value) (w : World) : (Instr.field 44 (.agg #[x0, x1, x2, x3, x4, x5, x6, x7, x8]) 1).run Tryz.prog w = .ok x1 w := by kernel_rfl
theorem fail_any (L : List Wd) (B gr i : Nat) (d : Int) (w : World) (h : RdW L B gr i d w) (hi : i < L.length) (e0 : Nat) :
  Calls Tryz.prog 32 #[ptr gr, .int .i64 e0] w fun e w' => e = badE e0 (wdAt L i).at_ ∧ Below w.heap.size w w' := by
 have HW := Lib.hid (word_any2 L B gr i d w h hi)
 clear h hi
 unfold ptr wdD wdA badE at *
 go_enter Tryz.func32, Tryz.ntmps32
 go_wp2_with fail
 refine HW.out.mono ?_
 rintro e w1 ⟨rfl, hb⟩
 have HB := Lib.hid hb; clear hb HW
 have hfd := wfld
 go_wp2_with fail
 exact ⟨rfl, rfl, HB.out⟩
end Go.Proofs.YthfefbmkgebmkaaGreatDoor
namespace Go.Proofs.YthfefbmkgebmkaaGreatDoor
open Go.RowKit
set_option maxRecDepth 100000
set_option maxHeartbeats 4000000

theorem Sv.str {w : World} {ao : Option Addr} {n cap : Nat} {S : List ByteArray} (h : Sv w ao n cap 1 (S.map Value.string)) (k : Nat) (hk : k < S.length) : ∃ a, ao = some a ∧ w.cell? (a.add k) = some (.string S[k]) := by
 obtain ⟨a, ha, hc⟩ := h.cell k (by simpa using hk)
 exact ⟨a, ha, by rw [hc]; simp [hk]⟩
theorem Sv.str_len {w : World} {ao : Option Addr} {n cap : Nat} {S : List ByteArray} (h : Sv w ao n cap 1 (S.map Value.string)) : S.length = n := by
 have := h.len; simpa using this
theorem ba_beq (x y : ByteArray) : (x.toList == y.toList) = decide (x = y) := by
 by_cases h : x = y
 ·subst h; simp
 ·have : x.toList ≠ y.toList := fun e => h (by rw [ba_toList, ba_toList] at e; cases x; cases y; simp at e; simp [e])
  simp [this, h]
theorem index_any (w : World) (ao : Option Addr) (n cap : Nat) (S : List ByteArray) (v : ByteArray) (hs : Sv w ao n cap 1 (S.map Value.string)) :
  Calls Tryz.prog 93 #[.slice ao n cap, .string v] w fun e w' => ∃ r : Int, e = .returned (.int .i64 r) ∧ (decide (0 ≤ r) = S.any (fun s => decide (v = s))) ∧ Below w.heap.size w w' := by
 obtain ⟨h1, h2⟩ := hs.bound
 have hl := hs.str_len
 have HA := Lib.hid hs; have HL := Lib.hid hl
 clear hs hl
 go_enter Tryz.func93, Tryz.ntmps93
 go_wp2_with fail
 go_loopw [8] (fun i wr => ∃ k : Nat, k ≤ n ∧ i = .int .i64 k ∧ Hid (Below w.heap.size w wr) ∧ Hid (v ∉ S.take k)) (fun i _ => n - (intOf i).toNat)
 case atStart => exact ⟨0, by omega, rfl, Below.refl _ _, by unfold Hid; simp⟩
 case round =>
  obtain ⟨k, hk, rfl, HBr, HN⟩ := hrel
  by_cases hlt : k < n
  ·have hlt' : (k : Int) < n := by omega
   have hkl : k < S.length := by have := HL.out; omega
   obtain ⟨a, rfl, a0⟩ := (HA.out.below HBr.out).str k hkl
   have HT : Hid (S.take (k + 1) = S.take k ++ [S[k]]) := by unfold Hid; rw [List.take_append_getElem hkl]
   have HM : Hid (S[k] ∈ S) := List.getElem_mem hkl
   generalize S[k] = x at *
   clear hkl
   have hq := ba_beq v x
   by_cases hv : v = x
   ·have hqt : (v.toList == x.toList) = true := by rw [hq]; simpa using hv
    have HV := Lib.hid hv; clear hv hq
    go_wp2_with fail
    go_ret
    exact ⟨k, rfl, by rw [show S.any (fun s => decide (v = s)) = true from List.any_eq_true.2 ⟨x, HM.out, by simpa using HV.out⟩]; simp, HBr.out⟩
   ·have hqt : (v.toList == x.toList) = false := by rw [hq]; simpa using hv
    have HV := Lib.hid hv; clear hv hq
    go_wp2_with fail
    go_roundw
    case rel => exact ⟨k + 1, by omega, by go_num, HBr.out, by unfold Hid; rw [HT.out]; have := HN.out; have := HV.out; simp [*]⟩
    case measure => simp [intOf]; omega
  ·have hge : (n : Int) ≤ k := by omega
   have hkn : k = n := by omega
   go_wp2_with fail
   go_ret
   exact ⟨-1, rfl, by have h := HN.out; rw [hkn, List.take_of_length_le (by have := HL.out; omega)] at h; rw [show S.any (fun s => decide (v = s)) = false from by rw [List.any_eq_false]; intro y hy e; exact h ((show v = y by simpa using e) ▸ hy)]; rfl, HBr.out⟩
theorem contains_any (w : World) (ao : Option Addr) (n cap : Nat) (S : List ByteArray) (v : ByteArray) (hs : Sv w ao n cap 1 (S.map Value.string)) :
  Calls Tryz.prog 78 #[.slice ao n cap, .string v] w fun e w' => e = .returned (.bool (S.any (fun s => decide (v = s)))) ∧ Below w.heap.size w w' := by
 have HX := Lib.hid (index_any w ao n cap S v hs)
 clear hs
 go_enter Tryz.func78, Tryz.ntmps78
 go_wp2_with fail
 refine HX.out.mono ?_
 rintro e w1 ⟨r, rfl, hr, hb⟩
 have HR := Lib.hid hr; have HB := Lib.hid hb; clear hr hb HX
 go_wp2_with fail
 go_ret
 exact ⟨ret_bool HR.out, HB.out⟩
theorem tx_inj {a b : List UInt8} (h : tx a = tx b) : a = b := by
 have := congrArg (fun x => x.data.toList) h
 simpa [tx_list] using this
theorem rhere_any (L : List Wd) (B gr i : Nat) (d : Int) (w : World) (h : RdW L B gr i d w) (hi : i < L.length) (S : List (List UInt8)) (ao : Option Addr) (n cap : Nat) (hs : Sv w ao n cap 1 ((S.map tx).map Value.string)) :
  Calls Tryz.prog 62 #[ptr gr, .slice ao n cap] w fun e w' => e = .returned (.bool (S.any fun s => hereW L i s)) ∧ Below w.heap.size w w' := by
 have HW := Lib.hid (word_any2 L B gr i d w h hi)
 have HR : Hid ((S.any fun s => hereW L i s) = ((wdAt L i).kind == 5 && (S.map tx).any (fun s => decide (tx (wdAt L i).tx = s)))) := by
  unfold Hid hereW
  by_cases hk : (wdAt L i).kind = 5
  ·rw [hk]
   simp only [beq_self_eq_true, Bool.true_and]
   rw [Bool.eq_iff_iff, List.any_eq_true, List.any_eq_true]
   constructor
   ·rintro ⟨s, h1, h2⟩; exact ⟨tx s, List.mem_map_of_mem h1, by rw [beq_iff_eq.1 h2]; simp⟩
   ·rintro ⟨s, h1, h2⟩
    obtain ⟨t, h3, rfl⟩ := List.mem_map.1 h1
    exact ⟨t, h3, beq_iff_eq.2 (tx_inj (of_decide_eq_true h2))⟩
  ·have : ((wdAt L i).kind == 5) = false := by simpa using hk
   simp only [this, Bool.false_and]
   simp
 have HC := Lib.hid (fun (x : World) (hx : Below w.heap.size w x) => contains_any x ao n cap (S.map tx) (tx (wdAt L i).tx) (hs.below hx))
 generalize (S.any fun s => hereW L i s) = bb at *
 clear h hi hs
 unfold ptr wdD wdA at *
 generalize wdAt L i = x at *
 generalize hcc : (S.map tx).any (fun s => decide (tx x.tx = s)) = cc at *
 have HR0 := HR
 clear hcc HR
 go_enter Tryz.func62, Tryz.ntmps62
 go_wp2_with fail
 refine HW.out.mono ?_
 rintro e w1 ⟨rfl, hb⟩
 have hb2 := hb.alloc hb.size (.cells #[.int .i64 x.kind, .int .i64 x.at_, .int .i64 x.nx, .string (tx x.tx), .int .i64 x.lv, .int .u64 (clsW x.cl 0), .int .u64 (clsW x.cl 1), .int .u64 (clsW x.cl 2), .int .u64 (clsW x.cl 3)] 44)
 have HR := Lib.hid (hrow.new w1 #[.int .i64 x.kind, .int .i64 x.at_, .int .i64 x.nx, .string (tx x.tx), .int .i64 x.lv, .int .u64 (clsW x.cl 0), .int .u64 (clsW x.cl 1), .int .u64 (clsW x.cl 2), .int .u64 (clsW x.cl 3)] 44)
 have HB := Lib.hid hb2
 clear hb hb2 HW
 go_upto_region 2 with (fail)
 revert HR HB
 generalize w1.alloc (.cells #[.int .i64 x.kind, .int .i64 x.at_, .int .i64 x.nx, .string (tx x.tx), .int .i64 x.lv, .int .u64 (clsW x.cl 0), .int .u64 (clsW x.cl 1), .int .u64 (clsW x.cl 2), .int .u64 (clsW x.cl 3)] 44) = w2
 generalize w1.heap.size = g2
 intro HR HB
 obtain ⟨c0, _, _, c3, _⟩ := HR.out.c9
 by_cases hk : x.kind = 5
 ·have hkI : ((x.kind : Int) == 5) = true := by rw [hk]; rfl
  have HCx := Lib.hid (HC.out w2 HB.out)
  have HBB : Hid (bb = cc) := by unfold Hid; rw [HR0.out, hk]; rfl
  clear hk HC HR0
  go_wp2_with fail
  refine HCx.out.mono ?_
  rintro e w3 ⟨rfl, hb3⟩
  have HB3 := Lib.hid (HB.out.trans (hb3.mono HB.out.size))
  clear hb3 HCx
  go_wp2_with fail
  go_ret
  exact ⟨ret_bool HBB.out.symm, HB3.out⟩
 ·have hkI : ((x.kind : Int) == 5) = false := by simpa using (by omega : ¬ (x.kind : Int) = 5)
  have HBB : Hid (bb = false) := by unfold Hid; rw [HR0.out, show (x.kind == 5) = false by simpa using hk]; rfl
  clear hk HC HR0
  go_wp2_with fail
  go_ret
  exact ⟨ret_bool HBB.out.symm, HB.out⟩
end Go.Proofs.YthfefbmkgebmkaaGreatDoor
namespace Go.Proofs.YthfefbmkgebmkaaGreatDoor
open Go.RowKit

structure Nd where
 kind : Int
 c0 : Int
 c1 : Int
 c2 : Int
 c3 : Int
 text : ByteArray
 rule : Int
 lev : Int
 kids : List Int
structure Ru where
 name : ByteArray
 body : Int
structure Gr where
 rules : List Ru
 nodes : List Nd
def bt (w : List Int) (p : Nat) : Int := w.getD p (-1)
theorem bt_get {l : List Int} {p : Nat} (h : p < l.length) : l[p] = bt l p := by simp [bt, List.getD_eq_getElem?_getD, h]
theorem Sv.n_eq {α : Type} {f : α → List Value} {s : Nat} (hf : ∀ x, (f x).length = s) (hs : 0 < s) {w : World} {ao : Option Addr} {n cap : Nat} {l : List α} (h : Sv w ao n cap s (l.flatMap f)) : l.length = n := by
 have := h.len
 rw [fl_len hf] at this
 exact Nat.eq_of_mul_eq_mul_right hs this
def inc (l : List Int) : List Value := l.map fun c => .int .i64 c
def ruc (r : Ru) : List Value := [.string r.name, .int .i64 r.body]
def ndc (p : Nd × (Option Addr × Nat)) : List Value := [.int .i64 p.1.kind, .int .u64 p.1.c0, .int .u64 p.1.c1, .int .u64 p.1.c2, .int .u64 p.1.c3, .string p.1.text, .int .i64 p.1.rule, .int .i64 p.1.lev, .slice p.2.1 p.1.kids.length p.2.2]
theorem ruc_len (r : Ru) : (ruc r).length = 2 := rfl
theorem ndc_len (p : Nd × (Option Addr × Nat)) : (ndc p).length = 9 := rfl

/-- The nodes, each with the place of its kids. -/
structure NdW (w : World) (no : Option Addr) (nn nc : Nat) (NK : List (Nd × (Option Addr × Nat))) : Prop where
 sv : Sv w no nn nc 9 (NK.flatMap ndc)
 kids : ∀ p ∈ NK, Sv w p.2.1 p.1.kids.length p.2.2 1 (inc p.1.kids)
 txt : ∀ p ∈ NK, p.1.text.size ≤ 9223372036854775807
structure GrW (w : World) (ro : Option Addr) (rn rc : Nat) (no : Option Addr) (nn nc : Nat) (NK : List (Nd × (Option Addr × Nat))) (G : Gr) : Prop where
 rul : Sv w ro rn rc 2 (G.rules.flatMap ruc)
 nam : ∀ r ∈ G.rules, r.name.size ≤ 9223372036854775807
 nod : NdW w no nn nc NK
 eq : NK.map (·.1) = G.nodes
def grv (ro : Option Addr) (rn rc : Nat) (no : Option Addr) (nn nc : Nat) : Value := .agg #[.slice ro rn rc, .slice no nn nc]
theorem NdW.below {w w' : World} {no : Option Addr} {nn nc : Nat} {NK : List (Nd × (Option Addr × Nat))} (h : NdW w no nn nc NK) (hb : Below w.heap.size w w') : NdW w' no nn nc NK :=
 ⟨h.sv.below hb, fun p hp => (h.kids p hp).below hb, h.txt⟩
theorem GrW.below {w w' : World} {ro : Option Addr} {rn rc : Nat} {no : Option Addr} {nn nc : Nat} {NK : List (Nd × (Option Addr × Nat))} {G : Gr} (h : GrW w ro rn rc no nn nc NK G) (hb : Below w.heap.size w w') : GrW w' ro rn rc no nn nc NK G :=
 ⟨h.rul.below hb, h.nam, h.nod.below hb, h.eq⟩
theorem inc_len (l : List Int) : (inc l).length = l.length := by simp [inc]
theorem Sv.intc {w : World} {ao : Option Addr} {n cap : Nat} {l : List Int} (h : Sv w ao n cap 1 (inc l)) (k : Nat) (hk : k < l.length) : ∃ a, ao = some a ∧ w.cell? (a.add k) = some (.int .i64 (bt l k)) := by
 obtain ⟨a, ha, hc⟩ := h.cell k (by rw [inc_len]; exact hk)
 exact ⟨a, ha, by rw [hc]; simp [inc, hk, bt_get hk]⟩
theorem Sv.int_len {w : World} {ao : Option Addr} {n cap : Nat} {l : List Int} (h : Sv w ao n cap 1 (inc l)) : l.length = n := by
 have := h.len; rw [inc_len] at this; omega
theorem Sv.ru2 {w : World} {ao : Option Addr} {n cap : Nat} {t : List Ru} (h : Sv w ao n cap 2 (t.flatMap ruc)) {k : Nat} (hk : k < t.length) :
  ∃ a, ao = some a ∧ w.cell? (a.add (k * 2)) = some (.string t[k].name) ∧ w.cell? ⟨(a.add (k * 2)).block, (a.add (k * 2)).off + 1, none⟩ = some (.int .i64 t[k].body) := by
 obtain ⟨a, ha, hc⟩ := h.at ruc_len (by decide) k hk
 refine ⟨a, ha, hc 0 _ rfl, ?_⟩
 have := hc 1 _ rfl
 rw [add_off _ _ _ (by decide)] at this
 exact this

theorem Sv.nd9 {w : World} {ao : Option Addr} {n cap : Nat} {t : List (Nd × (Option Addr × Nat))} (h : Sv w ao n cap 9 (t.flatMap ndc)) {k : Nat} (hk : k < t.length) :
  ∃ a, ao = some a ∧ w.cell? (a.add (k * 9)) = some (.int .i64 t[k].1.kind) ∧ w.cell? ⟨(a.add (k * 9)).block, (a.add (k * 9)).off + 1, none⟩ = some (.int .u64 t[k].1.c0) ∧ w.cell? ⟨(a.add (k * 9)).block, (a.add (k * 9)).off + 2, none⟩ = some (.int .u64 t[k].1.c1) ∧ w.cell? ⟨(a.add (k * 9)).block, (a.add (k * 9)).off + 3, none⟩ = some (.int .u64 t[k].1.c2) ∧ w.cell? ⟨(a.add (k * 9)).block, (a.add (k * 9)).off + 4, none⟩ = some (.int .u64 t[k].1.c3) ∧ w.cell? ⟨(a.add (k * 9)).block, (a.add (k * 9)).off + 5, none⟩ = some (.string t[k].1.text) ∧ w.cell? ⟨(a.add (k * 9)).block, (a.add (k * 9)).off + 6, none⟩ = some (.int .i64 t[k].1.rule) ∧ w.cell? ⟨(a.add (k * 9)).block, (a.add (k * 9)).off + 7, none⟩ = some (.int .i64 t[k].1.lev) ∧ w.cell? ⟨(a.add (k * 9)).block, (a.add (k * 9)).off + 8, none⟩ = some (.slice t[k].2.1 t[k].1.kids.length t[k].2.2) := by
 obtain ⟨a, ha, hc⟩ := h.at ndc_len (by decide) k hk
 refine ⟨a, ha, hc 0 _ rfl, ?_, ?_, ?_, ?_, ?_, ?_, ?_, ?_⟩
 ·have := hc 1 _ rfl; rw [add_off _ _ _ (by decide)] at this; exact this
 ·have := hc 2 _ rfl; rw [add_off _ _ _ (by decide)] at this; exact this
 ·have := hc 3 _ rfl; rw [add_off _ _ _ (by decide)] at this; exact this
 ·have := hc 4 _ rfl; rw [add_off _ _ _ (by decide)] at this; exact this
 ·have := hc 5 _ rfl; rw [add_off _ _ _ (by decide)] at this; exact this
 ·have := hc 6 _ rfl; rw [add_off _ _ _ (by decide)] at this; exact this
 ·have := hc 7 _ rfl; rw [add_off _ _ _ (by decide)] at this; exact this
 ·have := hc 8 _ rfl; rw [add_off _ _ _ (by decide)] at this; exact this

end Go.Proofs.YthfefbmkgebmkaaGreatDoor
namespace Go.Proofs.YthfefbmkgebmkaaGreatDoor
open Go.RowKit
set_option maxRecDepth 100000
set_option maxHeartbeats 2000000

theorem sameIn_any (w : World) (ao bo : Option Addr) (n ac bc : Nat) (t : List Int) (ha : Sv w ao n ac 1 (inc t)) (hb : Sv w bo n bc 1 (inc t)) :
  Calls Tryz.prog 57 #[.slice ao n ac, .slice bo n bc] w fun r w' => r = .returned (.bool true) ∧ Below w.heap.size w w' := by
 obtain ⟨h1, h2⟩ := ha.bound
 obtain ⟨h3, h4⟩ := hb.bound
 have hl := ha.int_len
 have HA := Lib.hid ha; have HB := Lib.hid hb; have HL := Lib.hid hl
 clear ha hb hl
 go_enter Tryz.func57, Tryz.ntmps57
 go_wp2_with fail
 go_loopw [5] (fun i wr => ∃ k : Nat, k ≤ n ∧ i = .int .i64 k ∧ Hid (Below w.heap.size w wr)) (fun i _ => n - (intOf i).toNat)
 case atStart => exact ⟨0, by omega, rfl, Below.refl _ _⟩
 case round =>
  obtain ⟨k, hk, rfl, HBr⟩ := hrel
  by_cases hlt : k < n
  ·have hlt' : (k : Int) < n := by omega
   have hkl : k < t.length := by have := HL.out; omega
   obtain ⟨a, rfl, a0⟩ := (HA.out.below HBr.out).intc k hkl
   obtain ⟨b, rfl, b0⟩ := (HB.out.below HBr.out).intc k hkl
   generalize bt t k = x at *
   clear hkl
   go_wp2_with fail
   go_quiet (fail)
   go_wp2_with fail
   go_roundw
   case rel => exact ⟨k + 1, by omega, by go_num, HBr.out.trans (below_drewN (Below.refl _ _) _ |>.mono HBr.out.size)⟩
   case measure => simp [intOf]; omega
  ·have hge : (n : Int) ≤ k := by omega
   go_wp2_with fail
   go_ret
   exact ⟨rfl, HBr.out⟩
theorem sameRu_any (w : World) (ao bo : Option Addr) (n ac bc : Nat) (t : List Ru) (ha : Sv w ao n ac 2 (t.flatMap ruc)) (hb : Sv w bo n bc 2 (t.flatMap ruc)) :
  Calls Tryz.prog 26 #[.slice ao n ac, .slice bo n bc] w fun r w' => r = .returned (.bool true) ∧ Below w.heap.size w w' := by
 obtain ⟨h1, h2⟩ := ha.bound
 obtain ⟨h3, h4⟩ := hb.bound
 have hl := ha.n_eq ruc_len (by decide)
 have HA := Lib.hid ha; have HB := Lib.hid hb; have HL := Lib.hid hl
 clear ha hb hl
 go_enter Tryz.func26, Tryz.ntmps26
 go_wp2_with fail
 go_loopw [5] (fun i wr => ∃ k : Nat, k ≤ n ∧ i = .int .i64 k ∧ Hid (Below w.heap.size w wr)) (fun i _ => n - (intOf i).toNat)
 case atStart => exact ⟨0, by omega, rfl, Below.refl _ _⟩
 case round =>
  obtain ⟨k, hk, rfl, HBr⟩ := hrel
  by_cases hlt : k < n
  ·have hlt' : (k : Int) < n := by omega
   have hkl : k < t.length := by have := HL.out; omega
   obtain ⟨a, rfl, a0, a1⟩ := (HA.out.below HBr.out).ru2 hkl
   obtain ⟨b, rfl, b0, b1⟩ := (HB.out.below HBr.out).ru2 hkl
   generalize t[k] = x at *
   obtain ⟨x1, x2⟩ := x
   simp only [] at a0 a1 b0 b1
   clear hkl
   go_wp2_with fail
   go_quiet (fail)
   go_wp2_with fail
   go_roundw
   case rel => exact ⟨k + 1, by omega, by go_num, HBr.out.trans (below_drewN (Below.refl _ _) _ |>.mono HBr.out.size)⟩
   case measure => simp [intOf]; omega
  ·have hge : (n : Int) ≤ k := by omega
   go_wp2_with fail
   go_ret
   exact ⟨rfl, HBr.out⟩

end Go.Proofs.YthfefbmkgebmkaaGreatDoor
namespace Go.Proofs.YthfefbmkgebmkaaGreatDoor
open Go.RowKit
set_option maxRecDepth 100000
set_option maxHeartbeats 2000000

theorem al1 {a w : World} (h : Below a.heap.size a w) (o : Obj) : Below a.heap.size a (w.alloc o) := h.alloc h.size o
theorem al2 {a w : World} (h : Below a.heap.size a w) (o o' : Obj) : Below a.heap.size a ((w.alloc o).alloc o') := al1 (al1 h o) o'
theorem sameNo_any (w : World) (x : Nd) (ao bo : Option Addr) (ac bc : Nat) (ha : Sv w ao x.kids.length ac 1 (inc x.kids)) (hb : Sv w bo x.kids.length bc 1 (inc x.kids)) :
  Calls Tryz.prog 51 #[.agg #[.int .i64 x.kind, .int .u64 x.c0, .int .u64 x.c1, .int .u64 x.c2, .int .u64 x.c3, .string x.text, .int .i64 x.rule, .int .i64 x.lev, .slice ao x.kids.length ac], .agg #[.int .i64 x.kind, .int .u64 x.c0, .int .u64 x.c1, .int .u64 x.c2, .int .u64 x.c3, .string x.text, .int .i64 x.rule, .int .i64 x.lev, .slice bo x.kids.length bc]] w fun r w' => r = .returned (.bool true) ∧ Below w.heap.size w w' := by
 have HS := Lib.hid (fun w' (hw : Below w.heap.size w w') => sameIn_any w' ao bo x.kids.length ac bc x.kids (ha.below hw) (hb.below hw))
 have HB0 := Lib.hid (al2 (Below.refl w.heap.size w) (.cells #[.int .i64 x.kind, .int .u64 x.c0, .int .u64 x.c1, .int .u64 x.c2, .int .u64 x.c3, .string x.text, .int .i64 x.rule, .int .i64 x.lev, .slice ao x.kids.length ac] 41) (.cells #[.int .i64 x.kind, .int .u64 x.c0, .int .u64 x.c1, .int .u64 x.c2, .int .u64 x.c3, .string x.text, .int .i64 x.rule, .int .i64 x.lev, .slice bo x.kids.length bc] 41))
 have HA0 := Lib.hid ((hrow.new w #[.int .i64 x.kind, .int .u64 x.c0, .int .u64 x.c1, .int .u64 x.c2, .int .u64 x.c3, .string x.text, .int .i64 x.rule, .int .i64 x.lev, .slice ao x.kids.length ac] 41).below ((Below.refl _ _).alloc (Nat.le_refl _) (.cells #[.int .i64 x.kind, .int .u64 x.c0, .int .u64 x.c1, .int .u64 x.c2, .int .u64 x.c3, .string x.text, .int .i64 x.rule, .int .i64 x.lev, .slice bo x.kids.length bc] 41)))
 have HZ0 : Hid (hrow ((w.alloc (.cells #[.int .i64 x.kind, .int .u64 x.c0, .int .u64 x.c1, .int .u64 x.c2, .int .u64 x.c3, .string x.text, .int .i64 x.rule, .int .i64 x.lev, .slice ao x.kids.length ac] 41)).alloc (.cells #[.int .i64 x.kind, .int .u64 x.c0, .int .u64 x.c1, .int .u64 x.c2, .int .u64 x.c3, .string x.text, .int .i64 x.rule, .int .i64 x.lev, .slice bo x.kids.length bc] 41)) (w.heap.size + 1) #[.int .i64 x.kind, .int .u64 x.c0, .int .u64 x.c1, .int .u64 x.c2, .int .u64 x.c3, .string x.text, .int .i64 x.rule, .int .i64 x.lev, .slice bo x.kids.length bc] 41) := by have h := hrow.new (w.alloc (.cells #[.int .i64 x.kind, .int .u64 x.c0, .int .u64 x.c1, .int .u64 x.c2, .int .u64 x.c3, .string x.text, .int .i64 x.rule, .int .i64 x.lev, .slice ao x.kids.length ac] 41)) #[.int .i64 x.kind, .int .u64 x.c0, .int .u64 x.c1, .int .u64 x.c2, .int .u64 x.c3, .string x.text, .int .i64 x.rule, .int .i64 x.lev, .slice bo x.kids.length bc] 41; rwa [World.size_alloc] at h
 clear ha hb
 go_enter Tryz.func51, Tryz.ntmps51
 go_upto_region 1 with (fail)
 revert HB0 HA0 HZ0
 generalize (w.alloc _).alloc _ = w1
 generalize hh : w.heap.size + 1 = h1
 intro HB0 HA0 HZ0
 have HS1 := Lib.hid (HS.out w1 HB0.out)
 obtain ⟨a0, a1, a2, a3, a4, a5, a6, a7, a8⟩ := (HA0.out).c9
 obtain ⟨b0, b1, b2, b3, b4, b5, b6, b7, b8⟩ := (HZ0.out).c9
 obtain ⟨kind, c0, c1, c2, c3, text, rule, lev, kids⟩ := x
 simp only [] at a0 a1 a2 a3 a4 a5 a6 a7 a8 b0 b1 b2 b3 b4 b5 b6 b7 b8 HS1
 have hce : ∀ w : World, (Op.equalIn 10000 39 (.agg #[.int .u64 c0, .int .u64 c1, .int .u64 c2, .int .u64 c3]) (.agg #[.int .u64 c0, .int .u64 c1, .int .u64 c2, .int .u64 c3])).run Tryz.prog w = .ok true w := fun w => by rw [cls_eq]; simp
 have he1 : (kind == kind) = true := by simp
 have he2 : (text.toList == text.toList) = true := by simp
 have he3 : (rule == rule) = true := by simp
 have he4 : (lev == lev) = true := by simp
 go_wp2_with fail
 refine (HS1.out).mono ?_
 rintro e w2 ⟨rfl, hb2⟩
 have HB2 := Lib.hid (HB0.out.trans (hb2.mono HB0.out.size))
 clear hb2
 go_wp2_with fail
 go_ret
 exact ⟨rfl, HB2.out⟩
theorem sameNs_any (w : World) (ao bo : Option Addr) (n ac bc : Nat) (s t : List (Nd × (Option Addr × Nat))) (ha : NdW w ao n ac s) (hb : NdW w bo n bc t) (he : s.map (·.1) = t.map (·.1)) :
  Calls Tryz.prog 27 #[.slice ao n ac, .slice bo n bc] w fun r w' => r = .returned (.bool true) ∧ Below w.heap.size w w' := by
 obtain ⟨h1, h2⟩ := ha.sv.bound
 obtain ⟨h3, h4⟩ := hb.sv.bound
 have hl := ha.sv.n_eq ndc_len (by decide)
 have hl' := hb.sv.n_eq ndc_len (by decide)
 have hx : ∀ k (hk : k < s.length) (hk' : k < t.length), s[k].1 = t[k].1 := fun k hk hk' => by
  have h := congrArg (fun l => l[k]?) he
  simp only [List.getElem?_map, List.getElem?_eq_getElem hk, List.getElem?_eq_getElem hk', Option.map_some] at h
  exact Option.some.inj h
 have HA := Lib.hid ha; have HB := Lib.hid hb; have HL := Lib.hid hl; have HL' := Lib.hid hl'; have HX := Lib.hid hx
 clear ha hb hl hl' he hx
 go_enter Tryz.func27, Tryz.ntmps27
 go_wp2_with fail
 go_loopw [5] (fun i wr => ∃ k : Nat, k ≤ n ∧ i = .int .i64 k ∧ Hid (Below w.heap.size w wr)) (fun i _ => n - (intOf i).toNat)
 case atStart => exact ⟨0, by omega, rfl, Below.refl _ _⟩
 case round =>
  obtain ⟨k, hk, rfl, HBr⟩ := hrel
  by_cases hlt : k < n
  ·have hlt' : (k : Int) < n := by omega
   have hkl : k < s.length := by have := HL.out; omega
   have hkl' : k < t.length := by have := HL'.out; omega
   have HAr := Lib.hid (HA.out.below HBr.out)
   have HBb := Lib.hid (HB.out.below HBr.out)
   have HE := Lib.hid (HX.out k hkl hkl')
   have HM : Hid (∀ y : Later wr, Calls Tryz.prog 51 #[.agg #[.int .i64 s[k].1.kind, .int .u64 s[k].1.c0, .int .u64 s[k].1.c1, .int .u64 s[k].1.c2, .int .u64 s[k].1.c3, .string s[k].1.text, .int .i64 s[k].1.rule, .int .i64 s[k].1.lev, .slice s[k].2.1 s[k].1.kids.length s[k].2.2], .agg #[.int .i64 t[k].1.kind, .int .u64 t[k].1.c0, .int .u64 t[k].1.c1, .int .u64 t[k].1.c2, .int .u64 t[k].1.c3, .string t[k].1.text, .int .i64 t[k].1.rule, .int .i64 t[k].1.lev, .slice t[k].2.1 t[k].1.kids.length t[k].2.2]] y.val fun r w' => r = .returned (.bool true) ∧ Below y.val.heap.size y.val w') := fun y => by
    have h := HAr.out.kids _ (List.getElem_mem hkl)
    have h' := HBb.out.kids _ (List.getElem_mem hkl')
    rw [← HE.out] at h' ⊢
    exact sameNo_any y.val s[k].1 s[k].2.1 t[k].2.1 s[k].2.2 t[k].2.2 (h.below y.ok) (h'.below y.ok)
   obtain ⟨a, rfl, a0, a1, a2, a3, a4, a5, a6, a7, a8⟩ := HAr.out.sv.nd9 hkl
   obtain ⟨b, rfl, b0, b1, b2, b3, b4, b5, b6, b7, b8⟩ := HBb.out.sv.nd9 hkl'
   clear HAr HBb HE
   generalize s[k] = p at *
   generalize t[k] = q at *
   obtain ⟨⟨p0, p1, p2, p3, p4, p5, p6, p7, p8⟩, p9, p10⟩ := p
   obtain ⟨⟨q0, q1, q2, q3, q4, q5, q6, q7, q8⟩, q9, q10⟩ := q
   simp only [] at a0 a1 a2 a3 a4 a5 a6 a7 a8 b0 b1 b2 b3 b4 b5 b6 b7 b8 HM
   clear hkl hkl'
   have later : ∀ (p : Addr) (v : Value), wr.cell? p = some v → ∀ y : Later wr, y.val.cell? p = some v := fun p v h y => (y.ok.cell (World.block_lt_of_cell? wr _ h)).trans h
   have a0 := later _ _ a0
   have a1 := later _ _ a1
   have a2 := later _ _ a2
   have a3 := later _ _ a3
   have a4 := later _ _ a4
   have a5 := later _ _ a5
   have a6 := later _ _ a6
   have a7 := later _ _ a7
   have a8 := later _ _ a8
   have b0 := later _ _ b0
   have b1 := later _ _ b1
   have b2 := later _ _ b2
   have b3 := later _ _ b3
   have b4 := later _ _ b4
   have b5 := later _ _ b5
   have b6 := later _ _ b6
   have b7 := later _ _ b7
   have b8 := later _ _ b8
   clear later
   go_wp2_with fail
   refine wp_region_later (by kernel_rfl) (by kernel_rfl) ?_
   repeat (go_big_quiet_step ((go_at_call 51; exact Calls.later (HM.out _))))
   refine wpQuiet_nil ?_
   intro w5 hw5
   obtain ⟨y, rfl⟩ := hw5
   have HB5 := Lib.hid (HBr.out.trans (y.ok.mono HBr.out.size))
   clear a0 a1 a2 a3 a4 a5 a6 a7 a8 b0 b1 b2 b3 b4 b5 b6 b7 b8 HM
   generalize y.val = w5 at *
   go_wp2_with fail
   go_roundw
   case rel => exact ⟨k + 1, by omega, by go_num, HB5⟩
   case measure => simp [intOf]; omega
  ·have hge : (n : Int) ≤ k := by omega
   go_wp2_with fail
   go_ret
   exact ⟨rfl, HBr.out⟩

theorem sameGr_any (w : World) (ro no so mo : Option Addr) (rn rc nn nc sc mc : Nat) (NK NL : List (Nd × (Option Addr × Nat))) (G : Gr) (hg : GrW w ro rn rc no nn nc NK G) (hgl : GrW w so rn sc mo nn mc NL G) : Calls Tryz.prog 12 #[.agg #[.slice so rn sc, .slice mo nn mc], .agg #[.slice ro rn rc, .slice no nn nc]] w fun r w' => r = .returned (.bool true) ∧ Below w.heap.size w w' := by
 have HR := Lib.hid (fun w' (hb : Below w.heap.size w w') => sameRu_any w' so ro rn sc rc G.rules (hgl.below hb).rul (hg.below hb).rul)
 have HN := Lib.hid (fun w' (hb : Below w.heap.size w w') => sameNs_any w' mo no nn mc nc NL NK (hgl.below hb).nod (hg.below hb).nod (hgl.eq.trans hg.eq.symm))
 have HB0 := Lib.hid (al2 (Below.refl w.heap.size w) (.cells #[.slice so rn sc, .slice mo nn mc] 26) (.cells #[.slice ro rn rc, .slice no nn nc] 26))
 have HA0 := Lib.hid ((hrow.new w #[.slice so rn sc, .slice mo nn mc] 26).below ((Below.refl _ _).alloc (Nat.le_refl _) (.cells #[.slice ro rn rc, .slice no nn nc] 26)))
 have HZ0 : Hid (hrow ((w.alloc (.cells #[.slice so rn sc, .slice mo nn mc] 26)).alloc (.cells #[.slice ro rn rc, .slice no nn nc] 26)) (w.heap.size + 1) #[.slice ro rn rc, .slice no nn nc] 26) := by have h := hrow.new (w.alloc (.cells #[.slice so rn sc, .slice mo nn mc] 26)) #[.slice ro rn rc, .slice no nn nc] 26; rwa [World.size_alloc] at h
 go_enter Tryz.func12, Tryz.ntmps12
 go_upto_region 1 with (fail)
 revert HB0 HA0 HZ0
 generalize (w.alloc _).alloc _ = w1
 generalize hh1 : w.heap.size + 1 = h1
 generalize hh0 : w.heap.size = h0
 intro HB0 HA0 HZ0
 have HB1 : Hid (Below w.heap.size w w1) := by rw [hh0]; exact HB0.out
 have hne : h0 ≠ h1 := by omega
 clear HB0 hh0 hh1
 obtain ⟨a0, a1⟩ := (HA0.out).c2
 obtain ⟨z0, z1⟩ := (HZ0.out).c2
 go_wp2_with fail
 refine (HR.out w1 HB1.out).mono ?_
 rintro e w2 ⟨rfl, hb2⟩
 have HB2 := Lib.hid (HB1.out.trans (hb2.mono HB1.out.size))
 have a1 : w2.cell? ⟨h0, 1, none⟩ = some (.slice mo nn mc) := (HA0.out.below hb2).cell 1
 have z1 : w2.cell? ⟨h1, 1, none⟩ = some (.slice no nn nc) := (HZ0.out.below hb2).cell 1
 clear hb2 HA0 HZ0 a0 z0
 go_wp2_with fail
 refine (HN.out w2 HB2.out).mono ?_
 rintro e w3 ⟨rfl, hb3⟩
 have HB3 := Lib.hid (HB2.out.trans (hb3.mono HB2.out.size))
 clear hb3
 go_wp2_with fail
 go_ret
 exact ⟨rfl, HB3.out⟩
end Go.Proofs.YthfefbmkgebmkaaGreatDoor
namespace Go.Proofs.YthfefbmkgebmkaaGreatDoor
open Go.RowKit
set_option maxRecDepth 100000
set_option maxHeartbeats 4000000

theorem here_lit (L : List Wd) (B gr i : Nat) (d : Int) (w : World) (h : RdW L B gr i d w) (hi : i < L.length) (S : List (List UInt8)) (n : Nat) (cs : Array Value) (hcs : cs.toList = (S.map tx).map Value.string) (hn : cs.size = n) (hm : n ≤ 100) :
  Calls Tryz.prog 62 #[.pointer (some ⟨gr, 0, none⟩), .slice (some ⟨w.heap.size, 0, none⟩) n n] (w.alloc (.cells cs 9)) fun e w' => e = .returned (.bool (S.any fun s => hereW L i s)) ∧ Below w.heap.size w w' := by
 have hb := (Below.refl _ w).alloc (Nat.le_refl _) (.cells cs 9)
 have hs := Sv.lit w 9 cs n 1 (by unfold maxLen; omega) (by omega)
 rw [hcs] at hs
 refine (rhere_any L B gr i d _ (h.below hb) hi S _ n n hs).mono ?_
 rintro e w' ⟨h1, h2⟩
 exact ⟨h1, hb.trans (h2.mono hb.size)⟩
def WantP (L : List Wd) (B gr i : Nat) (d : Int) (s : List UInt8) (w : World) (e : Ending) (w' : World) : Prop :=
 if hereW L i s then e = .returned (.tuple #[]) ∧ RdW L B gr (i + 1) d w' ∧ Fr (fun k => k = gr) w w' else e = badE 7 (wdAt L i).at_ ∧ Fr (fun k => k = gr) w w'
theorem want_any (L : List Wd) (B gr i : Nat) (d : Int) (w : World) (h : RdW L B gr i d w) (hi : i < L.length) (hL : L.length ≤ 100000) (s : List UInt8) :
  Calls Tryz.prog 34 #[ptr gr, .string (tx s)] w fun e w' => WantP L B gr i d s w e w' := by
 have HH := Lib.hid (here_lit L B gr i d w h hi [s] 1 #[.string (tx s)] rfl rfl (by decide))
 have HF := Lib.hid (fun x (hx : Below w.heap.size w x) => fail_any L B gr i d x (h.below hx) hi 7)
 have HT := Lib.hid (fun x (hx : Below w.heap.size w x) => take_any L B gr i d x (h.below hx) hi hL)
 clear h hi hL
 simp only [List.any_cons, List.any_nil, Bool.or_false] at HH
 unfold WantP
 generalize hereW L i s = bb at *
 unfold ptr wdD wdA badE at *
 go_enter Tryz.func34, Tryz.ntmps34
 go_wp2_with fail
 refine HH.out.mono ?_
 rintro e w1 ⟨rfl, hb⟩
 have HB := Lib.hid hb; clear hb HH
 cases bb with
 | true =>
  have HT1 := Lib.hid (HT.out w1 HB.out)
  clear HT HF
  go_wp2_with fail
  refine HT1.out.mono ?_
  rintro e w2 ⟨rfl, h1, h2⟩
  have H1 := Lib.hid h1; have H2 := Lib.hid ((Fr.of_below (F := fun k => k = gr) HB.out).trans h2 (fun _ _ h => h))
  clear h1 h2 HT1
  go_wp2_with fail
  go_end0
  exact ⟨rfl, H1.out, H2.out⟩
 | false =>
  have HF1 := Lib.hid (HF.out w1 HB.out)
  clear HT HF
  go_wp2_with fail
  refine HF1.out.mono ?_
  rintro e w2 ⟨rfl, h2⟩
  have H2 := Lib.hid (Fr.of_below (F := fun k => k = gr) (HB.out.trans (h2.mono HB.out.size)))
  clear h2 HF1
  go_wp2_with fail
  exact ⟨rfl, rfl, H2.out⟩
theorem ptW_over (B k a b : Nat) (p : Pt) (w : World) (hp : PtW w (fun k => B ≤ k) p b) (hB : B ≤ w.heap.size) :
  PtW ((w.alloc (.cells #[.pointer (some ⟨b, 0, none⟩)] 86)).alloc (.cells (ptC k [] [] 0 a [] (some ⟨w.heap.size, 0, none⟩) 1 1) 135)) (fun k => B ≤ k) (ovr k a p) (w.heap.size + 1) := by
 have hb1 := (Below.refl _ w).alloc (Nat.le_refl _) (.cells #[.pointer (some ⟨b, 0, none⟩)] 86)
 have hb2 := (Below.refl _ (w.alloc (.cells #[.pointer (some ⟨b, 0, none⟩)] 86))).alloc (Nat.le_refl _) (.cells (ptC k [] [] 0 a [] (some ⟨w.heap.size, 0, none⟩) 1 1) 135)
 unfold ovr PtW
 refine ⟨by omega, some ⟨w.heap.size, 0, none⟩, 1, [b], ?_, (Sv.lit w 86 #[.pointer (some ⟨b, 0, none⟩)] 1 1 (by unfold maxLen; omega) rfl).below hb2, fun x hx _ => by cases hx; exact hB, ?_⟩
 ·have := hrow.new (w.alloc (.cells #[.pointer (some ⟨b, 0, none⟩)] 86)) (ptC k [] [] 0 a [] (some ⟨w.heap.size, 0, none⟩) 1 1) 135
  rwa [World.size_alloc] at this
 ·unfold PtsW
  refine ⟨b, [], rfl, ?_, by unfold PtsW; rfl⟩
  exact PtW.fr (G := fun _ => False) (Fr.of_below (hb1.trans (hb2.mono hb1.size))) (fun _ _ => id) (fun _ h => h) p b hp
theorem over_any (B k a b : Nat) (p : Pt) (w : World) (hp : PtW w (fun k => B ≤ k) p b) (hB : B ≤ w.heap.size) :
  Calls Tryz.prog 95 #[.int .i64 k, .int .i64 a, ptr b] w fun e w' => ∃ b', e = .returned (ptr b') ∧ PtW w' (fun k => B ≤ k) (ovr k a p) b' ∧ Below w.heap.size w w' := by
 have HP := Lib.hid (ptW_over B k a b p w hp hB); have HB := Lib.hid hB; clear hp hB
 unfold ptr
 go_enter Tryz.func95, Tryz.ntmps95
 go_wp2_with fail
 go_ret
 exact ⟨w.heap.size + 1, rfl, HP.out, al2 (Below.refl _ _) _ _⟩
theorem PtW.cell9 {w : World} {F : Nat → Prop} : ∀ {p : Pt} {b : Nat}, PtW w F p b → w.cell? ⟨b, 9, none⟩ = some (.int .i64 p.at_)
 | .mk .., b, h => by unfold PtW at h; obtain ⟨_, ao, cap, bs, h2, _⟩ := h; exact h2.cell 9
theorem group_any (B k : Nat) (ao : Option Addr) (cap : Nat) (ps : List Pt) (bs : List Nat) (w : World) (hs : Sv w ao ps.length cap 1 (bs.map ptr)) (hp : PtsW w (fun k => B ≤ k) ps bs) (hao : ∀ x, ao = some x → B ≤ x.block) (hB : B ≤ w.heap.size) (hne : ps ≠ []) :
  Calls Tryz.prog 64 #[.int .i64 k, .slice ao ps.length cap] w fun e w' => ∃ b', e = .returned (ptr b') ∧ PtW w' (fun k => B ≤ k) (grp k ps) b' ∧ Below w.heap.size w w' := by
 obtain ⟨q1, q2⟩ := hs.bound
 match ps, hne with
 | [p], _ =>
  unfold PtsW at hp
  obtain ⟨b, r, rfl, hp1, hp2⟩ := hp
  unfold PtsW at hp2
  subst hp2
  obtain ⟨a, rfl, hc⟩ := hs.cell 0 (by simp)
  simp only [List.map_cons, List.map_nil, List.getElem?_cons_zero] at hc
  rw [show a.add 0 = a by unfold Addr.add; simp] at hc
  unfold ptr at hc
  have HP := Lib.hid hp1; clear hp1 hs
  go_enter Tryz.func64, Tryz.ntmps64
  go_wp2_with fail
  go_ret
  exact ⟨b, rfl, HP.out, Below.refl _ _⟩
 | p :: q :: r, _ =>
  have hpp := hp
  unfold PtsW at hp
  obtain ⟨b, r', rfl, hp1, hp2⟩ := hp
  obtain ⟨a, rfl, hc⟩ := hs.cell 0 (by simp)
  simp only [List.map_cons, List.getElem?_cons_zero] at hc
  rw [show a.add 0 = a by unfold Addr.add; simp] at hc
  unfold ptr at hc
  have h9 := hp1.cell9
  have HP : Hid (PtW (w.alloc (.cells (ptC k [] [] 0 p.at_ [] (some a) (p :: q :: r).length cap) 135)) (fun k => B ≤ k) (grp k (p :: q :: r)) w.heap.size) := by
   have hb := (Below.refl _ w).alloc (Nat.le_refl _) (.cells (ptC k [] [] 0 p.at_ [] (some a) (p :: q :: r).length cap) 135)
   show PtW _ _ (.mk k [] [] 0 p.at_ [] (p :: q :: r)) _
   unfold PtW
   exact ⟨hB, some a, cap, b :: r', hrow.new _ _ _, hs.below hb, fun x hx _ => hao x hx, PtsW.fr (G := fun _ => False) (Fr.of_below hb) (fun _ _ => id) (fun _ h => h) _ _ hpp⟩
  have hn1 : (((p :: q :: r).length : Nat) : Int) ≠ 1 := by simp only [List.length_cons]; omega
  have hn0 : (0 : Int) < (((p :: q :: r).length : Nat) : Int) := by simp only [List.length_cons]; omega
  generalize (p :: q :: r).length = n at *
  generalize grp k (p :: q :: r) = G at *
  generalize p.at_ = at0 at *
  clear hs hpp hp1 hp2 hao hne
  go_enter Tryz.func64, Tryz.ntmps64
  go_wp2_with fail
  go_ret
  exact ⟨w.heap.size, rfl, HP.out, al1 (Below.refl _ _) _⟩
end Go.Proofs.YthfefbmkgebmkaaGreatDoor
namespace Go.Proofs.YthfefbmkgebmkaaGreatDoor
open Go.RowKit Go.ChangeMaps
set_option maxRecDepth 100000
set_option maxHeartbeats 4000000

theorem ba_eqq (a b : ByteArray) : (a == b) = decide (a = b) := by
 obtain ⟨x⟩ := a
 obtain ⟨y⟩ := b
 have h : ((ByteArray.mk x) == (ByteArray.mk y)) = (x == y) := rfl
 rw [h]
 by_cases e : x = y
 ·subst e; simp
 ·have h2 : ByteArray.mk x ≠ ByteArray.mk y := fun h => e (by injection h)
  simp [e, h2]
theorem findNow_str : ∀ (es : List MapEntry) (a : ByteArray) (i : Nat), (∀ x ∈ es, ∃ b, x.key = .string b) → Instr.findNow .string (.string a) es i = some (findV (.string a) es i)
 | [], _, _, _ => rfl
 | x :: es, a, i, h => by
  obtain ⟨b, hb⟩ := h x (by simp)
  by_cases hab : a = b
  ·subst hab
   unfold findV
   rw [if_pos hb]
   simp [Instr.findNow, hb, Instr.sameNow, ba_eqq]
  ·have h1 : (a == b) = false := by rw [ba_eqq]; simpa using hab
   have h2 : ¬ (x.key = Value.string a) := by rw [hb]; intro e; cases e; exact hab rfl
   unfold findV
   rw [if_neg h2]
   simp only [Instr.findNow, hb, Instr.sameNow, h1]
   exact findNow_str es a (i + 1) fun y hy => h y (by simp [hy])
theorem keyStr {P : Program} {kt : TypeId} (hu : P.underlying kt = some .string) : KeyT P kt (fun v => ∃ a, v = .string a) := by
 refine ⟨fun e w k hk => ?_, fun w k es hk hes => ?_, fun w k hk => ?_⟩
 ·obtain ⟨a, rfl⟩ := hk
  rw [show (10000 : Nat) = 9999 + 1 from rfl]
  unfold Instr.checkKey
  simp only [Sem.run_bind, run_underlying hu, Result.andThen_ok]
  rfl
 ·obtain ⟨a, rfl⟩ := hk
  exact MapKept.run_findKey hu (findNow_str es a 0 hes)
 ·obtain ⟨a, rfl⟩ := hk
  unfold Instr.keyThatStays
  have : Instr.sameBits 10000 (.string a) (.string a) = true := by
   rw [show (10000 : Nat) = 9999 + 1 from rfl]
   simp [Instr.sameBits, ba_eqq]
  rw [if_pos this]
  rfl
theorem strU : Tryz.prog.underlying 9 = some .string := by kernel_rfl
theorem mk_und : Tryz.prog.underlying 171 = some (.map 9 36) := by kernel_rfl
theorem mkUp (w : World) (es : Array MapEntry) (clock : Nat) (n : ByteArray) (v : Value) (h1 : ∀ x ∈ es.toList, ∃ a, x.key = .string a) (h2 : ∀ x ∈ es.toList, x.key ≠ .string n) :
  (Instr.mapUpdate 171 (.map (some w.heap.size)) (.string n) v).run Tryz.prog (w.alloc (.map es clock)) = .ok () (w.alloc (.map (es.push ⟨.string n, v, clock⟩) (clock + 1))) := by
 rw [run_map_new (keyStr strU) mk_und (heap_alloc_new _ _) h1 ⟨n, rfl⟩ h2, setBlock_new]
def bhE : Array MapEntry := #[⟨.string ⟨#[42]⟩, .int .i64 8, 0⟩, ⟨.string ⟨#[43]⟩, .int .i64 9, 1⟩, ⟨.string ⟨#[63]⟩, .int .i64 10, 2⟩]
def ahE : Array MapEntry := #[⟨.string ⟨#[33]⟩, .int .i64 11, 0⟩, ⟨.string ⟨#[38]⟩, .int .i64 12, 1⟩]
theorem behind_any (w : World) : Calls Tryz.prog 96 #[] w fun e w' => e = .returned (.map (some w.heap.size)) ∧ w' = w.alloc (.map bhE 3) := by
 have hmm := @run_makeMap Tryz.prog
 have hmu := mkUp
 go_enter Tryz.func96, Tryz.ntmps96
 go_wp2_with fail
 go_ret
 exact ⟨rfl, rfl⟩
theorem ahead_any (w : World) : Calls Tryz.prog 98 #[] w fun e w' => e = .returned (.map (some w.heap.size)) ∧ w' = w.alloc (.map ahE 2) := by
 have hmm := @run_makeMap Tryz.prog
 have hmu := mkUp
 go_enter Tryz.func98, Tryz.ntmps98
 go_wp2_with fail
 go_ret
 exact ⟨rfl, rfl⟩
theorem look_bh {w : World} {g : Nat} (hb : w.heap[g]? = some (.map bhE 3)) (s : ByteArray) (k : Nat) (h : (s = ⟨#[42]⟩ ∧ k = 8) ∨ (s = ⟨#[43]⟩ ∧ k = 9) ∨ (s = ⟨#[63]⟩ ∧ k = 10)) :
  (Instr.lookup 171 (.map (some g)) (.string s) false).run Tryz.prog w = .ok (.int .i64 k) w := by
 have hes : ∀ x ∈ bhE.toList, ∃ a, x.key = .string a := by simp [bhE]
 rcases h with ⟨rfl, rfl⟩ | ⟨rfl, rfl⟩ | ⟨rfl, rfl⟩
 ·exact run_look_yes (keyStr strU) mk_und hb hes ⟨_, rfl⟩ (i := 0) (x := ⟨.string ⟨#[42]⟩, .int .i64 8, 0⟩) rfl rfl (fun m hm => absurd hm (by omega)) false
 ·refine run_look_yes (keyStr strU) mk_und hb hes ⟨_, rfl⟩ (i := 1) (x := ⟨.string ⟨#[43]⟩, .int .i64 9, 1⟩) rfl rfl (fun m hm y hy => ?_) false
  have : m = 0 := by omega
  subst this; simp [bhE] at hy; subst hy; simp
 ·refine run_look_yes (keyStr strU) mk_und hb hes ⟨_, rfl⟩ (i := 2) (x := ⟨.string ⟨#[63]⟩, .int .i64 10, 2⟩) rfl rfl (fun m hm y hy => ?_) false
  have : m = 0 ∨ m = 1 := by omega
  rcases this with rfl | rfl <;> (simp [bhE] at hy; subst hy; simp)
theorem look_ah {w : World} {g : Nat} (hb : w.heap[g]? = some (.map ahE 2)) (s : ByteArray) (k : Nat) (h : (s = ⟨#[33]⟩ ∧ k = 11) ∨ (s = ⟨#[38]⟩ ∧ k = 12)) :
  (Instr.lookup 171 (.map (some g)) (.string s) false).run Tryz.prog w = .ok (.int .i64 k) w := by
 have hes : ∀ x ∈ ahE.toList, ∃ a, x.key = .string a := by simp [ahE]
 rcases h with ⟨rfl, rfl⟩ | ⟨rfl, rfl⟩
 ·exact run_look_yes (keyStr strU) mk_und hb hes ⟨_, rfl⟩ (i := 0) (x := ⟨.string ⟨#[33]⟩, .int .i64 11, 0⟩) rfl rfl (fun m hm => absurd hm (by omega)) false
 ·refine run_look_yes (keyStr strU) mk_und hb hes ⟨_, rfl⟩ (i := 1) (x := ⟨.string ⟨#[38]⟩, .int .i64 12, 1⟩) rfl rfl (fun m hm y hy => ?_) false
  have : m = 0 := by omega
  subst this; simp [ahE] at hy; subst hy; simp
end Go.Proofs.YthfefbmkgebmkaaGreatDoor
namespace Go.Proofs.YthfefbmkgebmkaaGreatDoor
open Go.RowKit
set_option maxRecDepth 100000
set_option maxHeartbeats 4000000

theorem ptW_leaf (B k : Nat) (cl : List (UInt8 × UInt8)) (t : List UInt8) (lv : Int) (a : Nat) (nm : List UInt8) (w : World) (hB : B ≤ w.heap.size) :
  PtW (w.alloc (.cells (ptC k cl t lv a nm none 0 0) 135)) (fun k => B ≤ k) (.mk k cl t lv a nm []) w.heap.size := by
 unfold PtW
 exact ⟨hB, none, 0, [], hrow.new _ _ _, Sv.nil _ _, (fun _ h _ => by cases h), (by unfold PtsW; rfl)⟩
/-- What a word's making gives. -/
def LeafP (B : Nat) (p : Pt) (w : World) (e : Ending) (w' : World) : Prop := ∃ b', e = .returned (ptr b') ∧ PtW w' (fun k => B ≤ k) p b' ∧ Below w.heap.size w w'
theorem call_any (B gr : Nat) (x : Wd) (w : World) (hB : B ≤ w.heap.size) :
  Calls Tryz.prog 112 #[ptr gr, .agg (wdD x)] w fun e w' => LeafP B (.mk 5 [] [] (max x.lv 0) x.at_ x.tx []) w e w' := by
 have hb := (Below.refl _ w).alloc (Nat.le_refl _) (.cells (wdD x) 44)
 have HP := Lib.hid (ptW_leaf B 5 [] [] (max x.lv 0) x.at_ x.tx (w.alloc (.cells (wdD x) 44)) (Nat.le_trans hB hb.size))
 have HR := Lib.hid (hrow.new w (wdD x) 44)
 have HB := Lib.hid hb; clear hb hB
 unfold LeafP ptr wdD wdA at *
 go_enter Tryz.func112, Tryz.ntmps112
 go_upto_region 1 with (fail)
 revert HP HR HB
 generalize w.alloc (.cells #[.int .i64 x.kind, .int .i64 x.at_, .int .i64 x.nx, .string (tx x.tx), .int .i64 x.lv, .int .u64 (clsW x.cl 0), .int .u64 (clsW x.cl 1), .int .u64 (clsW x.cl 2), .int .u64 (clsW x.cl 3)] 44) = w1
 intro HP HR HB
 obtain ⟨c0, c1, c2, c3, c4, c5, c6, c7, c8⟩ := HR.out.c9
 go_wp2_with fail
 go_ret
 exact ⟨_, rfl, HP.out, HB.out.alloc HB.out.size _⟩
theorem text_any2 (B gr : Nat) (x : Wd) (w : World) (hB : B ≤ w.heap.size) :
  Calls Tryz.prog 113 #[ptr gr, .agg (wdD x)] w fun e w' => LeafP B (.mk 4 [] x.tx 0 x.at_ [] []) w e w' := by
 have hb := (Below.refl _ w).alloc (Nat.le_refl _) (.cells (wdD x) 44)
 have HP := Lib.hid (ptW_leaf B 4 [] x.tx 0 x.at_ [] (w.alloc (.cells (wdD x) 44)) (Nat.le_trans hB hb.size))
 have HR := Lib.hid (hrow.new w (wdD x) 44)
 have HB := Lib.hid hb; clear hb hB
 unfold LeafP ptr wdD wdA at *
 go_enter Tryz.func113, Tryz.ntmps113
 go_upto_region 1 with (fail)
 revert HP HR HB
 generalize w.alloc (.cells #[.int .i64 x.kind, .int .i64 x.at_, .int .i64 x.nx, .string (tx x.tx), .int .i64 x.lv, .int .u64 (clsW x.cl 0), .int .u64 (clsW x.cl 1), .int .u64 (clsW x.cl 2), .int .u64 (clsW x.cl 3)] 44) = w1
 intro HP HR HB
 obtain ⟨c0, c1, c2, c3, c4, c5, c6, c7, c8⟩ := HR.out.c9
 go_wp2_with fail
 go_ret
 exact ⟨_, rfl, HP.out, HB.out.alloc HB.out.size _⟩
theorem set_any2 (B gr : Nat) (x : Wd) (w : World) (hB : B ≤ w.heap.size) :
  Calls Tryz.prog 114 #[ptr gr, .agg (wdD x)] w fun e w' => LeafP B (.mk 3 x.cl [] 0 x.at_ [] []) w e w' := by
 have hb := (Below.refl _ w).alloc (Nat.le_refl _) (.cells (wdD x) 44)
 have HP := Lib.hid (ptW_leaf B 3 x.cl [] 0 x.at_ [] (w.alloc (.cells (wdD x) 44)) (Nat.le_trans hB hb.size))
 have HR := Lib.hid (hrow.new w (wdD x) 44)
 have HB := Lib.hid hb; clear hb hB
 unfold LeafP ptr wdD wdA at *
 go_enter Tryz.func114, Tryz.ntmps114
 go_upto_region 1 with (fail)
 revert HP HR HB
 generalize w.alloc (.cells #[.int .i64 x.kind, .int .i64 x.at_, .int .i64 x.nx, .string (tx x.tx), .int .i64 x.lv, .int .u64 (clsW x.cl 0), .int .u64 (clsW x.cl 1), .int .u64 (clsW x.cl 2), .int .u64 (clsW x.cl 3)] 44) = w1
 intro HP HR HB
 obtain ⟨c0, c1, c2, c3, c4, c5, c6, c7, c8⟩ := HR.out.c9
 go_wp2_with fail
 go_ret
 exact ⟨_, rfl, HP.out, HB.out.alloc HB.out.size _⟩
end Go.Proofs.YthfefbmkgebmkaaGreatDoor
