/- Walks and plain laws: C2 C3 V5 R1 V6. -/
import Derived.Test.YtnfkcdnkmcifbaaGreatDoorM06
namespace Go.Proofs.YtnfkcdnkmcifbaaGreatDoor
open Go.RowKit

def bys (zs : List Nat) : List Value := zs.map fun (c : Nat) => Value.int .u8 (c : Int)

def orW (W V : Nat → Nat) : Nat → Nat := fun i => W i ||| V i
theorem orW_words {W V : Nat → Nat} (h : Words W) (k : Words V) : Words (orW W V) := fun i => Nat.or_lt_two_pow (h i) (k i)
theorem inW_or (W V : Nat → Nat) (c : Nat) : inW (orW W V) c = (inW W c || inW V c) := by unfold inW orW; rw [Nat.testBit_or]
/-- The first k words are joined. -/
def orK (W V : Nat → Nat) (k : Nat) : Nat → Nat := fun i => if i < k then W i ||| V i else W i
theorem orK_words {W V : Nat → Nat} (h : Words W) (k : Words V) (n : Nat) : Words (orK W V n) := fun i => by unfold orK; split; exact Nat.or_lt_two_pow (h i) (k i); exact h i
theorem orK_set (W V : Nat → Nat) (k : Nat) (hk : k < 4) (x : Int) (hx : x = ((W k ||| V k : Nat) : Int)) : (cw (orK W V k)).setIfInBounds k (.int .u64 x) = cw (orK W V (k + 1)) := by
  subst hx
  have : k = 0 ∨ k = 1 ∨ k = 2 ∨ k = 3 := by omega
  rcases this with rfl | rfl | rfl | rfl <;> simp [cw, orK]
theorem orK_four (W V : Nat → Nat) : cw (orK W V 4) = cw (orW W V) := by simp [cw, orK, orW]
theorem orK_zero (W V : Nat → Nat) : orK W V 0 = W := by funext i; simp [orK]
theorem orK_at (W V : Nat → Nat) (k : Nat) : orK W V k k = W k := by simp [orK]
theorem or_words (x y : Nat) (hx : x < 2 ^ 64) (hy : y < 2 ^ 64) : bits BinOp.or IntKind.u64 (x : Int) (y : Int) = ((x ||| y : Nat) : Int) := (bits_nat .u64 64 (by decide) wraps64 x y hx hy).2

set_option maxRecDepth 100000 in
set_option maxHeartbeats 1000000 in
theorem orm_any (w : World) (g : Nat) (W V : Nat → Nat) (hr : hrow w g (cw W) 84) (hW : Words W) (hV : Words V) :
    Calls Tryz.prog 47 #[.pointer (some ⟨g, 0, none⟩), .agg (cw V)] w fun r w' => r = .returned (.tuple #[]) ∧ hrow w' g (cw (orW W V)) 84 ∧ Fr (fun k => k = g) w w' := by
  have HR := Lib.hid hr
  have HW := Lib.hid hW
  have HV := Lib.hid hV
  clear hr hW hV
  have hgw := HR.out.lt
  go_enter Tryz.func47, Tryz.ntmps47
  go_wp2_with fail
  have h0 : hrow (w.alloc (.cells (cw V) 84)) g (cw (orK W V 0)) 84 := by rw [orK_zero]; exact HR.out.below ((Below.refl _ _).alloc (Nat.le_refl _) _)
  have h1 : hrow (w.alloc (.cells (cw V) 84)) w.heap.size (cw V) 84 := hrow.new _ _ _
  have h2 : Fr (fun k => k = g) w (w.alloc (.cells (cw V) 84)) := Fr.of_below ((Below.refl _ _).alloc (Nat.le_refl _) _)
  have H0 := Lib.hid (And.intro h0 (And.intro h1 h2))
  clear h0 h1 h2
  go_loopw [5] (fun i wr => ∃ k : Nat, k ≤ 4 ∧ i = .int .i64 k ∧ Hid (hrow wr g (cw (orK W V k)) 84 ∧ hrow wr w.heap.size (cw V) 84 ∧ Fr (fun k => k = g) w wr)) (fun i _ => 4 - (intOf i).toNat)
  case atStart => exact ⟨0, by omega, rfl, H0.out⟩
  case round =>
    obtain ⟨k, hk, rfl, hI⟩ := hrel
    have H1 := Lib.hid hI.out.1; have H2 := Lib.hid hI.out.2.1; have H3 := Lib.hid hI.out.2.2
    clear hI H0
    by_cases hlt : k < 4
    · have hcg : ∀ x : Later wr, x.val.cell? ⟨g, k, none⟩ = some (.int .u64 (W k)) := fun x => by
        rw [(H1.out.below x.ok).cell, cw_get _ _ hlt, orK_at]
      have hcv : ∀ x : Later wr, x.val.cell? ⟨w.heap.size, k, none⟩ = some (.int .u64 (V k)) := fun x => by
        rw [(H2.out.below x.ok).cell, cw_get _ _ hlt]
      have hfg : ∀ x : Later wr, x.val.frozen? ⟨g, k, none⟩ = false := fun x => (H1.out.below x.ok).frozen _
      have hk0 : (0 : Int) ≤ k := by omega
      have hk4 : (k : Int) < 4 := by omega
      go_upto_region 4 with (fail)
      refine wp_region_later_tail 11 (by kernel_rfl) (by kernel_rfl) ?_
      simp only [List.take_succ_cons, List.take_zero, List.drop_succ_cons, List.drop_zero]
      repeat (go_big_quiet_step (fail))
      refine wpQuiet_nil ?_
      intro w5 hw5
      obtain ⟨x, rfl⟩ := hw5
      go_wp2_with fail
      go_roundw
      case rel =>
        refine ⟨k + 1, by omega, by go_num, ?_, ?_, ?_⟩
        · unfold hrow
          rw [heap_setCell_same _ _ _ _ _ _ (H1.out.below x.ok).h, orK_set W V k hlt _ (or_words _ _ (HW.out k) (HV.out k))]
        · exact (H2.out.below x.ok).fr (Fr.setCell _ _ _) (by simp; omega)
        · exact (H3.out.trans (Fr.of_below x.ok) (fun _ _ h => h)).trans (Fr.setCell _ _ _) (fun _ _ h => h)
      case measure => simp [intOf]; omega
    · have hk4 : k = 4 := by omega
      subst hk4
      go_wp2_with fail
      go_end0
      exact ⟨rfl, by have := H1.out; unfold hrow at *; rw [← orK_four]; exact this, H3.out⟩

/-- What is folded. -/
def orL (Ws : List (Nat → Nat)) : Nat → Nat := Ws.foldl orW noW
theorem orL_snoc (Ws : List (Nat → Nat)) (V : Nat → Nat) : orL (Ws ++ [V]) = orW (orL Ws) V := by simp [orL]
def cws (Ws : List (Nat → Nat)) : List Value := Ws.flatMap fun W => (cw W).toList
theorem cws_len : ∀ Ws : List (Nat → Nat), (cws Ws).length = Ws.length * 4
  | [] => rfl
  | W :: r => by
    have h := cws_len r
    show ((cw W).toList ++ cws r).length = _
    rw [List.length_append, h]; simp [cw]; omega
theorem cws_get (Ws : List (Nat → Nat)) (k : Nat) (hk : k < Ws.length) : ∀ j v, (cw (Ws[k])).toList[j]? = some v → (cws Ws)[k * 4 + j]? = some v := by
  induction Ws generalizing k with
  | nil => simp at hk
  | cons W r ih =>
    intro j v hj
    have hj4 : j < 4 := by have := (List.getElem?_eq_some_iff.1 hj).1; simpa [cw] using this
    show ((cw W).toList ++ cws r)[k * 4 + j]? = some v
    have hl : (cw W).toList.length = 4 := rfl
    cases k with
    | zero => rw [List.getElem?_append_left (by rw [hl]; omega)]; simpa using hj
    | succ k =>
      rw [List.getElem?_append_right (by rw [hl]; omega), hl, show (k + 1) * 4 + j - 4 = k * 4 + j from by omega]
      exact ih k (by simpa using hk) j v (by simpa using hj)

structure FoldSt (w wr : World) (W : Nat → Nat) : Prop where
  below : Below w.heap.size w wr
  set : hrow wr w.heap.size (cw W) 84
  res : hrow wr (w.heap.size + 1) (cw noW) 34
  words : Words W
theorem FoldSt.start (w : World) : FoldSt w ((w.alloc (.cells (cw noW) 84)).alloc (.cells #[.int .u64 0, .int .u64 0, .int .u64 0, .int .u64 0] 34)) noW := by
  refine ⟨((Below.refl _ _).alloc (Nat.le_refl _) _).alloc (by simp) _, ?_, ?_, noW_words⟩
  · exact (hrow.new w _ 84).below ((Below.refl _ _).alloc (Nat.le_refl _) _)
  · have := hrow.new (w.alloc (.cells (cw noW) 84)) #[.int .u64 0, .int .u64 0, .int .u64 0, .int .u64 0] 34
    simp only [World.size_alloc] at this
    exact this
theorem FoldSt.later {w wr w' : World} {W : Nat → Nat} (h : FoldSt w wr W) (hb : Below wr.heap.size wr w') : FoldSt w w' W :=
  ⟨h.below.trans (hb.mono h.below.size), h.set.below hb, h.res.below hb, h.words⟩
theorem FoldSt.step {w wr w' : World} {W W' : Nat → Nat} (h : FoldSt w wr W) (hr : hrow w' w.heap.size (cw W') 84) (hf : Fr (fun k => k = w.heap.size) wr w') (hW : Words W') : FoldSt w w' W' :=
  ⟨h.below.trans (hf.below h.below.size (by intro k hk; omega)), hr, h.res.fr hf (by omega), hW⟩

set_option maxRecDepth 100000 in
set_option maxHeartbeats 1000000 in
theorem fold_any (w : World) (ao : Option Addr) (cap n : Nat) (Ws : List (Nat → Nat)) (hs : Sv w ao n cap 4 (cws Ws)) (hW : ∀ W ∈ Ws, Words W) :
    Calls Tryz.prog 46 #[.agg (cw noW), .func (.func 47) #[] #[], .slice ao n cap] w fun r w' => r = .returned (.agg (cw (orL Ws))) ∧ Below w.heap.size w w' := by
  obtain ⟨h1, h2⟩ := hs.bound
  have hl : Ws.length = n := by have := hs.len; rw [cws_len] at this; omega
  have HSl := Lib.hid hs; clear hs
  have HL := Lib.hid hl; clear hl
  have HZ := Lib.hid hW; clear hW
  go_enter Tryz.func46, Tryz.ntmps46
  go_wp2_with fail
  have HS := Lib.hid (FoldSt.start w)
  go_loopw [11] (fun i wr => ∃ k : Nat, k ≤ n ∧ i = .int .i64 k ∧ Hid (FoldSt w wr (orL (Ws.take k)))) (fun i _ => n - (intOf i).toNat)
  case atStart => exact ⟨0, by omega, rfl, HS.out⟩
  case round =>
    obtain ⟨k, hk, rfl, hI⟩ := hrel
    clear HS
    by_cases hlt : k < n
    · have hkz : k < Ws.length := by have := HL.out; omega
      have hcl := cws_len Ws
      obtain ⟨a, rfl, _⟩ := HSl.out.cell (k * 4) (by omega)
      have hcp : ∀ j v, (cw (Ws[k])).toList[j]? = some v → wr.cell? ((a.add (k * 4)).add j) = some v := fun j v hj => by
        have h1 := cws_get Ws k hkz j v hj
        have hlt' := (List.getElem?_eq_some_iff.1 h1).1
        obtain ⟨a', ha', hc'⟩ := (HSl.out.below hI.out.below).cell (k * 4 + j) hlt'
        cases ha'
        rw [add_add, hc', h1]
      have hts : Ws.take (k + 1) = Ws.take k ++ [Ws[k]] := List.take_succ_eq_append_getElem hkz
      have hor : orL (Ws.take (k + 1)) = orW (orL (Ws.take k)) Ws[k] := by rw [hts, orL_snoc]
      have hWk := HZ.out _ (List.getElem_mem hkz)
      have HCp := Lib.hid hcp; have HOr := Lib.hid hor; have HWk := Lib.hid hWk
      clear hcp hts hor hWk hcl
      generalize Ws[k]'_ = V at *
      clear hkz
      have K2 : Hid ((Tryz.prog.info? 34).map (·.size) = some (cw V).size) := cw_info.1
      have h0k : (0 : Int) ≤ k := by omega
      go_upto_region 4 with (first
        | (refine wpList_load_part rfl 34 (.tmp 13) rfl (a.add (k * 4)) rfl (cw V) _ HCp.out Tryz.underlying34 rfl K2.out ?_)
        | (with_reducible refine wpList_store_row rfl 34 (.tmp 8) (.tmp 14) rfl wr.heap.size (cw V) rfl rfl 34 _ (heap_alloc_new _ _) K2.out rfl (cw_one V) ?_))
      have hr := setRow_heap (wr.alloc (.cells #[.int .u64 0, .int .u64 0, .int .u64 0, .int .u64 0] 34)) wr.heap.size _ (cw V) 34 _ (heap_alloc_new wr _)
      have hb := below_setRow ((Below.refl wr.heap.size wr).alloc (Nat.le_refl _) (.cells #[.int .u64 0, .int .u64 0, .int .u64 0, .int .u64 0] 34)) (Nat.le_refl wr.heap.size) (cw V)
      have HR := Lib.hid hr; have HB := Lib.hid hb
      clear hr hb
      revert HR HB
      generalize (wr.alloc (.cells #[.int .u64 0, .int .u64 0, .int .u64 0, .int .u64 0] 34)).setRow wr.heap.size (cw V) = w3
      intro HR HB
      have HI3 := Lib.hid (hI.out.later HB.out)
      go_frame
      go_wp2_with (first
        | (with_reducible refine wpList_load_row rfl 34 (.tmp 8) rfl _ rfl 34 _ _ _ HR.out Tryz.underlying34 rfl K2.out ?_)
        | (go_at_call 47; refine (orm_any _ _ (orL (Ws.take k)) V HI3.out.set HI3.out.words HWk.out).mono ?_; rintro e w2 ⟨rfl, hr2, hf2⟩; have HS2 := Lib.hid (HI3.out.step hr2 hf2 (orW_words HI3.out.words HWk.out)); clear hr2 hf2))
      go_roundw
      case rel => exact ⟨k + 1, by omega, by go_num, by rw [HOr.out]; exact HS2.out⟩
      case measure => simp [intOf]; omega
    · have ht : Ws.take k = Ws := List.take_of_length_le (by have := HL.out; omega)
      rw [ht] at hI
      clear ht
      have K1 : Hid ((Tryz.prog.info? 84).map (·.size) = some (cw (orL Ws)).size) := cw_info.2
      have K2 : Hid ((Tryz.prog.info? 34).map (·.size) = some (cw (orL Ws)).size) := cw_info.1
      go_wp2_with (first
        | (with_reducible refine wpList_load_row rfl 84 (.tmp 3) rfl _ rfl 84 _ _ _ hI.out.set.h Tryz.underlying84 rfl K1.out ?_)
        | (with_reducible refine wpList_store_row rfl 34 (.tmp 6) (.tmp 19) rfl (w.heap.size + 1) (cw (orL Ws)) rfl rfl 34 _ hI.out.res.h K2.out rfl (cw_one _) ?_))
      refine bodyPost_ret (results_cell_row rfl _ _ (w.heap.size + 1) 34 _ _ _ rfl (setRow_heap _ _ _ _ _ _ hI.out.res) Tryz.underlying34 rfl K2.out) rfl ?_
      exact ⟨rfl, below_setRow hI.out.below (by omega) _⟩
end Go.Proofs.YtnfkcdnkmcifbaaGreatDoor
namespace Go.Proofs.YtnfkcdnkmcifbaaGreatDoor
open Go.RowKit

set_option maxRecDepth 100000 in
set_option maxHeartbeats 1000000 in
theorem orF_any (w : World) (ao : Option Addr) (cap n : Nat) (Ws : List (Nat → Nat)) (hs : Sv w ao n cap 4 (cws Ws)) (hW : ∀ W ∈ Ws, Words W) :
    Calls Tryz.prog 34 #[.slice ao n cap] w fun r w' => r = .returned (.agg (cw (orL Ws))) ∧ Below w.heap.size w w' := by
  have HSl := Lib.hid hs; clear hs
  have HZ := Lib.hid hW; clear hW
  have K2 : Hid ((Tryz.prog.info? 34).map (·.size) = some (cw (orL Ws)).size) := cw_info.1
  go_enter Tryz.func34, Tryz.ntmps34
  go_wp2_with fail
  have HB := Lib.hid ((Below.refl w.heap.size w).alloc (Nat.le_refl _) (.cells #[.int .u64 0, .int .u64 0, .int .u64 0, .int .u64 0] 34))
  have HR := Lib.hid (show hrow (w.alloc (.cells #[.int .u64 0, .int .u64 0, .int .u64 0, .int .u64 0] 34)) w.heap.size (cw noW) 34 from hrow.new _ _ _)
  revert HB HR
  generalize w.alloc (.cells #[.int .u64 0, .int .u64 0, .int .u64 0, .int .u64 0] 34) = wb
  intro HB HR
  refine (fold_any wb ao cap n Ws (HSl.out.below HB.out) HZ.out).mono ?_
  rintro e w2 ⟨rfl, hb2⟩
  have HB2 := Lib.hid hb2; clear hb2
  have HR2 := Lib.hid (HR.out.below HB2.out)
  go_wp2_with (first
    | (with_reducible refine wpList_store_row rfl 34 (.tmp 2) (.tmp 5) rfl w.heap.size (cw (orL Ws)) rfl rfl 34 _ HR2.out.h K2.out rfl (cw_one _) ?_))
  refine bodyPost_ret (results_cell_row rfl _ _ w.heap.size 34 _ _ _ rfl (setRow_heap _ _ _ _ _ _ HR2.out) Tryz.underlying34 rfl K2.out) rfl ?_
  exact ⟨rfl, below_setRow (HB.out.trans (HB2.out.mono HB.out.size)) (Nat.le_refl _) _⟩

end Go.Proofs.YtnfkcdnkmcifbaaGreatDoor
namespace Go.Proofs.YtnfkcdnkmcifbaaGreatDoor
open Go.RowKit
set_option maxRecDepth 100000
set_option maxHeartbeats 4000000

/-- The words of a range. -/
def rgW (p : UInt8 × UInt8) : Nat → Nat := ((List.range 256).filter fun c => decide (p.1.toNat ≤ c ∧ c ≤ p.2.toNat)).foldl putW noW
/-- The words of a class that is given by ranges. -/
def clsW (R : List (UInt8 × UInt8)) : Nat → Nat := R.foldl (fun W p => orW W (rgW p)) noW
theorem clsW_nil : clsW [] = noW := rfl
theorem clsW_snoc (R : List (UInt8 × UInt8)) (p : UInt8 × UInt8) : clsW (R ++ [p]) = orW (clsW R) (rgW p) := by unfold clsW; rw [List.foldl_append]; rfl
theorem foldl_put : ∀ (l : List Nat) (W : Nat → Nat), (∀ b ∈ l, b < 256) → Words W → Words (l.foldl putW W) ∧ ∀ c, inW (l.foldl putW W) c = (inW W c || l.contains c)
 | [], W, _, hW => ⟨hW, fun c => by simp⟩
 | b :: l, W, hb, hW => by
  obtain ⟨h1, h2⟩ := foldl_put l (putW W b) (fun x hx => hb x (by simp [hx])) (putW_words hW b)
  refine ⟨h1, fun c => ?_⟩
  rw [List.foldl_cons, h2, inW_put, List.contains_cons, Bool.or_assoc]
  congr 1
theorem rgW_words (p : UInt8 × UInt8) : Words (rgW p) := (foldl_put _ _ (fun b hb => by simpa using (List.mem_filter.1 hb).1) noW_words).1
theorem rgW_in (p : UInt8 × UInt8) (c : Nat) (hc : c < 256) : inW (rgW p) c = decide (p.1.toNat ≤ c ∧ c ≤ p.2.toNat) := by
 unfold rgW
 rw [(foldl_put _ _ (fun b hb => by simpa using (List.mem_filter.1 hb).1) noW_words).2, inW_no, Bool.false_or, Bool.eq_iff_iff, List.contains_iff_mem, List.mem_filter]
 simp [hc]
theorem clsW_words : ∀ R, Words (clsW R) := by
 intro R
 unfold clsW
 suffices h : ∀ (R : List (UInt8 × UInt8)) W, Words W → Words (R.foldl (fun W p => orW W (rgW p)) W) from h R _ noW_words
 intro R
 induction R with
 | nil => exact fun _ h => h
 | cons p R ih => exact fun W h => ih _ (orW_words h (rgW_words p))
/-- Classes with the same bytes are the same. -/
theorem cw_ext {W V : Nat → Nat} (hW : Words W) (hV : Words V) (h : ∀ c, c < 256 → inW W c = inW V c) : cw W = cw V := by
 have e : ∀ i, i < 4 → W i = V i := fun i hi => by
  apply Nat.eq_of_testBit_eq
  intro j
  by_cases hj : j < 64
  ·have := h (64 * i + j) (by omega)
   unfold inW at this
   rw [show (64 * i + j) / 64 = i by omega, show (64 * i + j) % 64 = j by omega] at this
   exact this
  ·rw [Nat.testBit_lt_two_pow (Nat.lt_of_lt_of_le (hW i) (Nat.pow_le_pow_right (by omega) (by omega))), Nat.testBit_lt_two_pow (Nat.lt_of_lt_of_le (hV i) (Nat.pow_le_pow_right (by omega) (by omega)))]
 unfold cw
 rw [e 0 (by omega), e 1 (by omega), e 2 (by omega), e 3 (by omega)]
theorem rng_any (p : UInt8 × UInt8) (w : World) : Calls Tryz.prog 35 #[.int .u8 p.1.toNat, .int .u8 p.2.toNat] w fun e w' => e = .returned (.agg (cw (rgW p))) ∧ Below w.heap.size w w' :=
 (range_any w p.1.toNat p.2.toNat p.1.toNat_lt p.2.toNat_lt).mono fun e w' ⟨W, he, hW, hin, hb⟩ => ⟨by rw [he, cw_ext hW (rgW_words p) (fun c hc => by rw [hin, rgW_in p c hc])], hb⟩
/-- A word's cells, and what a reader of words tells. -/
def wdv (r : Wr) (k : Nat) : Array Value := wdA r.kind k ((k : Int) + r.n) (tx r.tx) r.lv (clsW r.cl 0) (clsW r.cl 1) (clsW r.cl 2) (clsW r.cl 3)
def wd0 : Array Value := wdA 0 0 0 ⟨#[]⟩ 0 0 0 0 0
def rdO (o : Option Wr) (k : Nat) : Value := match o with
 | some r => .tuple #[.agg (wdv r k), .bool true]
 | none => .tuple #[.agg wd0, .bool false]
/-- The end. -/
def endR (l : List UInt8) : Option Wr := match l with | [] => some ⟨1, 0, [], 0, []⟩ | _ => none
/-- An arrow. -/
def arrR (l : List UInt8) : Option Wr := match l with | c :: d :: _ => if c == 60 && d == 45 then some ⟨5, 2, [60, 45], 0, []⟩ else none | _ => none
/-- A sign. -/
def sgnR (l : List UInt8) : Option Wr := match l with | c :: _ => if sgs.contains c then some ⟨5, 1, [c], 0, []⟩ else none | [] => none
theorem results_row2 {P : Program} {fn : Func} {p q : Tmp} {ty : TypeId} (h : fn.results = #[.cell p ty, .tmp q]) (tmps : Array Value) (w : World) (g : Nat) (t : TypeId) (cs : Array Value) (fr : Nat × Nat) (d : TypeDesc)
    (hp : tmps.getD p undef = .pointer (some ⟨g, 0, none⟩)) (hg : w.heap[g]? = some (.cells cs t fr))
    (hu : P.underlying ty = some d) (hd : (match d with | .struct _ | .array _ _ => true | _ => false) = true) (hi : (P.info? ty).map (·.size) = some cs.size) :
    (results fn tmps).run P w = .ok (.tuple #[.agg cs, tmps.getD q undef]) w := by
  have hp' : tmps[p]?.getD undef = .pointer (some ⟨g, 0, none⟩) := by simpa using hp
  simp [results, h, hp', asAddr, run_loadVar_row w g t ty cs fr d hg hu hd hi]
theorem wd_info : (Tryz.prog.info? 36).map (·.size) = some 9 := by decide +kernel
theorem wd_sz {cs : Array Value} (h : cs.size = 9) : (Tryz.prog.info? 36).map (·.size) = some cs.size := h ▸ wd_info
theorem wd_szA (kind at_ nx : Int) (t : ByteArray) (lv c0 c1 c2 c3 : Int) : (Tryz.prog.info? 36).map (·.size) = some (wdA kind at_ nx t lv c0 c1 c2 c3).size := wd_info
theorem wd0_eq : wd0 = #[.int .i64 0, .int .i64 0, .int .i64 0, .string ⟨#[]⟩, .int .i64 0, .int .u64 0, .int .u64 0, .int .u64 0, .int .u64 0] := rfl
theorem wd_all (kind at_ nx : Int) (t : ByteArray) (lv c0 c1 c2 c3 : Int) : (wdA kind at_ nx t lv c0 c1 c2 c3).all (·.oneCell') = true := by simp [wdA, Value.oneCell']
/-- The store of a word into a word's block. -/
theorem store_word {ops : Array Oper} {rest : List Oper} {o : Oper} {a : Act} {w : World} {Q : Exit → Act → World → Prop} (hgd : o.guard = none) (x y : Operand) (ho : o.op = .store 36 x y)
    (g : Nat) (kind at_ nx : Int) (t : ByteArray) (lv c0 c1 c2 c3 : Int) (hx : a.eval x = .pointer (some ⟨g, 0, none⟩)) (hy : a.eval y = .agg #[.int .i64 kind, .int .i64 at_, .int .i64 nx, .string t, .int .i64 lv, .int .u64 c0, .int .u64 c1, .int .u64 c2, .int .u64 c3])
    (hg : hrow w g wd0 36)
    (h : wpList Tryz.prog ops Q rest (a.put o.dst undef) (w.setRow g #[.int .i64 kind, .int .i64 at_, .int .i64 nx, .string t, .int .i64 lv, .int .u64 c0, .int .u64 c1, .int .u64 c2, .int .u64 c3])) : wpList Tryz.prog ops Q (o :: rest) a w :=
  wpList_store_row hgd _ x y ho g _ hx hy _ _ hg.h (wd_sz rfl) rfl (wd_all ..) h
theorem results_word {fn : Func} {p q : Tmp} (h : fn.results = #[.cell p 36, .tmp q]) (tmps : Array Value) (w : World) (g : Nat) (cs : Array Value) (b : Value)
    (hp : tmps.getD p undef = .pointer (some ⟨g, 0, none⟩)) (hq : tmps.getD q undef = b) (hg : hrow w g wd0 36) (hs : cs.size = 9) : (results fn tmps).run Tryz.prog (w.setRow g cs) = .ok (.tuple #[.agg cs, b]) (w.setRow g cs) := by
  subst hq
  exact results_row2 h tmps _ g _ cs _ _ hp (setRow_heap _ _ _ _ _ _ hg) Tryz.underlying36 rfl (wd_sz hs)
theorem end_any (s : ByteArray) (k g : Nat) (w : World) (hr : Rdr w g s k) (hs : s.size ≤ 1000000) (hk : k ≤ s.size) :
  Calls Tryz.prog 15 #[.pointer (some ⟨g, 0, none⟩)] w fun e w' => e = .returned (rdO (endR (s.data.toList.drop k)) k) ∧ Below w.heap.size w w' := by
 have HRD := Lib.hid hr
 by_cases h : k < s.size
 ·have hI : (k : Int) < s.size := by omega
  have hd : decide ((k : Int) < s.size) = true := decide_eq_true hI
  have HE : Hid (endR (s.data.toList.drop k) = none) := by rw [drop_at h]; rfl
  rw [HE.out]
  clear hr hs hk h
  go_enter Tryz.func15, Tryz.ntmps15
  go_wp2_with fail
  have HB := Lib.hid ((Below.refl w.heap.size w).alloc (Nat.le_refl _) (.cells #[.int .i64 0, .int .i64 0, .int .i64 0, .string ⟨#[]⟩, .int .i64 0, .int .u64 0, .int .u64 0, .int .u64 0, .int .u64 0] 36))
  have HR := Lib.hid (show hrow (w.alloc (.cells #[.int .i64 0, .int .i64 0, .int .i64 0, .string ⟨#[]⟩, .int .i64 0, .int .u64 0, .int .u64 0, .int .u64 0, .int .u64 0] 36)) w.heap.size wd0 36 from hrow.new _ _ _)
  replace HRD := Lib.hid (Rdr.below HRD.out HB.out)
  revert HB HR HRD
  generalize w.alloc (.cells #[.int .i64 0, .int .i64 0, .int .i64 0, .string ⟨#[]⟩, .int .i64 0, .int .u64 0, .int .u64 0, .int .u64 0, .int .u64 0] 36) = wb
  intro HB HR HRD
  have HRN : Hid (∀ n, hrow (wb.drewN n) w.heap.size wd0 36) := Lib.hid (fun _ => HR.out)
  obtain ⟨c0, c1⟩ := hrow.c2 HRD.out
  go_quiet (fail)
  go_wp2_with (with_reducible refine store_word rfl (.tmp 2) (.tmp 16) rfl w.heap.size _ _ _ _ _ _ _ _ _ rfl rfl (HRN.out _) ?_)
  refine bodyPost_ret (results_word rfl _ _ w.heap.size _ _ rfl rfl (HRN.out _) ?_) rfl ?_
  next => rfl
  next => first | exact ⟨rfl, below_setRow (belowN HB.out _) (Nat.le_refl _) _⟩ | exact ⟨by rw [HE.out]; rfl, below_setRow (belowN HB.out _) (Nat.le_refl _) _⟩
 ·obtain rfl : k = s.size := by omega
  have hI : ¬ (s.size : Int) < s.size := by omega
  have hd : decide ((s.size : Int) < s.size) = false := decide_eq_false hI
  have HE : Hid (endR (s.data.toList.drop s.size) = some ⟨1, 0, [], 0, []⟩) := by rw [List.drop_eq_nil_of_le (by rw [ba_len]; exact Nat.le_refl _)]; rfl
  rw [HE.out]
  clear hr hk h
  have HS := Lib.hid hs; clear hs
  go_enter Tryz.func15, Tryz.ntmps15
  go_wp2_with fail
  have HB := Lib.hid ((Below.refl w.heap.size w).alloc (Nat.le_refl _) (.cells #[.int .i64 0, .int .i64 0, .int .i64 0, .string ⟨#[]⟩, .int .i64 0, .int .u64 0, .int .u64 0, .int .u64 0, .int .u64 0] 36))
  have HR := Lib.hid (show hrow (w.alloc (.cells #[.int .i64 0, .int .i64 0, .int .i64 0, .string ⟨#[]⟩, .int .i64 0, .int .u64 0, .int .u64 0, .int .u64 0, .int .u64 0] 36)) w.heap.size wd0 36 from hrow.new _ _ _)
  replace HRD := Lib.hid (Rdr.below HRD.out HB.out)
  revert HB HR HRD
  generalize w.alloc (.cells #[.int .i64 0, .int .i64 0, .int .i64 0, .string ⟨#[]⟩, .int .i64 0, .int .u64 0, .int .u64 0, .int .u64 0, .int .u64 0] 36) = wb
  intro HB HR HRD
  have HRN : Hid (∀ n, hrow (wb.drewN n) w.heap.size wd0 36) := Lib.hid (fun _ => HR.out)
  obtain ⟨c0, c1⟩ := hrow.c2 HRD.out
  go_quiet (fail)
  go_wp2_with fail
  refine (word_any 1 0 0 0 0 0 0 0 0 ⟨#[]⟩ s _ g _ (HRD.out.below (belowN (Below.refl _ _) _)) (by have := HS.out; omega) (by omega) (by omega)).mono ?_
  rintro e wx ⟨rfl, hb⟩
  have HRX := Lib.hid ((HRN.out _).below hb)
  have HBX := Lib.hid ((belowN HB.out _).trans (hb.mono HB.out.size))
  clear hb
  go_wp2_with (with_reducible refine store_word rfl (.tmp 2) (.tmp 20) rfl w.heap.size _ _ _ _ _ _ _ _ _ rfl rfl HRX.out ?_)
  refine bodyPost_ret (results_word rfl _ _ w.heap.size _ _ rfl rfl HRX.out ?_) rfl ?_
  next => rfl
  next => first | exact ⟨rfl, below_setRow HBX.out (Nat.le_refl _) _⟩ | exact ⟨by rw [HE.out]; rfl, below_setRow HBX.out (Nat.le_refl _) _⟩
end Go.Proofs.YtnfkcdnkmcifbaaGreatDoor
namespace Go.Proofs.YtnfkcdnkmcifbaaGreatDoor
open Go.RowKit
set_option maxRecDepth 100000
set_option maxHeartbeats 4000000

/-- 256 truths. -/
def boA (B : Nat → Bool) : Array Value := ((List.range 256).map fun b => Value.bool (B b)).toArray
theorem boA_get (B : Nat → Bool) (b : Nat) (h : b < 256) : (boA B)[b]? = some (.bool (B b)) := by
 unfold boA
 rw [List.getElem?_toArray, List.getElem?_map, List.getElem?_range h]; rfl
theorem boA_size (B : Nat → Bool) : (boA B).size = 256 := by unfold boA; simp
theorem boA_set (B : Nat → Bool) (b : Nat) (v : Bool) : (boA B).setIfInBounds b (.bool v) = boA (fun c => if c = b then v else B c) := by
 apply Array.ext
 ·simp [boA_size]
 ·intro i h1 h2
  have hi : i < 256 := by rw [boA_size] at h2; exact h2
  have e2 := boA_get (fun c => if c = b then v else B c) i hi
  rw [Array.getElem?_eq_getElem h2, Option.some.injEq] at e2
  rw [e2, Array.getElem_setIfInBounds]
  by_cases hb : b = i
  ·rw [if_pos hb, if_pos hb.symm]
  ·rw [if_neg hb, if_neg (Ne.symm hb)]
   have e1 := boA_get B i hi
   rw [Array.getElem?_eq_getElem (by rw [boA_size]; exact hi), Option.some.injEq] at e1
   exact e1
theorem boA_no : boA (fun _ => false) = Array.replicate 256 (.bool false) := by
 apply Array.ext
 ·simp [boA_size]
 ·intro i h1 h2
  have hi : i < 256 := by rw [boA_size] at h1; exact h1
  have e2 := boA_get (fun _ => false) i hi
  rw [Array.getElem?_eq_getElem h1, Option.some.injEq] at e2
  rw [e2]; simp
theorem boA_one (B : Nat → Bool) : (boA B).all (·.oneCell') = true := by unfold boA; simp [Value.oneCell']
/-- A word, so far filled. -/
theorem word_lt {W : Nat → Nat} (hW : Words W) {B : Nat → Bool} {k : Nat} (h : ∀ c, inW W c = (decide (c < k) && B c)) : W (k / 64) < 2 ^ (k % 64) := by
 apply Nat.lt_pow_two_of_testBit
 intro i hi
 by_cases hj : i < 64
 ·have := h (64 * (k / 64) + i)
  unfold inW at this
  rw [show (64 * (k / 64) + i) / 64 = k / 64 by omega, show (64 * (k / 64) + i) % 64 = i by omega] at this
  rw [this, decide_eq_false (by omega)]
  rfl
 ·exact Nat.testBit_lt_two_pow (Nat.lt_of_lt_of_le (hW _) (Nat.pow_le_pow_right (by omega) (by omega)))
theorem word_add {x n : Nat} (h : x < 2 ^ n) : x + 2 ^ n = x ||| 2 ^ n := by
 have := Nat.two_pow_add_eq_or_of_lt h 1
 rw [Nat.mul_one] at this
 rw [Nat.add_comm, Nat.or_comm, this]
theorem sum_word {x n : Nat} (hx : x < 2 ^ n) (hn : n < 64) : IntKind.u64.wrap ((x : Int) + IntKind.u64.wrap (2 ^ n)) = ((x ||| 2 ^ n : Nat) : Int) := by
 have h2 : (2 : Nat) ^ n < 2 ^ 64 := Nat.pow_lt_pow_right (by decide) hn
 have h3 : x + 2 ^ n < 2 ^ 64 := by
  have : (2 : Nat) ^ (n + 1) ≤ 2 ^ 64 := Nat.pow_le_pow_right (by decide) hn
  rw [Nat.pow_succ] at this; omega
 have e : IntKind.u64.wrap (2 ^ n) = ((2 ^ n : Nat) : Int) := by
  rw [wraps64 _ (by exact_mod_cast Nat.zero_le (2 ^ n)) (by exact_mod_cast h2)]
  norm_cast
 rw [e, ← word_add hx, wraps64 _ (by omega) (by exact_mod_cast h3)]
 norm_cast
/-- The bytes of a row of truths. -/
def bitW (B : Nat → Bool) : Nat → Nat := ((List.range 256).filter B).foldl putW noW
theorem bitW_words (B : Nat → Bool) : Words (bitW B) := (foldl_put _ _ (fun b hb => by simpa using (List.mem_filter.1 hb).1) noW_words).1
theorem bitW_in (B : Nat → Bool) (c : Nat) (hc : c < 256) : inW (bitW B) c = B c := by
 unfold bitW
 rw [(foldl_put _ _ (fun b hb => by simpa using (List.mem_filter.1 hb).1) noW_words).2, inW_no, Bool.false_or, Bool.eq_iff_iff, List.contains_iff_mem, List.mem_filter]
 simp [hc]
structure RsI (w wr : World) (k : Nat) (B : Nat → Bool) (W : Nat → Nat) (g : Nat) : Prop where
 below : Below w.heap.size w wr
 res : hrow wr w.heap.size (cw noW) 34
 set : hrow wr (w.heap.size + 1) (cw W) 34
 words : Words W
 is : ∀ c, inW W c = (decide (c < k) && B c)
 inr : hrow wr g (boA B) 4
theorem rset_any (w : World) (g : Nat) (B : Nat → Bool) (h : hrow w g (boA B) 4) : Calls Tryz.prog 66 #[.slice (some ⟨g, 0, none⟩) 256 256] w fun r w' => r = .returned (.agg (cw (bitW B))) ∧ Below w.heap.size w w' := by
 have HS : Hid (RsI w ((w.alloc (.cells #[.int .u64 0, .int .u64 0, .int .u64 0, .int .u64 0] 34)).alloc (.cells #[.int .u64 0, .int .u64 0, .int .u64 0, .int .u64 0] 34)) 0 B noW g) := by
  have hb := ((Below.refl w.heap.size w).alloc (Nat.le_refl _) (.cells #[.int .u64 0, .int .u64 0, .int .u64 0, .int .u64 0] 34)).alloc (by simp) (.cells #[.int .u64 0, .int .u64 0, .int .u64 0, .int .u64 0] 34)
  refine ⟨hb, (hrow.new w _ 34).below ((Below.refl _ _).alloc (Nat.le_refl _) _), ?_, noW_words, fun c => by rw [inW_no]; simp, h.below hb⟩
  have := hrow.new (w.alloc (.cells #[.int .u64 0, .int .u64 0, .int .u64 0, .int .u64 0] 34)) #[.int .u64 0, .int .u64 0, .int .u64 0, .int .u64 0] 34
  simp only [World.size_alloc] at this
  exact this
 have HGL := Lib.hid h.lt
 clear h
 go_enter Tryz.func66, Tryz.ntmps66
 go_wp2_with fail
 go_loopw [4] (fun i wr => ∃ k : Nat, k ≤ 256 ∧ i = .int .i64 k ∧ Hid (∃ W, RsI w wr k B W g)) (fun i _ => 256 - (intOf i).toNat)
 case atStart => exact ⟨0, by omega, rfl, noW, HS.out⟩
 case round =>
  clear HS
  obtain ⟨k, hk, rfl, W, HJ⟩ := hrel
  have HI := Lib.hid HJ; clear HJ
  by_cases hlt : k < 256
  ·have hltI : (k : Int) < 256 := by omega
   have hk0 : (0 : Int) ≤ k := by omega
   have hc := (HI.out.inr.cell k).trans (boA_get B k hlt)
   obtain ⟨v, hv⟩ : ∃ v, B k = v := ⟨_, rfl⟩
   rw [hv] at hc
   have HV := Lib.hid hv; clear hv
   have HN := Lib.hid hlt
   cases v with
   | true =>
    have hcc : ∀ x : Later wr, x.val.cell? ⟨w.heap.size + 1, k / 64, none⟩ = some (.int .u64 (W (k / 64))) := fun x => ((HI.out.set.below x.ok).cell _).trans (cw_get W _ (by have := HN.out; omega))
    have hff : ∀ x : Later wr, x.val.frozen? ⟨w.heap.size + 1, k / 64, none⟩ = false := fun x => ((HI.out.set.below x.ok).frozen _)
    clear hlt
    go_wp2_with fail
    refine wp_region_later_tail 11 (by kernel_rfl) (by kernel_rfl) ?_
    simp only [List.take_succ_cons, List.take_zero, List.drop_succ_cons, List.drop_zero]
    repeat (go_big_quiet_step (fail))
    refine wpQuiet_nil ?_
    intro w5 hw5
    obtain ⟨x, rfl⟩ := hw5
    go_wp2_with fail
    go_roundw
    case rel =>
     refine ⟨k + 1, HN.out, by go_num, putW W k, (HI.out.below.trans (x.ok.mono HI.out.below.size)).setCell (p := ⟨w.heap.size + 1, k / 64, none⟩) (by simp) _, ?_, ?_, putW_words HI.out.words k, fun c => ?_, ?_⟩
     ·exact (HI.out.res.below x.ok).fr (Fr.setCell _ ⟨w.heap.size + 1, k / 64, none⟩ _) (by simp)
     ·unfold hrow
      rw [heap_setCell_same _ _ _ _ _ _ (HI.out.set.below x.ok)]
      rw [cw_set W k HN.out _ (sum_word (word_lt HI.out.words HI.out.is) (Nat.mod_lt _ (by decide)))]
     ·rw [inW_put, HI.out.is]
      by_cases hc : c = k
      ·subst hc; rw [HV.out]; simp
      ·rw [decide_eq_decide.2 (show c < k ↔ c < k + 1 by omega), decide_eq_false hc, Bool.or_false]
     ·exact (HI.out.inr.below x.ok).fr (Fr.setCell _ ⟨w.heap.size + 1, k / 64, none⟩ _) (by have := HGL.out; simp; omega)
    case measure => have := HN.out; simp [intOf]; omega
   | false =>
    clear hlt
    go_wp2_with fail
    go_roundw
    case rel => exact ⟨k + 1, HN.out, by go_num, W, ⟨HI.out.below, HI.out.res, HI.out.set, HI.out.words, fun c => by
     rw [HI.out.is]
     by_cases hc : c = k
     ·subst hc; rw [HV.out]; simp
     ·rw [decide_eq_decide.2 (show c < k ↔ c < k + 1 by omega)], HI.out.inr⟩⟩
    case measure => have := HN.out; simp [intOf]; omega
  ·have hltI : ¬ (k : Int) < 256 := by omega
   obtain rfl : k = 256 := by omega
   have K2 : Hid ((Tryz.prog.info? 34).map (·.size) = some (cw W).size) := cw_info.1
   have HE : Hid (cw W = cw (bitW B)) := cw_ext HI.out.words (bitW_words B) (fun c hc => by rw [HI.out.is, bitW_in B c hc, decide_eq_true hc, Bool.true_and])
   go_wp2_with (first
    | (with_reducible refine wpList_load_row rfl 34 (.tmp 3) rfl _ rfl 34 _ _ _ HI.out.set.h Tryz.underlying34 rfl K2.out ?_)
    | (with_reducible refine wpList_store_row rfl 34 (.tmp 2) (.tmp 24) rfl w.heap.size (cw W) rfl rfl 34 _ HI.out.res.h K2.out rfl (cw_one W) ?_))
   refine bodyPost_ret (results_cell_row rfl _ _ w.heap.size 34 _ _ _ rfl (setRow_heap _ _ _ _ _ _ HI.out.res) Tryz.underlying34 rfl K2.out) rfl ?_
   exact ⟨by rw [HE.out], below_setRow HI.out.below (Nat.le_refl _) _⟩
end Go.Proofs.YtnfkcdnkmcifbaaGreatDoor
namespace Go.Proofs.YtnfkcdnkmcifbaaGreatDoor
open Go.RowKit
set_option maxRecDepth 100000
set_option maxHeartbeats 4000000

theorem arr_none {l : List UInt8} (h : Lib.hasPrefix l [60, 45] = false) : arrR l = none := by
 unfold arrR
 match l, h with
 | [], _ => rfl
 | [_], _ => rfl
 | c :: d :: t, h =>
  simp [Lib.hasPrefix] at h ⊢
  intro h1 h2
  rw [h1, h2] at h
  simp [List.isPrefixOf] at h
theorem arr_some {l : List UInt8} (h : Lib.hasPrefix l [60, 45] = true) : arrR l = some ⟨5, 2, [60, 45], 0, []⟩ := by
 unfold arrR
 match l, h with
 | [], h => simp [Lib.hasPrefix] at h
 | [_], h => simp [Lib.hasPrefix] at h
 | c :: d :: t, h =>
  simp [Lib.hasPrefix] at h ⊢
  simpa [eq_comm] using h
theorem arrow_any (s : ByteArray) (k g : Nat) (w : World) (hr : Rdr w g s k) (hs : s.size ≤ 1000000) (hk : k ≤ s.size) :
  Calls Tryz.prog 19 #[.pointer (some ⟨g, 0, none⟩)] w fun e w' => e = .returned (rdO (arrR (s.data.toList.drop k)) k) ∧ Below w.heap.size w w' := by
 have HRD := Lib.hid hr
 have HS := Lib.hid hs
 have HK := Lib.hid hk
 clear hr hs hk
 go_enter Tryz.func19, Tryz.ntmps19
 go_wp2_with fail
 have HB := Lib.hid ((Below.refl w.heap.size w).alloc (Nat.le_refl _) (.cells #[.int .i64 0, .int .i64 0, .int .i64 0, .string ⟨#[]⟩, .int .i64 0, .int .u64 0, .int .u64 0, .int .u64 0, .int .u64 0] 36))
 have HR := Lib.hid (show hrow (w.alloc (.cells #[.int .i64 0, .int .i64 0, .int .i64 0, .string ⟨#[]⟩, .int .i64 0, .int .u64 0, .int .u64 0, .int .u64 0, .int .u64 0] 36)) w.heap.size wd0 36 from hrow.new _ _ _)
 replace HRD := Lib.hid (Rdr.below HRD.out HB.out)
 revert HB HR HRD
 generalize w.alloc (.cells #[.int .i64 0, .int .i64 0, .int .i64 0, .string ⟨#[]⟩, .int .i64 0, .int .u64 0, .int .u64 0, .int .u64 0, .int .u64 0] 36) = wb
 intro HB HR HRD
 have HRN : Hid (∀ n, hrow (wb.drewN n) w.heap.size wd0 36) := Lib.hid (fun _ => HR.out)
 obtain ⟨c0, c1⟩ := hrow.c2 HRD.out
 go_wp2_with fail
 refine (left_any s k g _ HRD.out HK.out).mono ?_
 rintro e x ⟨rfl, hb⟩
 replace HR := Lib.hid (HR.out.below hb)
 replace HRD := Lib.hid (HRD.out.below hb)
 replace HB := Lib.hid (HB.out.trans (hb.mono HB.out.size))
 clear hb HRN c0 c1
 obtain ⟨c0, c1⟩ := hrow.c2 HRD.out
 go_wp2_with fail
 refine (Tryz.strings_HasPrefix _ _ x).mono ?_
 rintro e x2 ⟨rfl, rfl⟩
 rw [tx_list]
 cases hp : Lib.hasPrefix (s.data.toList.drop k) (ByteArray.mk #[60, 45]).data.toList with
 | false =>
  have HE := Lib.hid (arr_none hp)
  clear hp
  go_wp2_with (with_reducible refine store_word rfl (.tmp 2) (.tmp 10) rfl w.heap.size _ _ _ _ _ _ _ _ _ rfl rfl HR.out ?_)
  refine bodyPost_ret (results_word rfl _ _ w.heap.size _ _ rfl rfl HR.out ?_) rfl ?_
  next => rfl
  next => first | exact ⟨rfl, below_setRow HB.out (Nat.le_refl _) _⟩ | exact ⟨by rw [HE.out]; rfl, below_setRow HB.out (Nat.le_refl _) _⟩
 | true =>
  have HE := Lib.hid (arr_some hp)
  clear hp
  go_wp2_with fail
  refine (word_any 5 0 0 0 0 0 0 0 2 ⟨#[60, 45]⟩ s k g _ HRD.out (by have := HS.out; have := HK.out; omega) (by omega) (by omega)).mono ?_
  rintro e wx ⟨rfl, hb⟩
  have HRX := Lib.hid (HR.out.below hb)
  have HBX := Lib.hid (HB.out.trans (hb.mono HB.out.size))
  clear hb
  go_wp2_with (with_reducible refine store_word rfl (.tmp 2) (.tmp 14) rfl w.heap.size _ _ _ _ _ _ _ _ _ rfl rfl HRX.out ?_)
  refine bodyPost_ret (results_word rfl _ _ w.heap.size _ _ rfl rfl HRX.out ?_) rfl ?_
  next => rfl
  next => first | exact ⟨rfl, below_setRow HBX.out (Nat.le_refl _) _⟩ | exact ⟨by rw [HE.out]; rfl, below_setRow HBX.out (Nat.le_refl _) _⟩
theorem to_run {P : Program} (t : TypeId) (ht : P.underlying t = some .string) (l : List UInt8) (k : Nat) (a : Int) (ha : a = k) (h : k ≤ l.length) (wx : World) :
  (Instr.slice t (.string (tx l)) none (some (.int .i64 a)) none).run P wx = .ok (.string (tx (l.take k))) wx := by
 subst ha
 have := run_slice_string_to_if (P := P) wx t (tx l) .i64 k ht
 rw [this, if_pos (by rw [tx_size]; omega)]
 rw [Int.toNat_natCast]
 congr 2
 apply ByteArray.ext
 rw [ByteArray.data_extract]
 unfold tx
 apply Array.toList_inj.1
 simp
def sgB : ByteArray := ⟨#[47, 40, 41, 46, 59, 42, 43, 63, 33, 38]⟩
theorem sg_ix (c : UInt8) : decide (Lib.indexByte sgB.data.toList c < 0) = !sgs.contains c := u8_all (P := fun c => decide (Lib.indexByte sgB.data.toList c < 0) = !sgs.contains c) (by decide +kernel) c
theorem sign_any (s : ByteArray) (k g : Nat) (w : World) (hr : Rdr w g s k) (hs : s.size ≤ 1000000) (hk : k < s.size) :
  Calls Tryz.prog 20 #[.pointer (some ⟨g, 0, none⟩)] w fun e w' => e = .returned (rdO (sgnR (s.data.toList.drop k)) k) ∧ Below w.heap.size w w' := by
 have HRD := Lib.hid hr
 have HS := Lib.hid hs
 have hI : (k : Int) < s.size := by omega
 have h0 : (0 : Int) ≤ k := by omega
 have HK := Lib.hid (Nat.le_of_lt hk)
 have HX := Lib.hid (sg_ix s[k])
 have HD := Lib.hid (drop_at hk)
 have HI : Hid (∀ x : World, Calls Tryz.prog 24 #[.string sgB, .int .u8 s[k].toNat] x fun e w' => e = .returned (.int .i64 (Lib.indexByte sgB.data.toList s[k])) ∧ w' = x) := Lib.hid (fun x => by
  have := Tryz.strings_IndexByte sgB s[k].toNat x
  rwa [Int.toNat_natCast, show s[k].toNat.toUInt8 = s[k] by simp] at this)
 clear hr hs
 go_enter Tryz.func20, Tryz.ntmps20
 go_wp2_with fail
 have HB := Lib.hid ((Below.refl w.heap.size w).alloc (Nat.le_refl _) (.cells #[.int .i64 0, .int .i64 0, .int .i64 0, .string ⟨#[]⟩, .int .i64 0, .int .u64 0, .int .u64 0, .int .u64 0, .int .u64 0] 36))
 have HR := Lib.hid (show hrow (w.alloc (.cells #[.int .i64 0, .int .i64 0, .int .i64 0, .string ⟨#[]⟩, .int .i64 0, .int .u64 0, .int .u64 0, .int .u64 0, .int .u64 0] 36)) w.heap.size wd0 36 from hrow.new _ _ _)
 replace HRD := Lib.hid (Rdr.below HRD.out HB.out)
 revert HB HR HRD
 generalize w.alloc (.cells #[.int .i64 0, .int .i64 0, .int .i64 0, .string ⟨#[]⟩, .int .i64 0, .int .u64 0, .int .u64 0, .int .u64 0, .int .u64 0] 36) = wb
 intro HB HR HRD
 have HRN : Hid (∀ n, hrow (wb.drewN n) w.heap.size wd0 36) := Lib.hid (fun _ => HR.out)
 obtain ⟨c0, c1⟩ := hrow.c2 HRD.out
 go_quiet ((go_at_call 24; exact Calls.quiet_of_same (HI.out _)))
 by_cases hlt : Lib.indexByte sgB.data.toList s[k] < 0
 ·have HE : Hid (sgnR (s.data.toList.drop k) = none) := by
   have := HX.out
   rw [decide_eq_true hlt] at this
   unfold Hid sgnR
   rw [HD.out]
   simp only [] at this ⊢
   rw [if_neg (by simpa using this)]
  clear HD HI HX c0 c1
  go_wp2_with (with_reducible refine store_word rfl (.tmp 2) (.tmp 17) rfl w.heap.size _ _ _ _ _ _ _ _ _ rfl rfl (HRN.out _) ?_)
  refine bodyPost_ret (results_word rfl _ _ w.heap.size _ _ rfl rfl (HRN.out _) ?_) rfl ?_
  next => rfl
  next => first | exact ⟨rfl, below_setRow (belowN HB.out _) (Nat.le_refl _) _⟩ | exact ⟨by rw [HE.out]; rfl, below_setRow (belowN HB.out _) (Nat.le_refl _) _⟩
 ·have HE : Hid (sgnR (s.data.toList.drop k) = some ⟨5, 1, [s[k]], 0, []⟩) := by
   have := HX.out
   rw [decide_eq_false hlt] at this
   unfold Hid sgnR
   rw [HD.out]
   simp only [] at this ⊢
   rw [if_pos (by simpa using this)]
  have hsl : ∀ wx, (Instr.slice 9 (.string (tx (s.data.toList.drop k))) none (some (.int .i64 1)) none).run Tryz.prog wx = .ok (.string (tx [s[k]])) wx := fun wx => by
   rw [HD.out]
   exact to_run 9 Tryz.underlying9 _ 1 1 rfl (by simp) wx
  clear HD HI HX c0 c1
  go_wp2_with fail
  refine (left_any s k g _ (HRD.out.below (belowN (Below.refl _ _) _)) HK.out).mono ?_
  rintro e x ⟨rfl, hb⟩
  replace HR := Lib.hid ((HRN.out _).below hb)
  replace HRD := Lib.hid (Rdr.below (HRD.out.below (belowN (Below.refl _ _) _)) hb)
  replace HB := Lib.hid ((belowN HB.out _).trans (hb.mono HB.out.size))
  clear hb HRN
  go_wp2_with fail
  refine (word_any 5 0 0 0 0 0 0 0 1 (tx [s[k]]) s k g _ HRD.out (by have := HS.out; have := HK.out; omega) (by omega) (by omega)).mono ?_
  rintro e wx ⟨rfl, hb⟩
  have HRX := Lib.hid (HR.out.below hb)
  have HBX := Lib.hid (HB.out.trans (hb.mono HB.out.size))
  clear hb
  go_wp2_with (with_reducible refine store_word rfl (.tmp 2) (.tmp 26) rfl w.heap.size _ _ _ _ _ _ _ _ _ rfl rfl HRX.out ?_)
  refine bodyPost_ret (results_word rfl _ _ w.heap.size _ _ rfl rfl HRX.out ?_) rfl ?_
  next => rfl
  next => first | exact ⟨rfl, below_setRow HBX.out (Nat.le_refl _) _⟩ | exact ⟨by rw [HE.out]; rfl, below_setRow HBX.out (Nat.le_refl _) _⟩
end Go.Proofs.YtnfkcdnkmcifbaaGreatDoor
