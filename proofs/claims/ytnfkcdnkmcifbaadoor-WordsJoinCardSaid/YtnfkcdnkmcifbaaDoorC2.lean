/- Walks: sets of bytes, second part. -/
import Derived.Test.YtnfkcdnkmcifbaaDoorC1
namespace Go.Proofs.YtnfkcdnkmcifbaaDoor
open Go.RowKit

def bys (zs : List Nat) : List Value := zs.map fun (c : Nat) => Value.int .u8 (c : Int)

def orW (W V : Nat → Nat) : Nat → Nat := fun i => W i ||| V i
theorem orW_words {W V : Nat → Nat} (h : Words W) (k : Words V) : Words (orW W V) := fun i => Nat.or_lt_two_pow (h i) (k i)
theorem inW_or (W V : Nat → Nat) (c : Nat) : inW (orW W V) c = (inW W c || inW V c) := by unfold inW orW; rw [Nat.testBit_or]
/-- The first k words are joined. -/
def orK (W V : Nat → Nat) (k : Nat) : Nat → Nat := fun i => if i < k then W i ||| V i else W i
theorem orK_words {W V : Nat → Nat} (h : Words W) (k : Words V) (n : Nat) : Words (orK W V n) := fun i => by unfold orK; split; exact Nat.or_lt_two_pow (h i) (k i); exact h i
theorem orK_set (W V : Nat → Nat) (k : Nat) (hk : k < 4) (x : Int) (hx : x = ((W k ||| V k : Nat) : Int)) : (cw (orK W V k)).setIfInBounds k (.int .u64 x) = cw (orK W V (k + 1)) := by
  subst hx
  have : k = 0 ∨ k = 1 ∨ k = 2 ∨ k = 3 := by omega
  rcases this with rfl | rfl | rfl | rfl <;> simp [cw, orK]
theorem orK_four (W V : Nat → Nat) : cw (orK W V 4) = cw (orW W V) := by simp [cw, orK, orW]
theorem orK_zero (W V : Nat → Nat) : orK W V 0 = W := by funext i; simp [orK]
theorem orK_at (W V : Nat → Nat) (k : Nat) : orK W V k k = W k := by simp [orK]
theorem or_words (x y : Nat) (hx : x < 2 ^ 64) (hy : y < 2 ^ 64) : bits BinOp.or IntKind.u64 (x : Int) (y : Int) = ((x ||| y : Nat) : Int) := (bits_nat .u64 64 (by decide) wraps64 x y hx hy).2

set_option maxRecDepth 100000 in
set_option maxHeartbeats 1000000 in
theorem orm_any (w : World) (g : Nat) (W V : Nat → Nat) (hr : hrow w g (cw W) 83) (hW : Words W) (hV : Words V) :
    Calls Tryd.prog 43 #[.pointer (some ⟨g, 0, none⟩), .agg (cw V)] w fun r w' => r = .returned (.tuple #[]) ∧ hrow w' g (cw (orW W V)) 83 ∧ Fr (fun k => k = g) w w' := by
  have HR := Lib.hid hr
  have HW := Lib.hid hW
  have HV := Lib.hid hV
  clear hr hW hV
  have hgw := HR.out.lt
  go_enter Tryd.func43, Tryd.ntmps43
  go_wp2_with fail
  have h0 : hrow (w.alloc (.cells (cw V) 83)) g (cw (orK W V 0)) 83 := by rw [orK_zero]; exact HR.out.below ((Below.refl _ _).alloc (Nat.le_refl _) _)
  have h1 : hrow (w.alloc (.cells (cw V) 83)) w.heap.size (cw V) 83 := hrow.new _ _ _
  have h2 : Fr (fun k => k = g) w (w.alloc (.cells (cw V) 83)) := Fr.of_below ((Below.refl _ _).alloc (Nat.le_refl _) _)
  have H0 := Lib.hid (And.intro h0 (And.intro h1 h2))
  clear h0 h1 h2
  go_loopw [5] (fun i wr => ∃ k : Nat, k ≤ 4 ∧ i = .int .i64 k ∧ Hid (hrow wr g (cw (orK W V k)) 83 ∧ hrow wr w.heap.size (cw V) 83 ∧ Fr (fun k => k = g) w wr)) (fun i _ => 4 - (intOf i).toNat)
  case atStart => exact ⟨0, by omega, rfl, H0.out⟩
  case round =>
    obtain ⟨k, hk, rfl, hI⟩ := hrel
    have H1 := Lib.hid hI.out.1; have H2 := Lib.hid hI.out.2.1; have H3 := Lib.hid hI.out.2.2
    clear hI H0
    by_cases hlt : k < 4
    · have hcg : ∀ x : Later wr, x.val.cell? ⟨g, k, none⟩ = some (.int .u64 (W k)) := fun x => by
        rw [(H1.out.below x.ok).cell, cw_get _ _ hlt, orK_at]
      have hcv : ∀ x : Later wr, x.val.cell? ⟨w.heap.size, k, none⟩ = some (.int .u64 (V k)) := fun x => by
        rw [(H2.out.below x.ok).cell, cw_get _ _ hlt]
      have hfg : ∀ x : Later wr, x.val.frozen? ⟨g, k, none⟩ = false := fun x => (H1.out.below x.ok).frozen _
      have hk0 : (0 : Int) ≤ k := by omega
      have hk4 : (k : Int) < 4 := by omega
      go_upto_region 4 with (fail)
      refine wp_region_later_tail 11 (by kernel_rfl) (by kernel_rfl) ?_
      simp only [List.take_succ_cons, List.take_zero, List.drop_succ_cons, List.drop_zero]
      repeat (go_big_quiet_step (fail))
      refine wpQuiet_nil ?_
      intro w5 hw5
      obtain ⟨x, rfl⟩ := hw5
      go_wp2_with fail
      go_roundw
      case rel =>
        refine ⟨k + 1, by omega, by go_num, ?_, ?_, ?_⟩
        · unfold hrow
          rw [heap_setCell_same _ _ _ _ _ _ (H1.out.below x.ok).h, orK_set W V k hlt _ (or_words _ _ (HW.out k) (HV.out k))]
        · exact (H2.out.below x.ok).fr (Fr.setCell _ _ _) (by simp; omega)
        · exact (H3.out.trans (Fr.of_below x.ok) (fun _ _ h => h)).trans (Fr.setCell _ _ _) (fun _ _ h => h)
      case measure => simp [intOf]; omega
    · have hk4 : k = 4 := by omega
      subst hk4
      go_wp2_with fail
      go_end0
      exact ⟨rfl, by have := H1.out; unfold hrow at *; rw [← orK_four]; exact this, H3.out⟩

/-- What is folded. -/
def orL (Ws : List (Nat → Nat)) : Nat → Nat := Ws.foldl orW noW
theorem orL_snoc (Ws : List (Nat → Nat)) (V : Nat → Nat) : orL (Ws ++ [V]) = orW (orL Ws) V := by simp [orL]
def cws (Ws : List (Nat → Nat)) : List Value := Ws.flatMap fun W => (cw W).toList
theorem cws_len : ∀ Ws : List (Nat → Nat), (cws Ws).length = Ws.length * 4
  | [] => rfl
  | W :: r => by
    have h := cws_len r
    show ((cw W).toList ++ cws r).length = _
    rw [List.length_append, h]; simp [cw]; omega
theorem cws_get (Ws : List (Nat → Nat)) (k : Nat) (hk : k < Ws.length) : ∀ j v, (cw (Ws[k])).toList[j]? = some v → (cws Ws)[k * 4 + j]? = some v := by
  induction Ws generalizing k with
  | nil => simp at hk
  | cons W r ih =>
    intro j v hj
    have hj4 : j < 4 := by have := (List.getElem?_eq_some_iff.1 hj).1; simpa [cw] using this
    show ((cw W).toList ++ cws r)[k * 4 + j]? = some v
    have hl : (cw W).toList.length = 4 := rfl
    cases k with
    | zero => rw [List.getElem?_append_left (by rw [hl]; omega)]; simpa using hj
    | succ k =>
      rw [List.getElem?_append_right (by rw [hl]; omega), hl, show (k + 1) * 4 + j - 4 = k * 4 + j from by omega]
      exact ih k (by simpa using hk) j v (by simpa using hj)

structure FoldSt (w wr : World) (W : Nat → Nat) : Prop where
  below : Below w.heap.size w wr
  set : hrow wr w.heap.size (cw W) 83
  res : hrow wr (w.heap.size + 1) (cw noW) 31
  words : Words W
theorem FoldSt.start (w : World) : FoldSt w ((w.alloc (.cells (cw noW) 83)).alloc (.cells #[.int .u64 0, .int .u64 0, .int .u64 0, .int .u64 0] 31)) noW := by
  refine ⟨((Below.refl _ _).alloc (Nat.le_refl _) _).alloc (by simp) _, ?_, ?_, noW_words⟩
  · exact (hrow.new w _ 83).below ((Below.refl _ _).alloc (Nat.le_refl _) _)
  · have := hrow.new (w.alloc (.cells (cw noW) 83)) #[.int .u64 0, .int .u64 0, .int .u64 0, .int .u64 0] 31
    simp only [World.size_alloc] at this
    exact this
theorem FoldSt.later {w wr w' : World} {W : Nat → Nat} (h : FoldSt w wr W) (hb : Below wr.heap.size wr w') : FoldSt w w' W :=
  ⟨h.below.trans (hb.mono h.below.size), h.set.below hb, h.res.below hb, h.words⟩
theorem FoldSt.step {w wr w' : World} {W W' : Nat → Nat} (h : FoldSt w wr W) (hr : hrow w' w.heap.size (cw W') 83) (hf : Fr (fun k => k = w.heap.size) wr w') (hW : Words W') : FoldSt w w' W' :=
  ⟨h.below.trans (hf.below h.below.size (by intro k hk; omega)), hr, h.res.fr hf (by omega), hW⟩

set_option maxRecDepth 100000 in
set_option maxHeartbeats 1000000 in
theorem fold_any (w : World) (ao : Option Addr) (cap n : Nat) (Ws : List (Nat → Nat)) (hs : Sv w ao n cap 4 (cws Ws)) (hW : ∀ W ∈ Ws, Words W) :
    Calls Tryd.prog 42 #[.agg (cw noW), .func (.func 43) #[] #[], .slice ao n cap] w fun r w' => r = .returned (.agg (cw (orL Ws))) ∧ Below w.heap.size w w' := by
  obtain ⟨h1, h2⟩ := hs.bound
  have hl : Ws.length = n := by have := hs.len; rw [cws_len] at this; omega
  have HSl := Lib.hid hs; clear hs
  have HL := Lib.hid hl; clear hl
  have HZ := Lib.hid hW; clear hW
  go_enter Tryd.func42, Tryd.ntmps42
  go_wp2_with fail
  have HS := Lib.hid (FoldSt.start w)
  go_loopw [11] (fun i wr => ∃ k : Nat, k ≤ n ∧ i = .int .i64 k ∧ Hid (FoldSt w wr (orL (Ws.take k)))) (fun i _ => n - (intOf i).toNat)
  case atStart => exact ⟨0, by omega, rfl, HS.out⟩
  case round =>
    obtain ⟨k, hk, rfl, hI⟩ := hrel
    clear HS
    by_cases hlt : k < n
    · have hkz : k < Ws.length := by have := HL.out; omega
      have hcl := cws_len Ws
      obtain ⟨a, rfl, _⟩ := HSl.out.cell (k * 4) (by omega)
      have hcp : ∀ j v, (cw (Ws[k])).toList[j]? = some v → wr.cell? ((a.add (k * 4)).add j) = some v := fun j v hj => by
        have h1 := cws_get Ws k hkz j v hj
        have hlt' := (List.getElem?_eq_some_iff.1 h1).1
        obtain ⟨a', ha', hc'⟩ := (HSl.out.below hI.out.below).cell (k * 4 + j) hlt'
        cases ha'
        rw [add_add, hc', h1]
      have hts : Ws.take (k + 1) = Ws.take k ++ [Ws[k]] := List.take_succ_eq_append_getElem hkz
      have hor : orL (Ws.take (k + 1)) = orW (orL (Ws.take k)) Ws[k] := by rw [hts, orL_snoc]
      have hWk := HZ.out _ (List.getElem_mem hkz)
      have HCp := Lib.hid hcp; have HOr := Lib.hid hor; have HWk := Lib.hid hWk
      clear hcp hts hor hWk hcl
      generalize Ws[k]'_ = V at *
      clear hkz
      have K2 : Hid ((Tryd.prog.info? 31).map (·.size) = some (cw V).size) := cw_info.1
      have h0k : (0 : Int) ≤ k := by omega
      go_upto_region 4 with (first
        | (refine wpList_load_part rfl 31 (.tmp 13) rfl (a.add (k * 4)) rfl (cw V) _ HCp.out Tryd.underlying31 rfl K2.out ?_)
        | (with_reducible refine wpList_store_row rfl 31 (.tmp 8) (.tmp 14) rfl wr.heap.size (cw V) rfl rfl 31 _ (heap_alloc_new _ _) K2.out rfl (cw_one V) ?_))
      have hr := setRow_heap (wr.alloc (.cells #[.int .u64 0, .int .u64 0, .int .u64 0, .int .u64 0] 31)) wr.heap.size _ (cw V) 31 _ (heap_alloc_new wr _)
      have hb := below_setRow ((Below.refl wr.heap.size wr).alloc (Nat.le_refl _) (.cells #[.int .u64 0, .int .u64 0, .int .u64 0, .int .u64 0] 31)) (Nat.le_refl wr.heap.size) (cw V)
      have HR := Lib.hid hr; have HB := Lib.hid hb
      clear hr hb
      revert HR HB
      generalize (wr.alloc (.cells #[.int .u64 0, .int .u64 0, .int .u64 0, .int .u64 0] 31)).setRow wr.heap.size (cw V) = w3
      intro HR HB
      have HI3 := Lib.hid (hI.out.later HB.out)
      go_frame
      go_wp2_with (first
        | (with_reducible refine wpList_load_row rfl 31 (.tmp 8) rfl _ rfl 31 _ _ _ HR.out Tryd.underlying31 rfl K2.out ?_)
        | (go_at_call 43; refine (orm_any _ _ (orL (Ws.take k)) V HI3.out.set HI3.out.words HWk.out).mono ?_; rintro e w2 ⟨rfl, hr2, hf2⟩; have HS2 := Lib.hid (HI3.out.step hr2 hf2 (orW_words HI3.out.words HWk.out)); clear hr2 hf2))
      go_roundw
      case rel => exact ⟨k + 1, by omega, by go_num, by rw [HOr.out]; exact HS2.out⟩
      case measure => simp [intOf]; omega
    · have ht : Ws.take k = Ws := List.take_of_length_le (by have := HL.out; omega)
      rw [ht] at hI
      clear ht
      have K1 : Hid ((Tryd.prog.info? 83).map (·.size) = some (cw (orL Ws)).size) := cw_info.2
      have K2 : Hid ((Tryd.prog.info? 31).map (·.size) = some (cw (orL Ws)).size) := cw_info.1
      go_wp2_with (first
        | (with_reducible refine wpList_load_row rfl 83 (.tmp 3) rfl _ rfl 83 _ _ _ hI.out.set.h Tryd.underlying83 rfl K1.out ?_)
        | (with_reducible refine wpList_store_row rfl 31 (.tmp 6) (.tmp 19) rfl (w.heap.size + 1) (cw (orL Ws)) rfl rfl 31 _ hI.out.res.h K2.out rfl (cw_one _) ?_))
      refine bodyPost_ret (results_cell_row rfl _ _ (w.heap.size + 1) 31 _ _ _ rfl (setRow_heap _ _ _ _ _ _ hI.out.res) Tryd.underlying31 rfl K2.out) rfl ?_
      exact ⟨rfl, below_setRow hI.out.below (by omega) _⟩
end Go.Proofs.YtnfkcdnkmcifbaaDoor
