/- Walks: sets of bytes. -/
import Derived.Test.YtnfkcdnkmcifbaaDoorFr
import Derived.Test.YtnfkcdnkmcifbaaDoorProg
import Derived.WalkLawsBesides
import Derived.WalkSpells
import Derived.Deep.Cut
import Derived.Deep.CutBlock
import Derived.Deep.RegionWith
import Derived.Deep.DeepCutAuto
namespace Go.Proofs.YtnfkcdnkmcifbaaDoor
open Go.RowKit

/-- The cells of four words. -/
def cw (W : Nat → Nat) : Array Value := #[.int .u64 (W 0), .int .u64 (W 1), .int .u64 (W 2), .int .u64 (W 3)]
def Words (W : Nat → Nat) : Prop := ∀ i, W i < 2 ^ 64
theorem cw_get (W : Nat → Nat) (i : Nat) (h : i < 4) : (cw W)[i]? = some (.int .u64 (W i)) := by
  have : i = 0 ∨ i = 1 ∨ i = 2 ∨ i = 3 := by omega
  rcases this with rfl | rfl | rfl | rfl <;> rfl
def putW (W : Nat → Nat) (b : Nat) : Nat → Nat := fun i => if i = b / 64 then W i ||| 2 ^ (b % 64) else W i
theorem cw_set (W : Nat → Nat) (b : Nat) (h : b < 256) (x : Int) (hx : x = ((W (b / 64) ||| 2 ^ (b % 64) : Nat) : Int)) : (cw W).setIfInBounds (b / 64) (.int .u64 x) = cw (putW W b) := by
  subst hx
  have : b / 64 = 0 ∨ b / 64 = 1 ∨ b / 64 = 2 ∨ b / 64 = 3 := by omega
  rcases this with h | h | h | h <;> simp [cw, putW, h]

theorem wraps64 (n : Int) (h0 : 0 ≤ n) (h1 : n < 2 ^ 64) : IntKind.u64.wrap n = n := by
  have h2 : (2 : Int) ^ 64 = 18446744073709551616 := by decide
  rw [h2] at h1
  simp [IntKind.wrap, IntKind.bits, IntKind.signed]; omega
theorem or_word (x n : Nat) (hx : x < 2 ^ 64) (hn : n < 64) : bits BinOp.or IntKind.u64 (x : Int) (IntKind.u64.wrap (2 ^ n)) = ((x ||| 2 ^ n : Nat) : Int) := by
  have h2 : (2 : Nat) ^ n < 2 ^ 64 := Nat.pow_lt_pow_right (by decide) hn
  have e : IntKind.u64.wrap (2 ^ n) = ((2 ^ n : Nat) : Int) := by
    rw [wraps64 _ (by exact_mod_cast Nat.zero_le (2 ^ n)) (by exact_mod_cast h2)]
    norm_cast
  rw [e]
  exact (bits_nat .u64 64 (by decide) wraps64 x (2 ^ n) hx h2).2
theorem and_one (x : Nat) (hx : x < 2 ^ 64) : bits BinOp.and IntKind.u64 (x : Int) 1 = ((x % 2 : Nat) : Int) := by
  have := (bits_nat .u64 64 (by decide) wraps64 x 1 hx (by decide)).1
  rw [Nat.and_one_is_mod] at this
  exact this
theorem putW_words {W : Nat → Nat} (h : Words W) (b : Nat) : Words (putW W b) := by
  intro i
  unfold putW
  split
  · exact Nat.or_lt_two_pow (h i) (Nat.pow_lt_pow_right (by decide) (Nat.mod_lt _ (by decide)))
  · exact h i

set_option maxHeartbeats 1000000 in
theorem put_any (w : World) (g : Nat) (W : Nat → Nat) (hr : hrow w g (cw W) 83) (hW : Words W) (b : Nat) (hb : b < 256) :
    Calls Tryd.prog 44 #[.pointer (some ⟨g, 0, none⟩), .int .u8 b] w fun r w' => r = .returned (.tuple #[]) ∧ hrow w' g (cw (putW W b)) 83 ∧ Fr (fun k => k = g) w w' := by
  have HR := Lib.hid hr
  have HW := Lib.hid hW
  have hc : ∀ x : Later w, x.val.cell? ⟨g, b / 64, none⟩ = some (.int .u64 (W (b / 64))) := fun x => ((HR.out.below x.ok).cell _).trans (cw_get W _ (by omega))
  have hf : ∀ x : Later w, x.val.frozen? ⟨g, b / 64, none⟩ = false := fun x => ((HR.out.below x.ok).frozen _)
  clear hr hW
  go_enter Tryd.func44, Tryd.ntmps44
  go_wp2_with fail
  refine wp_region_later_tail 12 (by kernel_rfl) (by kernel_rfl) ?_
  simp only [List.take_succ_cons, List.take_zero, List.drop_succ_cons, List.drop_zero]
  repeat (go_big_quiet_step (fail))
  refine wpQuiet_nil ?_
  intro w5 hw5
  obtain ⟨x, rfl⟩ := hw5
  go_wp2_with fail
  go_end0
  refine ⟨rfl, ?_, (Fr.of_below x.ok).trans (Fr.setCell _ _ _) (fun _ _ h => h)⟩
  unfold hrow
  rw [heap_setCell_same _ _ _ _ _ _ (HR.out.below x.ok)]
  rw [cw_set W b hb _ (or_word _ _ (HW.out _) (Nat.mod_lt _ (by decide)))]

/-- Is the byte in? -/
def inW (W : Nat → Nat) (b : Nat) : Bool := (W (b / 64)).testBit (b % 64)

theorem inW_put (W : Nat → Nat) (b c : Nat) : inW (putW W b) c = (inW W c || decide (c = b)) := by
  unfold inW putW
  by_cases h : c / 64 = b / 64
  · rw [if_pos h, Nat.testBit_or, Nat.testBit_two_pow]
    congr 1
    rw [Bool.eq_iff_iff, decide_eq_true_iff, decide_eq_true_iff]
    omega
  · rw [if_neg h]
    have : decide (c = b) = false := decide_eq_false (fun e => h (by rw [e]))
    rw [this, Bool.or_false]

def noW : Nat → Nat := fun _ => 0
theorem noW_words : Words noW := fun _ => by unfold noW; decide
theorem inW_no (c : Nat) : inW noW c = false := by unfold inW noW; exact Nat.zero_testBit _

/-- The cells of a class that is to be handed back, and of the set that is made. -/
structure SetSt (w wr : World) (W : Nat → Nat) : Prop where
  below : Below w.heap.size w wr
  res : hrow wr w.heap.size (cw noW) 31
  set : hrow wr (w.heap.size + 1) (cw W) 83
  words : Words W
theorem SetSt.start (w : World) : SetSt w ((w.alloc (.cells #[.int .u64 0, .int .u64 0, .int .u64 0, .int .u64 0] 31)).alloc (.cells #[.int .u64 0, .int .u64 0, .int .u64 0, .int .u64 0] 83)) noW := by
  refine ⟨((Below.refl _ _).alloc (Nat.le_refl _) _).alloc (by simp) _, ?_, ?_, noW_words⟩
  · exact (hrow.new w _ 31).below ((Below.refl _ _).alloc (Nat.le_refl _) _)
  · have := hrow.new (w.alloc (.cells #[.int .u64 0, .int .u64 0, .int .u64 0, .int .u64 0] 31)) #[.int .u64 0, .int .u64 0, .int .u64 0, .int .u64 0] 83
    simp only [World.size_alloc] at this
    exact this
theorem SetSt.step {w wr w' : World} {W W' : Nat → Nat} (h : SetSt w wr W) (hr : hrow w' (w.heap.size + 1) (cw W') 83) (hf : Fr (fun k => k = w.heap.size + 1) wr w') (hW : Words W') : SetSt w w' W' :=
  ⟨h.below.trans (hf.below h.below.size (by intro k hk; omega)) , h.res.fr hf (by omega), hr, hW⟩
theorem Below.trans' {B : Nat} {a b c : World} (h : Below B a b) (k : Below B b c) : Below B a c := h.trans k
theorem cw_info : (Tryd.prog.info? 31).map (·.size) = some 4 ∧ (Tryd.prog.info? 83).map (·.size) = some 4 := ⟨by kernel_rfl, by kernel_rfl⟩
theorem cw_one (W : Nat → Nat) : (cw W).all (·.oneCell') = true := by simp [cw, Value.oneCell']

set_option maxRecDepth 100000 in
set_option maxHeartbeats 1000000 in
theorem range_any (w : World) (a b : Nat) (ha : a < 256) (hb : b < 256) :
    Calls Tryd.prog 33 #[.int .u8 a, .int .u8 b] w fun r w' => ∃ W, r = .returned (.agg (cw W)) ∧ Words W ∧ (∀ c, inW W c = decide (a ≤ c ∧ c ≤ b)) ∧ Below w.heap.size w w' := by
  go_enter Tryd.func33, Tryd.ntmps33
  go_wp2_with fail
  have HS := Lib.hid (SetSt.start w)
  go_loopw [6] (fun i wr => ∃ k : Nat, k ≤ 256 ∧ a ≤ k ∧ i = .int .i64 k ∧ (k ≤ b ∨ k = a ∨ k = b + 1) ∧ Hid (∃ W, SetSt w wr W ∧ ∀ c, inW W c = decide (a ≤ c ∧ c < k))) (fun i _ => 256 - (intOf i).toNat)
  case atStart => exact ⟨a, by omega, by omega, rfl, .inr (.inl rfl), noW, HS.out, fun c => by rw [inW_no]; simp⟩
  case round =>
    obtain ⟨k, hk, hak, rfl, hkb, hI⟩ := hrel
    obtain ⟨W, hS, hin⟩ := hI.out
    have HS1 := Lib.hid hS; have HIn := Lib.hid hin
    clear hI hS hin HS
    by_cases hlt : k ≤ b
    · have hkb' := Lib.hid hkb
      clear hkb
      go_wp2_with (go_at_call 44; refine (put_any _ _ W HS1.out.set HS1.out.words k (by omega)).mono ?_; rintro e w2 ⟨rfl, hr2, hf2⟩; have HS2 := Lib.hid (HS1.out.step hr2 hf2 (putW_words HS1.out.words k)); clear hr2 hf2)
      go_roundw
      case rel => exact ⟨k + 1, by omega, by omega, by go_num, by omega, _, HS2.out, fun c => by rw [inW_put, HIn.out, Bool.eq_iff_iff, Bool.or_eq_true, decide_eq_true_iff, decide_eq_true_iff, decide_eq_true_iff]; omega⟩
      case measure => simp [intOf]; omega
    · have hkb' := Lib.hid hkb
      clear hkb
      have K1 : Hid ((Tryd.prog.info? 83).map (·.size) = some (cw W).size) := cw_info.2
      have K2 : Hid ((Tryd.prog.info? 31).map (·.size) = some (cw W).size) := cw_info.1
      go_wp2_with (first
        | (with_reducible refine wpList_load_row rfl 83 (.tmp 5) rfl _ rfl 83 _ _ _ HS1.out.set.h Tryd.underlying83 rfl K1.out ?_)
        | (with_reducible refine wpList_store_row rfl 31 (.tmp 4) (.tmp 18) rfl w.heap.size (cw W) rfl rfl 31 _ HS1.out.res.h K2.out rfl (cw_one W) ?_))
      refine bodyPost_ret (results_cell_row rfl _ _ w.heap.size 31 _ _ _ rfl (setRow_heap _ _ _ _ _ _ HS1.out.res) Tryd.underlying31 rfl K2.out) rfl ?_
      exact ⟨W, rfl, HS1.out.words, fun c => by rw [HIn.out, Bool.eq_iff_iff, decide_eq_true_iff, decide_eq_true_iff]; have := hkb'.out; omega, below_setRow HS1.out.below (Nat.le_refl _) _⟩
end Go.Proofs.YtnfkcdnkmcifbaaDoor
