/- Walks: words: the chapter's example. -/
import Derived.Test.YtnfkcdnkmcifbaaDoorVe
import Derived.Test.YtnfkcdnkmcifbaaDoorAv
namespace Go.Proofs.YtnfkcdnkmcifbaaDoor
open Go.RowKit
set_option maxRecDepth 100000
set_option maxHeartbeats 4000000

theorem fl_len {α : Type} {f : α → List Value} {s : Nat} (hf : ∀ x, (f x).length = s) : ∀ l : List α, (l.flatMap f).length = l.length * s
 | [] => by simp
 | x :: l => by rw [List.flatMap_cons, List.length_append, hf, fl_len hf l, List.length_cons, Nat.succ_mul]; omega
theorem fl_at {α : Type} {f : α → List Value} {s : Nat} (hf : ∀ x, (f x).length = s) : ∀ (l : List α) (i : Nat) (hi : i < l.length) (j : Nat), j < s → (l.flatMap f)[i * s + j]? = (f l[i])[j]?
 | x :: l, 0, _, j, hj => by rw [List.flatMap_cons, Nat.zero_mul, Nat.zero_add, List.getElem?_append_left (by rw [hf]; exact hj)]; rfl
 | x :: l, i + 1, hi, j, hj => by
  rw [List.flatMap_cons, List.getElem?_append_right (by rw [hf, Nat.succ_mul]; omega), hf]
  have e : (i + 1) * s + j - s = i * s + j := by rw [Nat.succ_mul]; omega
  rw [e]
  exact fl_at hf l i (by simpa using hi) j hj
theorem Sv.at {α : Type} {f : α → List Value} {s : Nat} (hf : ∀ x, (f x).length = s) {w : World} {ao : Option Addr} {n cap : Nat} {l : List α} (h : Sv w ao n cap s (l.flatMap f)) (hs : 0 < s) (i : Nat) (hi : i < l.length) :
  ∃ a, ao = some a ∧ ∀ j v, (f l[i])[j]? = some v → w.cell? ((a.add (i * s)).add j) = some v := by
 have hl := fl_len hf l
 have hb : i * s + s ≤ l.length * s := by rw [← Nat.succ_mul]; exact Nat.mul_le_mul_right s (by omega)
 obtain ⟨a, ha, _⟩ := h.cell (i * s) (by omega)
 refine ⟨a, ha, fun j v hj => ?_⟩
 have hjs : j < s := by have := (List.getElem?_eq_some_iff.1 hj).1; rw [hf] at this; exact this
 obtain ⟨a', ha', hc⟩ := h.cell (i * s + j) (by omega)
 rw [ha] at ha'; cases ha'
 rw [add_add, hc, fl_at hf l i hi j hjs, hj]
theorem add_off (a : Addr) (i j : Nat) (hj : 0 < j) : (a.add i).add j = ⟨(a.add i).block, (a.add i).off + j, none⟩ := by
 unfold Addr.add
 by_cases h : i = 0 <;> simp [h, show j ≠ 0 by omega]
theorem wdD_len (d : Wd) : (wdD d).toList.length = 9 := rfl
def exS : ByteArray := ⟨#[65, 58, 50, 32, 60, 45, 32, 34, 97, 34, 32, 91, 98, 45, 100, 93, 42, 32, 59]⟩
def exWs : List Wd := [⟨2, 0, 3, [65], 2, []⟩, ⟨5, 4, 6, [60, 45], 0, []⟩, ⟨3, 7, 10, [97], 0, []⟩, ⟨4, 11, 16, [], 0, [(98, 100)]⟩, ⟨5, 16, 17, [42], 0, []⟩, ⟨5, 18, 19, [59], 0, []⟩, ⟨1, 19, 19, [], 0, []⟩]
theorem ex_words : wordsOf exS.data.toList = (exWs, none) := by decide +kernel
theorem ex_all (w : World) : Calls Tryd.prog 6 #[.string ⟨#[65, 58, 50, 32, 60, 45, 32, 34, 97, 34, 32, 91, 98, 45, 100, 93, 42, 32, 59]⟩] w fun e w' =>
  ∃ ao cap, e = .returned (.tuple #[.slice ao 7 cap, .int .i64 0, .int .i64 0]) ∧ Sv w' ao 7 cap 9 (exWs.flatMap fun x => (wdD x).toList) ∧ Below w.heap.size w w' := by
 have h := all_any exS w (by decide)
 unfold AllP at h
 rw [ex_words] at h
 refine h.mono ?_
 rintro e w' ⟨v, rfl, ho⟩
 obtain ⟨ao, cap, rfl, hs⟩ := ho.sv
 exact ⟨ao, cap, rfl, hs, ho.2⟩
theorem cl98 : clsW [(98, 100)] 0 = 0 ∧ clsW [(98, 100)] 1 = 120259084288 ∧ clsW [(98, 100)] 2 = 0 ∧ clsW [(98, 100)] 3 = 0 := by decide +kernel
theorem awake_any (w : World) : Calls Tryd.prog 5 #[] w fun e w' => e = .returned (.bool true) ∧ Below w.heap.size w w' := by
 have hce := cls_eq
 have HA := Lib.hid (ex_all w)
 go_enter Tryd.func5, Tryd.ntmps5
 go_wp2_with fail
 refine HA.out.mono ?_
 rintro e w1 ⟨ao, cap, rfl, hS, hb⟩
 obtain ⟨a, rfl, c0⟩ := Sv.at wdD_len hS (by decide) 0 (by decide)
 obtain ⟨_, e2, c2⟩ := Sv.at wdD_len hS (by decide) 2 (by decide)
 cases e2
 obtain ⟨_, e2, c3⟩ := Sv.at wdD_len hS (by decide) 3 (by decide)
 cases e2
 obtain ⟨_, e2, c6⟩ := Sv.at wdD_len hS (by decide) 6 (by decide)
 cases e2
 have k00 : w1.cell? a = some (.int .i64 2) := by have := c0 0 _ rfl; simp [Addr.add] at this; exact this
 have k04 : w1.cell? ⟨a.block, a.off + 4, none⟩ = some (.int .i64 2) := by have := c0 4 _ rfl; rw [add_add] at this; simp [Addr.add] at this; exact this
 have k23 : w1.cell? ⟨a.block, a.off + 18 + 3, none⟩ = some (.string ⟨#[97]⟩) := by have := c2 3 _ rfl; rw [add_off _ _ _ (by decide)] at this; exact this
 have k35 : w1.cell? ⟨a.block, a.off + 27 + 5, none⟩ = some (.int .u64 0) := by have := c3 5 _ rfl; rw [show clsW (exWs[3]).cl 0 = 0 from cl98.1, add_off _ _ _ (by decide)] at this; exact this
 have k36 : w1.cell? ⟨a.block, a.off + 27 + 5 + 1, none⟩ = some (.int .u64 120259084288) := by have := c3 6 _ rfl; rw [show clsW (exWs[3]).cl 1 = 120259084288 from cl98.2.1, add_off _ _ _ (by decide)] at this; exact this
 have k37 : w1.cell? ⟨a.block, a.off + 27 + 5 + 2, none⟩ = some (.int .u64 0) := by have := c3 7 _ rfl; rw [show clsW (exWs[3]).cl 2 = 0 from cl98.2.2.1, add_off _ _ _ (by decide)] at this; exact this
 have k38 : w1.cell? ⟨a.block, a.off + 27 + 5 + 3, none⟩ = some (.int .u64 0) := by have := c3 8 _ rfl; rw [show clsW (exWs[3]).cl 3 = 0 from cl98.2.2.2, add_off _ _ _ (by decide)] at this; exact this
 have k60 : w1.cell? ⟨a.block, a.off + 54, none⟩ = some (.int .i64 1) := by have := c6 0 _ rfl; rw [add_add] at this; simp [Addr.add] at this; exact this
 have hbd := hS.bound
 have HB := Lib.hid hb
 clear c0 c2 c3 c6 hS hb
 go_wp2_with fail
 go_ret
 exact ⟨rfl, HB.out⟩
end Go.Proofs.YtnfkcdnkmcifbaaDoor
