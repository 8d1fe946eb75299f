/- Walks: is one of the open ones not done? -/
import Derived.Test.YtmpccinbeepbgaaTr
namespace Go.Proofs.Ytmpccinbeepbgaa
open Go.RowKit

section
variable {α : Type} {f : α → List Value} {s : Nat}
/-- The cells of a row of elements. -/
theorem fl_len (hf : ∀ x, (f x).length = s) : ∀ l : List α, (l.flatMap f).length = l.length * s
  | [] => by simp
  | x :: l => by rw [List.flatMap_cons, List.length_append, fl_len hf l, hf, List.length_cons, Nat.succ_mul]; omega
theorem fl_get (hf : ∀ x, (f x).length = s) : ∀ (l : List α) (k j : Nat) (hk : k < l.length), j < s → (l.flatMap f)[k * s + j]? = (f l[k])[j]?
  | x :: l, 0, j, _, hj => by
    rw [List.flatMap_cons, List.getElem?_append_left (by rw [hf]; omega)]; simp
  | x :: l, k + 1, j, hk, hj => by
    have e : (k + 1) * s + j = k * s + j + (f x).length := by rw [hf, Nat.succ_mul]; omega
    rw [List.flatMap_cons, e, List.getElem?_append_right (by omega), Nat.add_sub_cancel]
    exact fl_get hf l k j (by simpa using hk) hj
theorem Sv.elem (hf : ∀ x, (f x).length = s) {w : World} {ao : Option Addr} {n cap : Nat} {l : List α} (h : Sv w ao n cap s (l.flatMap f)) (k : Nat) (hk : k < l.length) (hs : 0 < s) :
    ∃ a, ao = some a ∧ ∀ j v, (f l[k])[j]? = some v → w.cell? ((a.add (k * s)).add j) = some v := by
  have hl := fl_len hf l
  have hks : ∀ j, j < s → k * s + j < (l.flatMap f).length := by
    intro j hj
    have h1 : (k + 1) * s ≤ l.length * s := Nat.mul_le_mul_right _ hk
    rw [Nat.succ_mul] at h1
    omega
  obtain ⟨a, rfl, hc⟩ := h.cell (k * s + 0) (hks 0 hs)
  refine ⟨a, rfl, fun j v hv => ?_⟩
  have hj : j < s := by
    have := (List.getElem?_eq_some_iff.1 hv).1
    rw [hf] at this; exact this
  obtain ⟨a', ha, hc'⟩ := h.cell (k * s + j) (hks j hj)
  cases ha
  rw [add_add, hc', fl_get hf l k j hk hj, hv]
theorem Sv.elems_len (hf : ∀ x, (f x).length = s) (hs : 0 < s) {w : World} {ao : Option Addr} {n cap : Nat} {l : List α} (h : Sv w ao n cap s (l.flatMap f)) : l.length = n := by
  have := h.len; rw [fl_len hf] at this; exact Nat.eq_of_mul_eq_mul_right hs this
end

def onv (o : On) : Array Value := #[.int .i64 o.left, .int .i64 o.sf, .int .i64 o.st, .int .i64 o.nx]
def onc (o : On) : List Value := (onv o).toList
theorem onc_len (o : On) : (onc o).length = 4 := rfl

theorem notdone_any (w : World) (n f t u : Int) : Calls Try.prog 40 #[.agg #[.int .i64 n, .int .i64 f, .int .i64 t, .int .i64 u]] w fun r w' => r = .returned (.bool (!(n == 0))) ∧ Below w.heap.size w w' := by
  generalize hx : (n == 0) = x
  go_enter Try.func40, Try.ntmps40
  go_wp2_with (first | (go_at_call 37; refine (done_any _ _ _ _ _).mono ?_; rintro e w2 ⟨rfl, hb2⟩; rw [hx]; have HB2 := Lib.hid hb2; clear hb2))
  go_ret
  exact ⟨rfl, ((Below.refl _ _).alloc (Nat.le_refl _) _).trans (HB2.out.mono (by simp))⟩

set_option maxRecDepth 100000 in
set_option maxHeartbeats 1000000 in
theorem indexOn_any (w : World) (ao : Option Addr) (cap n : Nat) (l : List On) (hs : Sv w ao n cap 4 (l.flatMap onc)) :
    Calls Try.prog 70 #[.slice ao n cap, .func (.func 40) #[] #[]] w fun r w' => (∃ i : Int, r = .returned (.int .i64 i) ∧ (0 ≤ i ↔ l.all On.done = false)) ∧ Below w.heap.size w w' := by
  obtain ⟨h1, h2⟩ := hs.bound
  have hl := hs.elems_len onc_len (by omega)
  have HSl := Lib.hid hs; clear hs
  have HL := Lib.hid hl; clear hl
  go_enter Try.func70, Try.ntmps70
  go_wp2_with fail
  go_loopw [8] (fun i wr => ∃ k : Nat, k ≤ n ∧ i = .int .i64 k ∧ Hid ((l.take k).all On.done = true ∧ Below w.heap.size w wr)) (fun i _ => n - (intOf i).toNat)
  case atStart => exact ⟨0, by omega, rfl, by simp, Below.refl _ _⟩
  case round =>
    obtain ⟨k, hk, rfl, hI⟩ := hrel
    have HN := Lib.hid hI.out.1; have HBl := Lib.hid hI.out.2
    clear hI
    by_cases hlt : k < n
    · have hkz : k < l.length := by have := HL.out; omega
      obtain ⟨a, rfl, hc⟩ := (HSl.out.below HBl.out).elem onc_len k hkz (by omega)
      have hts : l.take (k + 1) = l.take k ++ [l[k]] := List.take_succ_eq_append_getElem hkz
      have hall : l.all On.done = ((l.take k).all On.done && ((l[k]).done && (l.drop (k + 1)).all On.done)) := by
        rw [all_split l k, List.drop_eq_getElem_cons hkz, List.all_cons]
      have HT := Lib.hid hts; have HA := Lib.hid hall
      clear hts hall
      generalize l[k]'_ = o at *
      clear hkz
      obtain ⟨o1, o2, o3, o4⟩ := o
      have h0k : (0 : Int) ≤ k := by omega
      have HC := Lib.hid (show ∀ j v, (#[.int .i64 o1, .int .i64 o2, .int .i64 o3, .int .i64 o4] : Array Value).toList[j]? = some v → wr.cell? ((a.add (k * 4)).add j) = some v from hc)
      have K2 : Hid ((Try.prog.info? 93).map (·.size) = some (#[.int .i64 o1, .int .i64 o2, .int .i64 o3, .int .i64 o4] : Array Value).size) := by unfold Hid; kernel_rfl
      clear hc
      have HD := Lib.hid (show On.done ⟨o1, o2, o3, o4⟩ = (o1 == 0) from rfl)
      generalize hx : (o1 == 0) = x at *
      cases x
      · go_wp2_with (first
          | (refine wpList_load_part rfl 93 (.tmp 14) rfl (a.add (k * 4)) rfl #[.int .i64 o1, .int .i64 o2, .int .i64 o3, .int .i64 o4] _ HC.out Try.underlying93 rfl K2.out ?_)
          | (go_at_call 40; refine (notdone_any _ _ _ _ _).mono ?_; rintro e w2 ⟨rfl, hb2⟩; rw [hx]; have HB2 := Lib.hid hb2; clear hb2))
        go_ret
        exact ⟨⟨_, rfl, by rw [HA.out, HD.out]; simp⟩, HBl.out.trans (HB2.out.mono HBl.out.size)⟩
      · go_wp2_with (first
          | (refine wpList_load_part rfl 93 (.tmp 14) rfl (a.add (k * 4)) rfl #[.int .i64 o1, .int .i64 o2, .int .i64 o3, .int .i64 o4] _ HC.out Try.underlying93 rfl K2.out ?_)
          | (go_at_call 40; refine (notdone_any _ _ _ _ _).mono ?_; rintro e w2 ⟨rfl, hb2⟩; rw [hx]; have HB2 := Lib.hid hb2; clear hb2))
        go_roundw
        case rel => exact ⟨k + 1, by omega, by go_num, by rw [HT.out, List.all_append, HN.out]; simp [HD.out], HBl.out.trans (HB2.out.mono HBl.out.size)⟩
        case measure => simp [intOf]; omega
    · have ht : l.take k = l := List.take_of_length_le (by have := HL.out; omega)
      rw [ht] at HN
      go_wp2_with fail
      go_ret
      exact ⟨⟨_, rfl, by rw [HN.out]; simp⟩, HBl.out⟩

theorem contains_any (w : World) (ao : Option Addr) (cap n : Nat) (l : List On) (hs : Sv w ao n cap 4 (l.flatMap onc)) :
    Calls Try.prog 39 #[.slice ao n cap, .func (.func 40) #[] #[]] w fun r w' => r = .returned (.bool (!l.all On.done)) ∧ Below w.heap.size w w' := by
  have HX := Lib.hid (fun w' hb => indexOn_any w' ao cap n l (hs.below hb))
  clear hs
  go_enter Try.func39, Try.ntmps39
  go_wp2_with fail
  refine (HX.out _ (Below.refl _ _)).mono ?_
  rintro e w2 ⟨⟨i, rfl, hi⟩, hb2⟩
  have HB2 := Lib.hid hb2; clear hb2
  cases hx : l.all On.done
  · have h0 : 0 ≤ i := hi.2 hx
    clear hi
    go_wp2_with fail
    go_ret
    exact ⟨by rw [hx]; simp, HB2.out⟩
  · have h0 : decide (0 ≤ i) = false := decide_eq_false (fun h => by rw [hi.1 h] at hx; cases hx)
    clear hi
    go_wp2_with fail
    go_ret
    exact ⟨by rw [hx]; simp, HB2.out⟩
end Go.Proofs.Ytmpccinbeepbgaa
