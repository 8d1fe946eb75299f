/- Walks: the reader's one byte. -/
import Derived.Test.YtmpccinbeepbgaaC7
import Derived.Deep.QuietTactic
import Derived.BigQuiet
namespace Go.Proofs.Ytmpccinbeepbgaa
open Go.RowKit

theorem hrow.setCell {w : World} {g : Nat} {cs : Array Value} {t : TypeId} (h : hrow w g cs t) (o : Nat) (v : Value) : hrow (w.setCell ⟨g, o, none⟩ v) g (cs.setIfInBounds o v) t := heap_setCell_same _ _ _ _ _ _ h.h

def byc (l : List Int) : List Value := l.map fun c => .int .u8 c
theorem byc_len (l : List Int) : (byc l).length = l.length := by simp [byc]
theorem byc_one (l : List Int) : ∀ u ∈ byc l, u.oneCell' = true := by intro u hu; simp only [byc, List.mem_map] at hu; obtain ⟨_, _, rfl⟩ := hu; rfl
theorem bt_get {l : List Int} {p : Nat} (h : p < l.length) : l[p] = bt l p := by simp [bt, List.getD_eq_getElem?_getD, h]
theorem Sv.byte {w : World} {ao : Option Addr} {n cap : Nat} {l : List Int} (h : Sv w ao n cap 1 (byc l)) (k : Nat) (hk : k < l.length) : ∃ a, ao = some a ∧ w.cell? (a.add k) = some (.int .u8 (bt l k)) := by
  obtain ⟨a, ha, hc⟩ := h.cell k (by rw [byc_len]; exact hk)
  exact ⟨a, ha, by rw [hc]; simp [byc, hk, bt_get hk]⟩
theorem Sv.byte_len {w : World} {ao : Option Addr} {n cap : Nat} {l : List Int} (h : Sv w ao n cap 1 (byc l)) : l.length = n := by
  have := h.len; rw [byc_len] at this; omega

/-- The reader's cells. -/
abbrev rdr (L W : Value) (p s : Int) : Array Value := #[L, W, .int .i64 p, .int .i64 s]

set_option maxRecDepth 100000 in
set_option maxHeartbeats 1000000 in
theorem is_any (w : World) (rd : Nat) (L : Value) (wo : Option Addr) (wn wc : Nat) (wl : List Int) (p : Nat) (s : Int) (hr : hrow w rd (rdr L (.slice wo wn wc) p s) 112) (hw : Sv w wo wn wc 1 (byc wl)) (c : Int) (h0 : 0 ≤ c) :
    Calls Try.prog 94 #[.pointer (some ⟨rd, 0, none⟩), .int .u8 c] w fun r w' => r = .returned (.bool (decide (bt wl p = c))) ∧ Fr (fun k => k = rd) w w' ∧ hrow w' rd (rdr L (.slice wo wn wc) (if bt wl p = c then p + 1 else p) s) 112 := by
  obtain ⟨h1, h2⟩ := hw.bound
  have hl := hw.byte_len
  have c0 : w.cell? ⟨rd, 1, none⟩ = some (.slice wo wn wc) := hr.cell 1
  have c1 : w.cell? ⟨rd, 2, none⟩ = some (.int .i64 p) := hr.cell 2
  have f1 : w.frozen? ⟨rd, 2, none⟩ = false := hr.frozen 2
  by_cases hp : p < wn
  · obtain ⟨a, rfl, hc⟩ := hw.byte p (by omega)
    have hp' : (p : Int) < wn := by omega
    have hp0 : (0 : Int) ≤ p := by omega
    have hp1 : (p : Int) ≤ 9223372036854775806 := by omega
    have HR := Lib.hid hr
    clear hr hw
    generalize bt wl p = x at *
    clear hl
    by_cases hx : x = c
    · subst hx
      have c1' := c1
      go_enter Try.func94, Try.ntmps94
      go_wp2_with fail
      go_quiet (fail)
      go_wp2_with fail
      go_ret
      exact ⟨by simp, (Fr.of_below (below_drewN (Below.refl _ _) _)).trans (Fr.setCell _ _ _) (fun _ _ h => h), by exact (HR.out.below (below_drewN (Below.refl _ _) _)).setCell 2 _⟩
    · have hd : decide (x = c) = false := decide_eq_false hx
      go_enter Try.func94, Try.ntmps94
      go_wp2_with fail
      go_quiet (fail)
      go_wp2_with fail
      go_ret
      exact ⟨rfl, Fr.of_below (below_drewN (Below.refl _ _) _), by simpa [hx] using HR.out.below (below_drewN (Below.refl _ _) _)⟩
  · have hb : bt wl p = -1 := by unfold bt; rw [List.getD_eq_getElem?_getD, List.getElem?_eq_none (by omega)]; rfl
    have hp' : ¬ (p : Int) < wn := by omega
    have HR := Lib.hid hr
    clear hr hw
    rw [hb]
    have hx : ¬ (-1 : Int) = c := by omega
    have hd : decide ((-1 : Int) = c) = false := decide_eq_false hx
    rw [hd, if_neg hx]
    go_enter Try.func94, Try.ntmps94
    go_wp2_with fail
    go_quiet (fail)
    go_wp2_with fail
    go_ret
    exact ⟨rfl, Fr.of_below (below_drewN (Below.refl _ _) _), HR.out.below (below_drewN (Below.refl _ _) _)⟩
end Go.Proofs.Ytmpccinbeepbgaa
