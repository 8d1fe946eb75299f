/- Walk: CfgOne. -/
import Derived.Test.YtmpccinbeepbgaaCH
import Derived.Test.YtmpccinbeepbgaaAp
namespace Go.Proofs.Ytmpccinbeepbgaa
open Go.RowKit

theorem elemBy : Elem Try.prog 23 5 1 1 (.int .u8 0) := ⟨by kernel_rfl, by kernel_rfl, rfl, by decide⟩
/-- It says true, and nothing that was is changed. -/
def Yes (w : World) (r : Ending) (w' : World) : Prop := r = .returned (.bool true) ∧ Below w.heap.size w w'

set_option maxRecDepth 100000 in
set_option maxHeartbeats 2000000 in
theorem one_out (w : World) (lo : Option Addr) (ln lc : Nat) (l : Tab) (ao : Option Addr) (an ac : Nat) (bo : Option Addr) (bn bc : Nat) (hb : Byt l) (ho : Sv w lo ln lc 2 (opc l)) (h1 : an ≤ ac ∧ ac ≤ 9223372036854775807) (h2 : bn ≤ bc ∧ bc ≤ 9223372036854775807) (lv : Int)
    (hbyt : (an : Int) * 1 ≤ 140737488351232 ∧ (bn : Int) * 1 ≤ 140737488351232)
    (hout : ¬ (an + bn ≤ 30 ∧ rightB l = true ∧ 0 ≤ lv ∧ lv < ln)) :
    Calls Try.prog 5 #[.slice lo ln lc, .slice ao an ac, .slice bo bn bc, .int .i64 lv] w (Yes w) := by
  obtain ⟨h3, h4⟩ := ho.bound
  obtain ⟨h1, h1'⟩ := h1
  obtain ⟨h2, h2'⟩ := h2
  obtain ⟨h5, h6⟩ := hbyt
  have HRi := Lib.hid (fun w' (hb' : Below w.heap.size w w') => right_any w' lo lc ln l (ho.below hb') hb)
  clear ho hb
  generalize rightB l = b at *
  by_cases c1 : an + bn ≤ 30
  · cases b
    · clear hout
      go_enter Try.func5, Try.ntmps5
      go_wp2_with fail
      refine (awake_any _).mono ?_
      rintro e w2 ⟨rfl, hb2⟩
      have HB2 := Lib.hid hb2; clear hb2
      go_wp2_with fail
      refine (HRi.out _ HB2.out).mono ?_
      rintro e w3 ⟨rfl, hb3⟩
      have HB3 := Lib.hid (HB2.out.trans (hb3.mono HB2.out.size)); clear hb3
      go_wp2_with fail
      go_ret
      exact ⟨rfl, HB3.out⟩
    · by_cases c2 : 0 ≤ lv
      · have c3 : (ln : Int) ≤ lv := by
          rcases Int.lt_or_le lv ln with h | h
          · exact absurd ⟨c1, rfl, c2, h⟩ hout
          · exact h
        clear hout
        go_enter Try.func5, Try.ntmps5
        go_wp2_with fail
        refine (awake_any _).mono ?_
        rintro e w2 ⟨rfl, hb2⟩
        have HB2 := Lib.hid hb2; clear hb2
        go_wp2_with fail
        refine (HRi.out _ HB2.out).mono ?_
        rintro e w3 ⟨rfl, hb3⟩
        have HB3 := Lib.hid (HB2.out.trans (hb3.mono HB2.out.size)); clear hb3
        go_wp2_with fail
        go_ret
        exact ⟨rfl, HB3.out⟩
      · clear hout
        go_enter Try.func5, Try.ntmps5
        go_wp2_with fail
        refine (awake_any _).mono ?_
        rintro e w2 ⟨rfl, hb2⟩
        have HB2 := Lib.hid hb2; clear hb2
        go_wp2_with fail
        refine (HRi.out _ HB2.out).mono ?_
        rintro e w3 ⟨rfl, hb3⟩
        have HB3 := Lib.hid (HB2.out.trans (hb3.mono HB2.out.size)); clear hb3
        go_wp2_with fail
        go_ret
        exact ⟨rfl, HB3.out⟩
  · have c1' : (30 : Int) < (an : Int) + bn := by omega
    clear hout
    go_enter Try.func5, Try.ntmps5
    go_wp2_with fail
    refine (awake_any _).mono ?_
    rintro e w2 ⟨rfl, hb2⟩
    have HB2 := Lib.hid hb2; clear hb2
    go_wp2_with fail
    go_ret
    exact ⟨rfl, HB2.out⟩
end Go.Proofs.Ytmpccinbeepbgaa
