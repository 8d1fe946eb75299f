/- Walk: CfgTree, where it is not asked, or nothing is derived. -/
import Derived.Test.YtmpccinbeepbgaaCL
import Derived.Test.YtmpccinbeepbgaaCJ
import Derived.Test.YtmpccinbeepbgaaGr7
namespace Go.Proofs.Ytmpccinbeepbgaa
open Go.RowKit

set_option maxRecDepth 100000 in
set_option maxHeartbeats 1000000 in
theorem treeL_out (w : World) (lo : Option Addr) (ln lc : Nat) (l : Tab) (wo : Option Addr) (wn wc : Nat) (hb : Byt l) (ho : Sv w lo ln lc 2 (opc l)) (h1 : wn ≤ wc ∧ wc ≤ 9223372036854775807) (p q : Int)
    (hout : ¬ (wn ≤ 30 ∧ rightB l = true)) :
    Calls Try.prog 7 #[.slice lo ln lc, .slice wo wn wc, .int .i64 p, .int .i64 q] w (Yes w) := by
  obtain ⟨h3, h4⟩ := ho.bound
  obtain ⟨h1, h1'⟩ := h1
  have HRi := Lib.hid (fun w' (hb' : Below w.heap.size w w') => right_any w' lo lc ln l (ho.below hb') hb)
  clear ho hb
  generalize rightB l = b at *
  by_cases c1 : wn ≤ 30
  · have hb0 : b = false := by cases b <;> simp_all
    subst hb0
    clear hout
    go_enter Try.func7, Try.ntmps7
    go_wp2_with fail
    refine (awake_any _).mono ?_
    rintro e w2 ⟨rfl, hb2⟩
    have HB2 := Lib.hid hb2; clear hb2
    go_wp2_with fail
    refine (HRi.out _ HB2.out).mono ?_
    rintro e w3 ⟨rfl, hb3⟩
    have HB3 := Lib.hid (HB2.out.trans (hb3.mono HB2.out.size)); clear hb3
    go_wp2_with fail
    go_ret
    exact ⟨rfl, HB3.out⟩
  · clear hout
    go_enter Try.func7, Try.ntmps7
    go_wp2_with fail
    refine (awake_any _).mono ?_
    rintro e w2 ⟨rfl, hb2⟩
    have HB2 := Lib.hid hb2; clear hb2
    go_wp2_with fail
    go_ret
    exact ⟨rfl, HB2.out⟩

set_option maxRecDepth 100000 in
set_option maxHeartbeats 1000000 in
theorem treeL_no (w : World) (lo : Option Addr) (ln lc : Nat) (l : Tab) (wo : Option Addr) (wn wc : Nat) (W : List Int) (hb : Byt l) (ho : Sv w lo ln lc 2 (opc l)) (hW : Sv w wo wn wc 1 (byc W)) (p q : Int)
    (h30 : wn ≤ 30) (hl : RightT l) (hd : derB l W 0 p q = false) :
    Calls Try.prog 7 #[.slice lo ln lc, .slice wo wn wc, .int .i64 p, .int .i64 q] w (Yes w) := by
  obtain ⟨h3, h4⟩ := ho.bound
  obtain ⟨h1, h1'⟩ := hW.bound
  have hwl := hW.byte_len
  have HRi := Lib.hid (fun w' (hb' : Below w.heap.size w w') => right_any w' lo lc ln l (ho.below hb') hb)
  rw [show rightB l = true from (rightB_iff l hb).2 hl] at HRi
  have HTr := Lib.hid (fun w' (hb' : Below w.heap.size w w') => tree_any w' lo ln lc wo wn wc l W hb (by omega) (ho.below hb') (hW.below hb') p q)
  have HDe := Lib.hid (fun w' (hb' : Below w.heap.size w w') => der_any w' lo ln lc wo wn wc l W hb (by omega) (ho.below hb') (hW.below hb') 0 p q)
  rw [hd, trT_not hd] at HTr
  rw [hd] at HDe
  clear ho hW hl hb hwl hd
  go_enter Try.func7, Try.ntmps7
  go_wp2_with fail
  refine (awake_any _).mono ?_
  rintro e w2 ⟨rfl, hb2⟩
  have HB2 := Lib.hid hb2; clear hb2
  go_wp2_with fail
  refine (HRi.out _ HB2.out).mono ?_
  rintro e w3 ⟨rfl, hb3⟩
  have HB3 := Lib.hid (HB2.out.trans (hb3.mono HB2.out.size)); clear hb3 HRi HB2
  go_wp2_with fail
  refine (HTr.out _ HB3.out).mono ?_
  rintro e w4 ⟨v, rfl, hot⟩
  obtain ⟨tq, tc, rfl, _⟩ := hot.sv
  have HB4 := Lib.hid (HB3.out.trans (hot.2.mono HB3.out.size)); clear hot HTr HB3
  simp only [List.length_nil]
  go_wp2_with fail
  refine (HDe.out _ HB4.out).mono ?_
  rintro e w5 ⟨rfl, hbx⟩
  have HB5 := Lib.hid (HB4.out.trans (hbx.mono HB4.out.size)); clear hbx HDe HB4
  go_wp2_with fail
  go_ret
  exact ⟨rfl, HB5.out⟩
end Go.Proofs.Ytmpccinbeepbgaa
