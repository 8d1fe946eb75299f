/- Walks: a twig's kids, and how many twigs it has. -/
import Derived.Test.YtmpccinbeepbgaaCD
namespace Go.Proofs.Ytmpccinbeepbgaa
open Go.RowKit

set_option maxRecDepth 100000 in
set_option maxHeartbeats 1000000 in
theorem hasTw_any (w : World) (ao : Option Addr) (cap n : Nat) (t : List Tw) (hs : Sv w ao n cap 5 (t.flatMap twc)) (hn : n ≤ 1000000) (hk : ∀ x ∈ t, 0 ≤ x.kids ∧ x.kids ≤ 1000000) (hf : forestB t = true) (p : Nat) (hp : p < n) :
    Calls Try.prog 41 #[.slice ao n cap, .int .i64 p] w fun r w' => r = .returned (.bool true) ∧ Below w.heap.size w w' := by
  have HF := Lib.hid (forest_any w ao cap n t hs hn (fun x hx => (hk x hx).2))
  rw [hf] at HF
  clear hs hk hf
  have hp0 : (p : Int) < n := by omega
  go_enter Try.func41, Try.ntmps41
  go_wp2_with fail
  refine HF.out.mono ?_
  rintro e w2 ⟨rfl, hb2⟩
  have HB2 := Lib.hid hb2; clear hb2
  go_wp2_with fail
  go_ret
  exact ⟨rfl, HB2.out⟩

set_option maxRecDepth 100000 in
set_option maxHeartbeats 1000000 in
theorem size_any (w : World) (ao : Option Addr) (cap n : Nat) (t : List Tw) (hs : Sv w ao n cap 5 (t.flatMap twc)) (hn : n ≤ 1000000) (hk : ∀ x ∈ t, 0 ≤ x.kids ∧ x.kids ≤ 1000000) (hf : forestB t = true) (p d : Nat) (hp : p < n) (hd : afT 1 (t.drop p) = some d) (hd1 : d ≤ 1000000) :
    Calls Try.prog 24 #[.slice ao n cap, .int .i64 p] w fun r w' => r = .returned (.int .i64 d) ∧ Below w.heap.size w w' := by
  have HH := Lib.hid (hasTw_any w ao cap n t hs hn hk hf p hp)
  have HA := Lib.hid (fun w' (hb : Below w.heap.size w w') => after_any w' ao cap n t (hs.below hb) hn hk p d hd (Nat.le_of_lt hp))
  clear hs hk hf hd
  go_enter Try.func24, Try.ntmps24
  go_wp2_with fail
  refine HH.out.mono ?_
  rintro e w2 ⟨rfl, hb2⟩
  have HB2 := Lib.hid hb2; clear hb2
  go_wp2_with fail
  refine (HA.out _ HB2.out).mono ?_
  rintro e w3 ⟨rfl, rfl⟩
  go_wp2_with fail
  go_ret
  exact ⟨ret_int (by omega), HB2.out⟩

set_option maxRecDepth 100000 in
set_option maxHeartbeats 1000000 in
theorem kids_any (w : World) (ao : Option Addr) (cap n : Nat) (t : List Tw) (hs : Sv w ao n cap 5 (t.flatMap twc)) (hn : n ≤ 1000000) (hk : ∀ x ∈ t, 0 ≤ x.kids ∧ x.kids ≤ 1000000) (hf : forestB t = true)
    (A B : List Tw) (ts : List (List Tw)) (ht : t = A ++ ts.flatten ++ B) (hts : ∀ u ∈ ts, IsTree u) (p : Nat) (hA : A.length = p + 1) (hd : afT 1 (t.drop p) = some (1 + ts.flatten.length)) :
    Calls Try.prog 25 #[.slice ao n cap, .int .i64 p] w fun r w' => (∃ v, r = .returned v ∧ Own w w' 3 1 v ts.length ((starts (p + 1) ts).map (.int .i64))) := by
  have hl := hs.elems_len twc_len (by omega)
  have hp : p < n := by
    have := congrArg List.length ht
    simp only [List.length_append] at this; omega
  have hlen : ts.flatten.length + (p + 1) ≤ n := by
    have := congrArg List.length ht
    simp only [List.length_append] at this; omega
  have HH := Lib.hid (hasTw_any w ao cap n t hs hn hk hf p hp)
  have HA := Lib.hid (fun w' (hb : Below w.heap.size w w') => after_any w' ao cap n t (hs.below hb) hn hk p _ hd (Nat.le_of_lt hp))
  have HS := Lib.hid (fun w' (hb : Below w.heap.size w w') => some_any w' ao cap n t (hs.below hb) hn hk A B ts ht hts (p + 1) (p + (1 + ts.flatten.length)) hA.symm (by omega))
  clear hs hk hf hd ht hts hl hA
  rw [show ((p + 1 : Nat) : Int) = (p : Int) + 1 by omega] at HS
  generalize p + (1 + ts.flatten.length) = E at *
  go_enter Try.func25, Try.ntmps25
  go_wp2_with fail
  refine HH.out.mono ?_
  rintro e w2 ⟨rfl, hb2⟩
  have HB2 := Lib.hid hb2; clear hb2
  have HK : Hid (Calls Try.prog 43 #[.slice ao n cap, .int .i64 p] w2 fun r w' => (∃ v, r = .returned v ∧ Own w2 w' 3 1 v ts.length ((starts (p + 1) ts).map (.int .i64)))) := by
    have HA2 := Lib.hid (HA.out _ HB2.out); have HS2 := Lib.hid (HS.out _ HB2.out)
    clear HA HS HH
    unfold Hid
    go_enter Try.func43, Try.ntmps43
    go_wp2_with fail
    refine HA2.out.mono ?_
    rintro e w3 ⟨rfl, rfl⟩
    go_wp2_with fail
    refine HS2.out.mono ?_
    rintro e w4 ⟨v, rfl, ho⟩
    have HO := Lib.hid ho; clear ho
    go_wp2_with fail
    go_ret
    exact ⟨v, rfl, HO.out⟩
  clear HA HS HH
  go_wp2_with fail
  refine HK.out.mono ?_
  rintro e w3 ⟨v, rfl, ho⟩
  have HO := Lib.hid (ho.since HB2.out); clear ho
  go_wp2_with fail
  go_ret
  exact ⟨v, rfl, HO.out⟩
end Go.Proofs.Ytmpccinbeepbgaa
