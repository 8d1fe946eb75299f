/- Walks: own, state, May. -/
import Derived.Test.YtbndpmfekglnkaaW1
namespace Go.Proofs.Ytbndpmfekglnkaa
open Go.RowKit

theorem Try.info3 : (Try.prog.info? 3).map (fun i => (i.zero, i.size, i.bytes)) = some (some (.int .i64 0), 1, 8) := by kernel_rfl
theorem Try.info36 : (Try.prog.info? 36).map (fun i => (i.zero, i.size, i.bytes)) = some (some (.int .i64 0), 1, 8) := by kernel_rfl

/-- The one new cell that append(s, x) appends. -/
theorem one_new (w : World) (v : Value) (t : TypeId) : ∀ j u, ([v] : List Value)[j]? = some u → (w.alloc (.cells #[v] t)).cell? ((⟨w.heap.size, 0, none⟩ : Addr).add j) = some u := by
  intro j u hj
  match j, hj with
  | 0, hj => simp at hj; subst hj; simp [Addr.add]

set_option maxHeartbeats 1000000 in
theorem own_any (ao : Option Addr) (cap : Nat) (zs : List Int) (n : Nat) (w : World) (hs : Sl w ao cap zs) (hn : n < zs.length) (hbig : zs.length ≤ 1000000) :
    Calls Try.prog 29 #[.slice ao zs.length cap, .int .i64 n] w fun r w' => ∃ v, r = .returned v ∧ w'.ownsRow w.heap.size 3 1 v (ownR zs n).length ((ownR zs n).map (.int .i64)) ∧ Below w.heap.size w w' := by
  obtain ⟨h1, h2⟩ := hs.bound
  have HSl := Lib.hid hs; clear hs
  obtain ⟨i0, hi, hz0, hz1, hz2⟩ := info_parts Try.info3
  have Hi := Lib.hid hi; have Hz0 := Lib.hid hz0; have Hz1 := Lib.hid hz1; have Hz2 := Lib.hid hz2
  clear hi hz0 hz1 hz2
  go_enter Try.func29, Try.ntmps29
  go_wp2
  go_loopw [5, 6, 7] (fun v o i wr => ∃ (k : Nat) (op : Int) (acc : List Int), k ≤ zs.length ∧ i = .int .i64 k ∧ o = .int .i64 op ∧ -1 ≤ op ∧ op ≤ k ∧ acc.length ≤ k ∧
      wr.ownsRow w.heap.size 3 1 v acc.length (acc.map (.int .i64)) ∧ Below w.heap.size w wr ∧ Hid (acc ++ ownGo (zs.drop k) op = ownR zs n)) (fun _ _ i _ => zs.length - (intOf i).toNat)
  case atStart => exact ⟨n + 1, 0, [], by omega, by go_num, rfl, by omega, by omega, by simp, World.ownsRow_nil _ _ _ _, Below.refl _ _, rfl⟩
  case round =>
    obtain ⟨k, op, acc, hk, rfl, rfl, ho1, ho2, hac, hown, hbel, hR⟩ := hrel
    have Hown := Lib.hid hown; clear hown
    have Hbel := Lib.hid hbel; clear hbel
    by_cases hlt : k < zs.length
    · by_cases hop : op < 0
      · have fin : acc = ownR zs n := by
          have := hR.out; rw [drop_cons zs k hlt] at this; simp only [ownGo, if_pos hop, List.append_nil] at this; exact this
        have HF := Lib.hid fin; clear fin
        go_wp2
        go_ret
        exact ⟨_, rfl, by rw [← HF.out]; exact Hown.out, Hbel.out⟩
      · obtain ⟨a, rfl, hcell⟩ := (HSl.out.below Hbel.out).2.2.2 k hlt
        have hR' := hR.out
        rw [drop_cons zs k hlt] at hR'
        simp only [ownGo, if_neg hop] at hR'
        generalize zs.getD k 0 = x at *
        have HS := Lib.hid hR'; clear hR' hR
        have hop0 : 0 ≤ op := by omega
        clear hop
        by_cases x1 : x = 1
        · subst x1
          go_wp2
          go_roundw
          case rel => exact ⟨k + 1, op + 1, acc, by omega, by go_num, rfl, by omega, by omega, by omega, Hown, Hbel, by unfold Hid; have := HS.out; simpa using this⟩
          case measure => simp [intOf]; omega
        · by_cases x8 : x = 8
          · subst x8
            go_wp2
            go_roundw
            case rel => exact ⟨k + 1, op - 1, acc, by omega, by go_num, rfl, by omega, by omega, by omega, Hown, Hbel, by unfold Hid; have := HS.out; simpa using this⟩
            case measure => simp [intOf]; omega
          · have b1 : (x == 1) = false := by simpa using x1
            have b8 : (x == 8) = false := by simpa using x8
            by_cases x23 : x = 2 ∨ x = 3
            · by_cases hop1 : op = 0
              · have HS' : Hid ((acc ++ [x]) ++ ownGo (zs.drop (k+1)) op = ownR zs n) := by
                  unfold Hid; have := HS.out; rw [if_neg x1, if_neg x8, if_pos ⟨x23, hop1⟩] at this; simpa using this
                subst hop1
                clear HS x1 x8
                rcases x23 with rfl | rfl
                all_goals
                  go_wp2_with (first
                    | (at_builtin; refine wpList_append_own _ rfl _ _ 48 rfl w.heap.size 3 i0 (.int .i64 0) 1 8 Try.underlying48 Hi.out Hz0.out Hz1.out Hz2.out rfl (by decide) _ _ _ rfl (Hown.out.alloc _) ⟨wr.heap.size, 0, none⟩ 1 1 [_] rfl rfl (one_new _ _ _) (by simp [Value.oneCell']) (by unfold maxLen; omega) (by omega) (by have := Hbel.out.size; simp; omega) ?_; intro v' w1 hown1 hgrow1 _; have Hown1 := Lib.hid hown1; have Hbel1 := Lib.hid ((Hbel.out.alloc Hbel.out.size _).grown hgrow1 (by have := Hbel.out.size; simp; omega) (fun kk hkk => (Hown.out.lt kk hkk).1)); clear hown1 hgrow1)
                    | go_in)
                  go_roundw
                  case rel => exact ⟨k + 1, 0, acc ++ [_], by omega, by go_num, rfl, by omega, by omega, by simp; omega, by simpa using Hown1.out, Hbel1.out, HS'⟩
                  case measure => simp [intOf]; omega
              · have HS' : Hid (acc ++ ownGo (zs.drop (k+1)) op = ownR zs n) := by
                  unfold Hid; have := HS.out; rw [if_neg x1, if_neg x8, if_neg (fun h => hop1 h.2)] at this; exact this
                have bo : (op == 0) = false := by simpa using hop1
                clear HS x1 x8 hop1
                rcases x23 with rfl | rfl
                all_goals
                  go_wp2
                  go_roundw
                  case rel => exact ⟨k + 1, op, acc, by omega, by go_num, rfl, by omega, by omega, by omega, Hown.out, Hbel.out, HS'⟩
                  case measure => simp [intOf]; omega
            · have HS' : Hid (acc ++ ownGo (zs.drop (k+1)) op = ownR zs n) := by
                unfold Hid; have := HS.out; rw [if_neg x1, if_neg x8, if_neg (fun h => x23 h.1)] at this; exact this
              have b2 : (x == 2) = false := by simp; omega
              have b3 : (x == 3) = false := by simp; omega
              clear HS x1 x8 x23
              go_wp2
              go_roundw
              case rel => exact ⟨k + 1, op, acc, by omega, by go_num, rfl, by omega, by omega, by omega, Hown.out, Hbel.out, HS'⟩
              case measure => simp [intOf]; omega
    · have fin : acc = ownR zs n := by
        have := hR.out; rw [List.drop_of_length_le (by omega)] at this; simpa [ownGo] using this
      have HF := Lib.hid fin; clear fin
      go_wp2
      go_ret
      exact ⟨_, rfl, by rw [← HF.out]; exact Hown.out, Hbel.out⟩
end Go.Proofs.Ytbndpmfekglnkaa
