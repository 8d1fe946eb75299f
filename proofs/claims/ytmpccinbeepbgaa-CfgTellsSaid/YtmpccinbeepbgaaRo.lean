/- Arguments that came in, read: tables of operators, bytes. -/
import Derived.Test.YtmpccinbeepbgaaCL
import Derived.Deep.SlicePairs
import Derived.ProofKit
import Derived.OpenShut
import Derived.SizedLaws
namespace Go.Proofs.Ytmpccinbeepbgaa
open Go.RowKit Go.ChangeShapes Go.WideShapes Go.ChangeAt Go.Deep

section
variable {H : Type} {enc : TypeId × Value → H} {w : World} {base : Nat} {spare : Nat → Bool} {held : Bool}

theorem read_ops {fuel : Nat} {v : Value} {x : DataW H × List MemPlace} (h : DataW.trod enc Try.prog w base spare held fuel 22 v.cells.toList = some x) {ao : Option Addr} {len cap : Nat} (hv : v = .slice ao len cap) :
    ∃ l : Tab, Sv w ao len cap 2 (opc l) ∧ Byt l := by
  subst hv
  rcases open_slice_pairs Try.underlying22 Try.underlying43 (by kernel_rfl) rfl rfl (by kernel_rfl) (by kernel_rfl) h with ⟨hcs, _⟩ | ⟨a, len', cap', m, n, V0, V1, D0, D1, P0, P1, hcs, _, hl, hm, hmm, _, hi⟩
  · simp [Value.cells] at hcs
    obtain ⟨rfl, rfl, rfl⟩ := hcs
    exact ⟨[], Sv.nil w 2, by intro o ho; cases ho⟩
  · simp [Value.cells] at hcs
    obtain ⟨rfl, rfl, rfl⟩ := hcs
    have hlm : len ≤ m := by rw [hmm]; split <;> omega
    have each : ∀ i, ∃ q : Int × Bool, i < len → w.cell? (a.add (i * 2)) = some (.int .u8 q.1) ∧ w.cell? (a.add (i * 2 + 1)) = some (.bool q.2) ∧ 0 ≤ q.1 ∧ q.1 < 256 := by
      intro i
      by_cases hlt : i < len
      · obtain ⟨h0, h1, h2, h3⟩ := hi i (by omega)
        obtain ⟨k, hk, _, hw⟩ := DataW.trod_int Try.underlying5 h2
        obtain ⟨b, hb, _⟩ := DataW.trod_bool Try.underlying4 h3
        simp only [List.cons.injEq, and_true] at hk hb
        refine ⟨(k, b), fun _ => ⟨by rw [h0, hk], by rw [h1, hb], ?_⟩⟩
        have := bounds_u8 hw
        show 0 ≤ k ∧ k < 256
        omega
      · exact ⟨(0, false), fun h => absurd h hlt⟩
    let q := fun i => Classical.choose (each i)
    have hq : ∀ i, i < len → _ := fun i => Classical.choose_spec (each i)
    refine ⟨(List.range len).map q, ⟨by rw [opc_len]; simp, hl, hm, (fun h => nomatch h), fun j hj => ⟨a, rfl, ?_⟩⟩, ?_⟩
    · rw [opc_len] at hj
      simp only [List.length_map, List.length_range] at hj
      obtain ⟨k, rfl | rfl⟩ : ∃ k, j = k * 2 ∨ j = k * 2 + 1 := ⟨j / 2, by omega⟩
      · have hk : k < len := by omega
        have := (opc_get ((List.range len).map q) k (by simpa using hk)).1
        rw [this, (hq k hk).1]
        simp [q]
      · have hk : k < len := by omega
        have := (opc_get ((List.range len).map q) k (by simpa using hk)).2
        rw [this, (hq k hk).2.1]
        simp [q]
    · intro o ho
      obtain ⟨i, h1, rfl⟩ := List.mem_map.1 ho
      exact (hq i (List.mem_range.1 h1)).2.2

theorem read_bytes {fuel : Nat} {v : Value} {x : DataW H × List MemPlace} (h : DataW.trod enc Try.prog w base spare held fuel 23 v.cells.toList = some x) {ao : Option Addr} {len cap : Nat} (hv : v = .slice ao len cap) :
    (∃ W : List Int, Sv w ao len cap 1 (byc W) ∧ ∀ c ∈ W, 0 ≤ c ∧ c < 256) ∧ (len = 0 ∨ ∃ elems rest, x.1 = .slice elems rest ∧ len ≤ elems.length + rest.length) := by
  subst hv
  rcases open_ints Try.underlying23 Try.underlying5 (by kernel_rfl) h with ⟨hcs, hx⟩ | ⟨a, l, c, zs, hcs, _, hl, hm, hz, hx, hcell, hwz⟩
  · simp [Value.cells] at hcs
    obtain ⟨rfl, rfl, rfl⟩ := hcs
    exact ⟨⟨[], Sv.nil w 1, by intro c hc; cases hc⟩, .inl rfl⟩
  · simp [Value.cells] at hcs
    obtain ⟨rfl, rfl, rfl⟩ := hcs
    have hzl : len ≤ zs.length := by rw [hz]; split <;> omega
    refine ⟨⟨zs.take len, ⟨by simp [byc]; omega, hl, hm, (fun h => nomatch h), fun j hj => ⟨a, rfl, ?_⟩⟩, ?_⟩, ?_⟩
    · simp only [byc, List.length_map, List.length_take] at hj
      rw [hcell j (by omega)]
      simp [byc, List.getD_eq_getElem?_getD, show j < len by omega, show j < zs.length by omega]
    · intro c hc
      have := bounds_u8 (hwz c (List.mem_of_mem_take hc))
      omega
    · refine .inr ⟨_, _, by rw [hx], ?_⟩
      simp [lits]
      omega

theorem sized_top {P : Program} {ts : List TypeId} {ds : List (DataW H)} (h : (DataW.weightsEach P ts ds).all (· ≤ reachBytes) = true) {j : Nat} {t e : TypeId} {elems rest : List (DataW H)}
    (ht : ts[j]? = some t) (hd : ds[j]? = some (.slice elems rest)) (hu : P.underlying t = some (.slice e)) : (elems.length + rest.length) * P.bytesOf e ≤ reachBytes := by
  have h2 : (elems.length + rest.length) * P.bytesOf e ∈ (DataW.slice elems rest : DataW H).weights P t := by
    simp only [DataW.weights, hu, List.mem_cons, true_or]
  have := List.all_eq_true.1 h _ (DataW.weights_mem_each ht hd _ h2)
  simpa using this
end
end Go.Proofs.Ytmpccinbeepbgaa
