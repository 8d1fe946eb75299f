/-
  Proved here: the law CountLogs returns true whatever rows and number it is handed, and both read as they did.
  Its shell (all but the walk and the reading of the rows) was turned from the kit's proof-skeleton.mjs.
-/
import Derived.Test.YtbndpmfekglnkaaRows
import Derived.Test.YtbndpmfekglnkaaW27
import Derived.WalkKit
import Derived.ProofKit
import Derived.OpenShut
import Derived.ShutString
import Derived.ChangeOld
import Derived.Below
import Derived.SizedLaws
import Derived.Deep.Matrix
namespace Go.Proofs.Ytbndpmfekglnkaa.countLogs
open Go.ChangeShapes Go.WideShapes Go.ChangeAt Go.RowKit Go.Deep
open Go.ChangeMaps (open_string shut_string)
set_option linter.unusedVariables false

theorem own : ownKnob Try.prog.godebug = none := by kernel_rfl
theorem laidOut : laidOutB Try.prog = true := by kernel_rfl
theorem cells22 : Try.prog.cellsOf 22 = 1 := by kernel_rfl
theorem cells36 : Try.prog.cellsOf 36 = 1 := by kernel_rfl
theorem bytes36 : Try.prog.bytesOf 36 = 8 := by kernel_rfl

theorem weightsAll_mem {H : Type} {P : Program} {e : TypeId} {n : Nat} : ∀ (l : List (DataW H)) (d : DataW H), d ∈ l → n ∈ d.weights P e → n ∈ DataW.weightsAll P e l
  | [], d, h, _ => by cases h
  | x :: r, d, h, hn => by
    simp only [DataW.weightsAll, List.mem_append]
    rcases List.mem_cons.1 h with rfl | h
    · exact .inl hn
    · exact .inr (weightsAll_mem r d h hn)

theorem sized_inner {H : Type} {P : Program} {ts : List TypeId} {ds : List (DataW H)} (h : (DataW.weightsEach P ts ds).all (· ≤ reachBytes) = true) {j : Nat} {t e e2 : TypeId} {elems spare el2 sp2 : List (DataW H)}
    (ht : ts[j]? = some t) (hd : ds[j]? = some (.slice elems spare)) (hu : P.underlying t = some (.slice e)) (hm : DataW.slice el2 sp2 ∈ elems) (hu2 : P.underlying e = some (.slice e2)) : (el2.length + sp2.length) * P.bytesOf e2 ≤ reachBytes := by
  have h1 : (el2.length + sp2.length) * P.bytesOf e2 ∈ (DataW.slice el2 sp2 : DataW H).weights P e := by simp [DataW.weights, hu2]
  have h2 : (el2.length + sp2.length) * P.bytesOf e2 ∈ (DataW.slice elems spare : DataW H).weights P t := by
    simp only [DataW.weights, hu, List.mem_cons, List.mem_append]
    exact .inr (.inl (weightsAll_mem _ _ hm h1))
  have := List.all_eq_true.1 h _ (DataW.weights_mem_each ht hd _ h2)
  simpa using this

theorem walk (a0 : Option Addr) (len0 cap0 : Nat) (n : Int) (L : List (List Int)) (w : World) (hl : len0 = L.length) (hR : RowsAt w a0 cap0 L) :
    Calls Try.prog 7 #[.slice a0 len0 cap0, .int .i64 n] w fun e w' => e = .returned (.bool true) ∧ Below w.heap.size w w' :=
  logs_any a0 cap0 len0 n L w hl hR

/-! ### The row's step -/
set_option maxRecDepth 100000 in
theorem lifted (os : Os) (started : os.Started) (H : Type) (enc : TypeId × Value → H) :
    ReturnsInHanded {} Try.checked os 7 .any (Rows.countLogsSpec.pre6 enc Try.prog Try.f7 Rows.countLogsRow.domain false) (Rows.countLogsSpec.post enc Try.prog Try.f7 false true false false) := by
  refine returnsInHanded_of_change_sized (C := Try.checked) own started (by kernel_rfl) Try.func7
    (ChangeSpec.witness6 (enc := enc) (C := Try.checked) false ⟨#[], #[.slice none 0 0, .int .i64 0], []⟩ 8 (by kernel_rfl) (by kernel_rfl) (by kernel_rfl) (by kernel_rfl)) ?_
  intro W base args ds gs before hval0 hW hcnd hsz0 _
  have hval : ∀ (j : Nat) t v, Try.f7.params[j]? = some t → args[j]? = some v → Value.okWide Try.prog W .any base t v := hval0
  have hsz : (DataW.weightsEach Try.prog (Try.f7.params.toList ++ Rows.countLogsSpec.plain.varTypes Try.prog) (ds ++ gs)).all (· ≤ reachBytes) = true := hsz0
  clear hsz0
  have hW' := hW
  obtain ⟨p, q, hA0, hV, rfl, hfz, hnd⟩ := hW
  have hA : DataW.TrodAll enc Try.prog W 0 (fun _ => true) true Try.f7.params.toList args.toList ds p := hA0
  rw [Try.params7] at hA hval hsz
  obtain ⟨v0, vs0, d0, ds0, p0, q0, hargs, rfl, rfl, h0, r0⟩ := trodAll_cons hA
  obtain ⟨v1, vs1, d1, ds1, p1, q1, rfl, rfl, rfl, h1, r1⟩ := trodAll_cons r0
  obtain ⟨rfl, rfl, rfl⟩ := trodAll_nil r1
  obtain rfl : args = #[v0, v1] := by cases args; simp_all
  obtain ⟨rfl, rfl⟩ := trodVars_none hV
  obtain ⟨a0, len0, cap0, rfl⟩ := okWide_slice Try.underlying44 (hval 0 44 v0 rfl rfl)
  have k0 := h0
  have lt0 : ∀ x ∈ p0, x.block < W.heap.size := by obtain ⟨m, hm⟩ := k0; exact DataW.trod_lt m _ _ _ hm
  obtain ⟨L, hl0, hR0⟩ : ∃ L : List (List Int), len0 = L.length ∧ RowsAt W a0 cap0 L := by
    obtain ⟨fuel, hf⟩ := h0
    rcases open_int_rows Try.underlying44 Try.underlying22 Try.underlying36 cells22 cells36 hf with ⟨hcs, _⟩ | ⟨a, len, cap, A, Ln, C, Z, hcs, _, hl, hm, hx, hrows⟩
    · simp [Value.cells] at hcs
      obtain ⟨rfl, rfl, rfl⟩ := hcs
      exact ⟨[], rfl, ⟨by simp, by omega, fun i hi => by simp at hi, fun _ => rfl⟩⟩
    · simp [Value.cells] at hcs
      obtain ⟨rfl, rfl, rfl⟩ := hcs
      simp only [Prod.mk.injEq] at hx
      obtain ⟨rfl, _⟩ := hx
      unfold maxLen at hm
      have hg : ∀ i, i < len0 → ((List.range len0).map fun r => (Z r).take (Ln r)).getD i [] = (Z i).take (Ln i) := fun i hi => by
        simp [List.getD_eq_getElem?_getD, hi]
      refine ⟨(List.range len0).map fun r => (Z r).take (Ln r), by simp, ⟨by simpa using hl, by omega, fun i hi => ?_, fun h => nomatch h⟩⟩
      have hi' : i < len0 := by simpa using hi
      obtain ⟨hc, hlc, hcm, hzl, hwf, hnn, hcell⟩ := hrows i (by omega)
      rw [hg i hi']
      have hlen : ((Z i).take (Ln i)).length = Ln i := by rw [List.length_take]; omega
      refine ⟨a, A i, C i, rfl, by rw [hlen]; exact hc, ⟨by omega, hcm, hnn, fun j hj => ?_⟩, ?_⟩
      · rw [hlen] at hj
        cases hA' : A i with
        | none => have := hnn hA'; omega
        | some a' =>
          refine ⟨a', rfl, ?_⟩
          rw [(hcell a' hA').2 j (by omega)]
          congr 2
          simp [List.getD_eq_getElem?_getD, hj]
      · rw [hlen]
        cases hA' : A i with
        | none => have := hnn hA'; omega
        | some a' =>
          have hmem : intRow (H := H) .i64 (A i) (Ln i) (Z i) ∈ (List.range len0).map fun r => intRow (H := H) .i64 (A r) (Ln r) (Z r) := List.mem_map.2 ⟨i, List.mem_range.2 hi', rfl⟩
          simp only [hA', intRow] at hmem
          have := sized_inner hsz (j := 0) (t := 44) (e := 22) (e2 := 36) rfl rfl Try.underlying44 hmem Try.underlying22
          rw [bytes36] at this
          simp only [lits, List.length_map, List.length_take, List.length_drop, reachBytes] at this
          omega
  obtain ⟨a1, rfl, rfl, rfl, w1⟩ := open_int Try.underlying3 (hval 1 3 v1 rfl rfl) h1
  clear hA0 hval0
  refine (walk a0 len0 cap0 a1 L W hl0 hR0).mono fun e W' ⟨he, bel⟩ => ?_
  subst he
  exact ⟨_, rfl, _, _, _, [], _, [], hW', trodAll_mk1 (shut_bool Try.underlying4 _), (trodAll_cons_mk (Below.trod laidOut (by kernel_rfl) (of_decide_eq_true (by kernel_rfl)) k0 bel lt0) (trodAll_cons_mk (shut_int Try.underlying3 w1) trodAll_mk0)), rfl, bel.frame _, fun h => by cases h⟩

theorem over : Rows.countLogsRow.holds Try.pinned (OpenSpec.ofChange Rows.countLogsSpec) :=
  OpenClaim.holds_of_wide 7 Try.f7 rfl rfl rfl rfl rfl rfl rfl ⟨rfl, rfl, rfl, rfl, rfl⟩ rfl rfl rfl rfl rfl (by kernel_rfl) Try.func7 (by kernel_rfl)
    (of_decide_eq_true (by kernel_rfl)) (by unfold Func.isWrapper; first | (rw [if_pos (by decide +kernel)]; kernel_rfl) | (rw [if_neg (by decide +kernel)]; exact ⟨rfl, rfl⟩))
    (fun os started H enc _ => lifted os started H enc)

/-- The given statement. -/
theorem proved : Rows.CountLogsSaid := over
end Go.Proofs.Ytbndpmfekglnkaa.countLogs
