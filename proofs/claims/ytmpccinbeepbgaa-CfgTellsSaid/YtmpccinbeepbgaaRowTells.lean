/-
  Proved here: the law CfgTells returns true whatever table, bytes, level and places it is handed, and they read as they did.
  Its shell was turned from what the kit's proof-skeleton.mjs writes.
-/
import Derived.Test.YtmpccinbeepbgaaRows
import Derived.Test.YtmpccinbeepbgaaRo
import Derived.Test.YtmpccinbeepbgaaDp
import Derived.WalkKit
import Derived.ProofKit
import Derived.OpenShut
import Derived.ShutString
import Derived.ChangeOld
import Derived.Below
import Derived.SizedLaws
import Derived.Deep.SlicePairs
import Derived.Lib.SmallJoins
namespace Go.Proofs.Ytmpccinbeepbgaa.cfgTells
open Go.ChangeShapes Go.WideShapes Go.ChangeAt Go.RowKit Go.Deep Go.Joins
set_option linter.unusedVariables false

theorem own : ownKnob Try.prog.godebug = none := by kernel_rfl
theorem laidOut : laidOutB Try.prog = true := by kernel_rfl
theorem bytes5 : Try.prog.bytesOf 5 = 1 := by kernel_rfl

/-! ### The row's step -/
set_option maxRecDepth 100000 in
theorem lifted (os : Os) (started : os.Started) (H : Type) (enc : TypeId × Value → H) :
    ReturnsInHanded {} Try.checked os 3 .any (Rows.cfgTellsSpec.pre6 enc Try.prog Try.f3 Rows.cfgTellsRow.domain false) (Rows.cfgTellsSpec.post enc Try.prog Try.f3 false true false false) := by
  refine returnsInHanded_of_change_sized (C := Try.checked) own started (by kernel_rfl) Try.func3
    (ChangeSpec.witness6 (enc := enc) (C := Try.checked) false ⟨#[], #[.slice none 0 0, .slice none 0 0, .agg #[.int .i64 0, .int .i64 0, .int .i64 0]], []⟩ 8 (by kernel_rfl) (by kernel_rfl) (by kernel_rfl) (by kernel_rfl)) ?_
  intro W base args ds gs before hval0 hW hcnd hsz0 _
  have hval : ∀ (j : Nat) t v, Try.f3.params[j]? = some t → args[j]? = some v → Value.okWide Try.prog W .any base t v := hval0
  have hsz : (DataW.weightsEach Try.prog (Try.f3.params.toList ++ Rows.cfgTellsSpec.plain.varTypes Try.prog) (ds ++ gs)).all (· ≤ reachBytes) = true := hsz0
  clear hsz0
  have hW' := hW
  obtain ⟨p, q, hA0, hV, rfl, hfz, hnd⟩ := hW
  have hA : DataW.TrodAll enc Try.prog W 0 (fun _ => true) true Try.f3.params.toList args.toList ds p := hA0
  rw [Try.params3] at hA hval hsz
  obtain ⟨v0, vs0, d0, ds0, p0, q0, hargs, rfl, rfl, h0, r0⟩ := trodAll_cons hA
  obtain ⟨v1, vs1, d1, ds1, p1, q1, rfl, rfl, rfl, h1, r1⟩ := trodAll_cons r0
  obtain ⟨v2, vs2, d2, ds2, p2, q2, rfl, rfl, rfl, h2, r2⟩ := trodAll_cons r1
  obtain ⟨rfl, rfl, rfl⟩ := trodAll_nil r2
  obtain rfl : args = #[v0, v1, v2] := by cases args; simp_all
  obtain ⟨rfl, rfl⟩ := trodVars_none hV
  obtain ⟨a0, len0, cap0, rfl⟩ := okWide_slice Try.underlying22 (hval 0 22 v0 rfl rfl)
  have k0 := h0
  have lt0 : ∀ x ∈ p0, x.block < W.heap.size := by obtain ⟨m, hm⟩ := k0; exact DataW.trod_lt m _ _ _ hm
  obtain ⟨l0, hs0, hb0⟩ : ∃ l : Tab, Sv W a0 len0 cap0 2 (opc l) ∧ Byt l := by obtain ⟨fuel, hf⟩ := h0; exact read_ops hf rfl
  obtain ⟨a1, len1, cap1, rfl⟩ := okWide_slice Try.underlying23 (hval 1 23 v1 rfl rfl)
  have k1 := h1
  have lt1 : ∀ x ∈ p1, x.block < W.heap.size := by obtain ⟨m, hm⟩ := k1; exact DataW.trod_lt m _ _ _ hm
  obtain ⟨⟨l1, hs1, hb1⟩, hn1⟩ : (∃ l : List Int, Sv W a1 len1 cap1 1 (byc l) ∧ ∀ c ∈ l, 0 ≤ c ∧ c < 256) ∧ len1 ≤ 140737488351232 := by
    obtain ⟨fuel, hf⟩ := h1
    refine ⟨(read_bytes hf rfl).1, ?_⟩
    rcases (read_bytes hf rfl).2 with h0 | ⟨el, sp, hd, hle⟩
    · omega
    · simp only at hd
      subst hd
      have h2 := sized_top hsz (j := 1) (t := 23) (e := 5) rfl rfl Try.underlying23
      rw [bytes5] at h2
      simp only [reachBytes] at h2
      omega
  have cells25 : Try.prog.cellsOf 25 = 3 := by kernel_rfl
  obtain ⟨c20, c21, c22, y20, y21, y22, m2, rfl, rfl, rfl, hy20, hy21, hy22⟩ := open_agg3 Try.underlying25 (by kernel_rfl) cells25 (hval 2 25 v2 rfl rfl) h2
  obtain ⟨x20, e20, rfl, wx20⟩ := DataW.trod_int Try.underlying3 hy20
  obtain ⟨x21, e21, rfl, wx21⟩ := DataW.trod_int Try.underlying3 hy21
  obtain ⟨x22, e22, rfl, wx22⟩ := DataW.trod_int Try.underlying3 hy22
  simp at e20 e21 e22
  subst e20 e21 e22
  have reads2 : ∀ (W' : World) (sp : Nat → Bool), DataW.Trod enc Try.prog W' 0 sp true 25 (.agg #[.int .i64 x20, .int .i64 x21, .int .i64 x22]) (.agg [.lit (.int .i64 x20), .lit (.int .i64 x21), .lit (.int .i64 x22)]) [] := fun W' sp =>
    shut_agg3 (y0 := (.lit (.int .i64 x20), [])) (y1 := (.lit (.int .i64 x21), [])) (y2 := (.lit (.int .i64 x22), [])) Try.underlying25 (by kernel_rfl) cells25 ⟨1, by simp [DataW.trod, Try.underlying3, wx20]⟩ ⟨1, by simp [DataW.trod, Try.underlying3, wx21]⟩ ⟨1, by simp [DataW.trod, Try.underlying3, wx22]⟩
  clear hA0 hval0
  refine (tells_any W a0 len0 cap0 a1 len1 cap1 l0 l1 hb0 hs0 hs1 x20 x21 x22).mono fun e W' ⟨he, bel⟩ => ?_
  subst he
  exact ⟨_, rfl, _, _, _, [], _, [], hW', trodAll_mk1 (shut_bool Try.underlying4 _), (trodAll_cons_mk (Below.trod laidOut (by kernel_rfl) (of_decide_eq_true (by kernel_rfl)) k0 bel lt0) (trodAll_cons_mk (Below.trod laidOut (by kernel_rfl) (of_decide_eq_true (by kernel_rfl)) k1 bel lt1) (trodAll_cons_mk (reads2 _ _) trodAll_mk0))), rfl, bel.frame _, fun h => by cases h⟩

theorem over : Rows.cfgTellsRow.holds Try.pinned (OpenSpec.ofChange Rows.cfgTellsSpec) :=
  OpenClaim.holds_of_wide 3 Try.f3 rfl rfl rfl rfl rfl rfl rfl ⟨rfl, rfl, rfl, rfl, rfl⟩ rfl rfl rfl rfl rfl (by kernel_rfl) Try.func3 (by kernel_rfl)
    (of_decide_eq_true (by kernel_rfl)) (by unfold Func.isWrapper; first | (rw [if_pos (by decide +kernel)]; kernel_rfl) | (rw [if_neg (by decide +kernel)]; exact ⟨rfl, rfl⟩))
    (fun os started H enc _ => lifted os started H enc)

/-- The given statement. -/
theorem proved : Rows.CfgTellsSaid := over
end Go.Proofs.Ytmpccinbeepbgaa.cfgTells
