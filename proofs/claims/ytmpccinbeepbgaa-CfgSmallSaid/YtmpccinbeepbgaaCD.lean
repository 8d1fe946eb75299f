/- Walks: a twig on a forest. -/
import Derived.Test.YtmpccinbeepbgaaCC
namespace Go.Proofs.Ytmpccinbeepbgaa
open Go.RowKit

section
variable {l : Tab} {w : List Int}
theorem KDf.size : ∀ {f a b : Nat} {t : List Tw} {m : Nat}, KDf l w f a b t m → a < b ∧ t.length ≤ 2 * (b - a) ∧ m ≤ 2 ∧ ∀ x ∈ t, 0 ≤ x.kids ∧ x.kids ≤ 2
  | 0, _, _, _, _, h => h.elim
  | f + 1, a, b, _, _, h => by
    rcases h with ⟨_, rfl, rfl, rfl⟩ | ⟨_, e, t', m', rfl, _, k3, k4, rfl, rfl⟩ | ⟨i, c, t1, t2, m1, m2, k1, k2, k3, rfl, rfl⟩
    · exact ⟨by omega, by simp, by omega, by simp⟩
    · obtain ⟨h1, h2, h3, h4⟩ := k4.size
      refine ⟨by omega, by simp only [List.length_cons]; omega, by omega, ?_⟩
      intro x hx
      rcases List.mem_cons.1 hx with rfl | hx
      · simp only [tw]; omega
      · exact h4 x hx
    · obtain ⟨h1, h2, h3, h4⟩ := k2.size
      obtain ⟨g1, g2, g3, g4⟩ := k3.size
      refine ⟨by omega, by simp only [List.length_append, List.length_cons]; omega, by omega, ?_⟩
      intro x hx
      rcases List.mem_append.1 hx with hx | hx <;> rcases List.mem_cons.1 hx with rfl | hx
      · simp only [tw]; omega
      · exact h4 x hx
      · simp only [tw]; omega
      · exact g4 x hx

/-- A right forest of m trees. -/
structure Fo (t : List Tw) (m : Nat) : Prop where
  forest : forestB t = true
  len : t.length ≤ 1000000
  kids : ∀ x ∈ t, 0 ≤ x.kids ∧ x.kids ≤ 1000000
  trees : ∃ ts : List (List Tw), t = ts.flatten ∧ ts.length = m ∧ ∀ u ∈ ts, IsTree u

theorem KD.fo (hl : l.length ≤ 32) (hw : w.length ≤ 400000) {a b : Nat} {t : List Tw} {m : Nat} (h : KD l w a b t m) (hb : b ≤ w.length) : Fo t m := by
  obtain ⟨f, h'⟩ := h
  obtain ⟨h1, h2, h3, h4⟩ := h'.size
  exact ⟨KD.forest hl (by omega) ⟨f, h'⟩ (by omega) hb, by omega, fun x hx => by have := h4 x hx; omega, h'.trees⟩
end

theorem elemTw : Elem Try.prog 36 57 5 40 (.agg #[.int .i64 0, .int .i64 0, .int .i64 0, .int .i64 0, .int .i64 0]) := ⟨by kernel_rfl, by kernel_rfl, by decide, by decide⟩
theorem twc_one (t : List Tw) : ∀ u ∈ t.flatMap twc, u.oneCell' = true := by
  intro u hu
  simp only [List.mem_flatMap, twc, twv] at hu
  obtain ⟨x, _, hx⟩ := hu
  simp at hx
  rcases hx with rfl | rfl | rfl | rfl | rfl <;> rfl

set_option maxRecDepth 100000 in
set_option maxHeartbeats 1000000 in
theorem twig_any (w : World) (ao : Option Addr) (cap n : Nat) (t : List Tw) (m : Nat) (hs : Sv w ao n cap 5 (t.flatMap twc)) (hf : Fo t m) (lv a b : Int) :
    Calls Try.prog 31 #[.int .i64 lv, .int .i64 a, .int .i64 b, .slice ao n cap] w fun r w' => (∃ v, r = .returned v ∧ Own w w' 57 5 v (t.length + 1) ((⟨0, lv, a, b, m⟩ :: t : List Tw).flatMap twc)) := by
  obtain ⟨ts, h1, h2, h3⟩ := hf.trees
  have hl := hs.elems_len twc_len (by omega)
  have HX := Lib.hid (Roots_any w ao cap n t hs (by have := hf.len; omega) hf.kids hf.forest ts h1 h3)
  rw [h2] at HX
  have HSl := Lib.hid hs
  have HLn : Hid ((1 + n) * 40 ≤ 140737488355328 ∧ 1 + n ≤ maxLen) := by have := hf.len; unfold Hid maxLen; omega
  have HO1 := Lib.hid (twc_one t)
  have HL := Lib.hid hl
  clear hs hf h1 h2 h3 hl
  go_enter Try.func31, Try.ntmps31
  go_wp2_with fail
  refine HX.out.mono ?_
  rintro e w2 ⟨v, rfl, ho⟩
  obtain ⟨ao2, cap2, rfl, hsv2⟩ := ho.sv
  have HB2 := Lib.hid ho.2
  clear ho hsv2 HX
  have HOl : Hid (Own (w2.alloc (.cells #[.int .i64 0, .int .i64 lv, .int .i64 a, .int .i64 b, .int .i64 m] 57)) ((w2.alloc (.cells #[.int .i64 0, .int .i64 lv, .int .i64 a, .int .i64 b, .int .i64 m] 57)).alloc (.cells #[.int .i64 0, .int .i64 lv, .int .i64 a, .int .i64 b, .int .i64 m] 57)) 57 5 (.slice (some ⟨w2.heap.size + 1, 0, none⟩) 1 1) 1 [.int .i64 0, .int .i64 lv, .int .i64 a, .int .i64 b, .int .i64 m]) := by
    have := Own.lit (w2.alloc (.cells #[.int .i64 0, .int .i64 lv, .int .i64 a, .int .i64 b, .int .i64 m] 57)) 57 #[.int .i64 0, .int .i64 lv, .int .i64 a, .int .i64 b, .int .i64 m] 1 5 (by decide) rfl
    rw [World.size_alloc] at this
    exact this
  have HBw : Hid (Below w.heap.size w (w2.alloc (.cells #[.int .i64 0, .int .i64 lv, .int .i64 a, .int .i64 b, .int .i64 m] 57))) := HB2.out.alloc HB2.out.size _
  have HS2 : Hid (Sv ((w2.alloc (.cells #[.int .i64 0, .int .i64 lv, .int .i64 a, .int .i64 b, .int .i64 m] 57)).alloc (.cells #[.int .i64 0, .int .i64 lv, .int .i64 a, .int .i64 b, .int .i64 m] 57)) ao n cap 5 (t.flatMap twc)) := HSl.out.below (HBw.out.alloc HBw.out.size _)
  go_wp2_with (first
    | (at_builtin; go_loud (refine wpList_apps (w2.alloc (.cells #[.int .i64 0, .int .i64 lv, .int .i64 a, .int .i64 b, .int .i64 m] 57)) _ rfl _ _ 36 57 rfl elemTw (.slice (some ⟨w2.heap.size + 1, 0, none⟩) 1 1) 1 _ rfl HOl.out ao n cap (t.flatMap twc) rfl HS2.out HO1.out HLn.out.1 HLn.out.2 ?_; intro v' w8 hO8; have HO8 := Lib.hid hO8; clear hO8)))
  go_ret
  refine ⟨_, rfl, ?_⟩
  have := HO8.out.since HBw.out
  rw [← HL.out, Nat.add_comm] at this
  exact this
end Go.Proofs.Ytmpccinbeepbgaa
