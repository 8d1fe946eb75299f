/- Walks: right spans, a span within one, what an open twig takes. -/
import Derived.Test.YtmpccinbeepbgaaC8
namespace Go.Proofs.Ytmpccinbeepbgaa
open Go.RowKit

def spanR (f t : Int) : Bool := decide (0 ≤ f) && decide (f ≤ t)
def spanI (f t f' t' : Int) : Bool := (spanR f t && spanR f' t') && decide (f' ≤ f) && decide (t ≤ t')
abbrev spv (f t : Int) : Value := .agg #[.int .i64 f, .int .i64 t]

theorem line_any (w : World) (f t : Int) : Calls Try.prog 92 #[spv f t] w fun r w' => r = .returned (.bool (spanR f t)) ∧ Below w.heap.size w w' := by
  by_cases h1 : 0 ≤ f
  · by_cases h2 : f ≤ t
    · have e : spanR f t = true := by simp [spanR, h1, h2]
      rw [e]; clear e
      go_enter Try.func92, Try.ntmps92
      go_wp2
      go_ret
      exact ⟨by simp, (Below.refl _ _).alloc (Nat.le_refl _) _⟩
    · have e : spanR f t = false := by simp [spanR, h2]
      rw [e]; clear e
      go_enter Try.func92, Try.ntmps92
      go_wp2
      go_ret
      exact ⟨by simp, (Below.refl _ _).alloc (Nat.le_refl _) _⟩
  · have e : spanR f t = false := by simp [spanR, h1]
    rw [e]; clear e
    have hd : decide (0 ≤ f) = false := decide_eq_false h1
    go_enter Try.func92, Try.ntmps92
    go_wp2
    go_ret
    exact ⟨rfl, (Below.refl _ _).alloc (Nat.le_refl _) _⟩

theorem spanR_any (w : World) (f t : Int) : Calls Try.prog 68 #[spv f t] w fun r w' => r = .returned (.bool (spanR f t)) ∧ Below w.heap.size w w' := by
  generalize hx : spanR f t = x
  go_enter Try.func68, Try.ntmps68
  go_wp2_with (first | (go_at_call 92; refine (line_any _ _ _).mono ?_; rintro e w2 ⟨rfl, hb2⟩; rw [hx]; have HB2 := Lib.hid hb2; clear hb2))
  go_ret
  exact ⟨rfl, ((Below.refl _ _).alloc (Nat.le_refl _) _).trans (HB2.out.mono (by simp))⟩

theorem two_boxes (w : World) (c d : Array Value) (t u : TypeId) : hrow ((w.alloc (.cells c t)).alloc (.cells d u)) w.heap.size c t ∧ hrow ((w.alloc (.cells c t)).alloc (.cells d u)) (w.heap.size + 1) d u ∧ Below w.heap.size w ((w.alloc (.cells c t)).alloc (.cells d u)) := by
  refine ⟨(hrow.new w c t).below ((Below.refl _ _).alloc (Nat.le_refl _) _), ?_, (((Below.refl _ _).alloc (Nat.le_refl _) _).alloc (by simp) _)⟩
  have := hrow.new (w.alloc (.cells c t)) d u
  simpa using this

theorem both_any (w : World) (f t f' t' : Int) : Calls Try.prog 93 #[spv f t, spv f' t'] w fun r w' => r = .returned (.bool (spanR f t && spanR f' t')) ∧ Below w.heap.size w w' := by
  have HX := Lib.hid (two_boxes w #[.int .i64 f, .int .i64 t] #[.int .i64 f', .int .i64 t'] 55 55)
  generalize hx : spanR f t = x
  generalize hy : spanR f' t' = y
  go_enter Try.func93, Try.ntmps93
  go_wp2_with fail
  revert HX
  generalize (w.alloc (.cells #[.int .i64 f, .int .i64 t] 55)).alloc (.cells #[.int .i64 f', .int .i64 t'] 55) = wb
  intro HX
  refine (spanR_any _ f t).mono ?_
  rintro e w2 ⟨rfl, hb2⟩
  have HB2 := Lib.hid (HX.out.2.2.trans (hb2.mono HX.out.2.2.size))
  have c10 : w2.cell? ⟨w.heap.size + 1, 0, none⟩ = some (.int .i64 f') := (HX.out.2.1.below hb2).cell 0
  have c11 : w2.cell? ⟨w.heap.size + 1, 1, none⟩ = some (.int .i64 t') := (HX.out.2.1.below hb2).cell 1
  clear hb2
  cases x
  · rw [hx]
    go_wp2_with fail
    go_ret
    exact ⟨rfl, HB2.out⟩
  · rw [hx]
    go_wp2_with fail
    refine (spanR_any _ f' t').mono ?_
    rintro e w3 ⟨rfl, hb3⟩
    have HB3 := Lib.hid (HB2.out.trans (hb3.mono HB2.out.size))
    clear hb3
    rw [hy]
    go_wp2_with fail
    go_ret
    exact ⟨by simp, HB3.out⟩

set_option maxHeartbeats 1000000 in
theorem spanI_any (w : World) (f t f' t' : Int) : Calls Try.prog 69 #[spv f t, spv f' t'] w fun r w' => r = .returned (.bool (spanI f t f' t')) ∧ Below w.heap.size w w' := by
  have HX := Lib.hid (two_boxes w #[.int .i64 f, .int .i64 t] #[.int .i64 f', .int .i64 t'] 55 55)
  unfold spanI
  go_enter Try.func69, Try.ntmps69
  go_wp2_with fail
  revert HX
  generalize (w.alloc (.cells #[.int .i64 f, .int .i64 t] 55)).alloc (.cells #[.int .i64 f', .int .i64 t'] 55) = wb
  intro HX
  refine (both_any _ f t f' t').mono ?_
  rintro e w2 ⟨rfl, hb2⟩
  have HB2 := Lib.hid (HX.out.2.2.trans (hb2.mono HX.out.2.2.size))
  have c00 : w2.cell? ⟨w.heap.size, 0, none⟩ = some (.int .i64 f) := (HX.out.1.below hb2).cell 0
  have c01 : w2.cell? ⟨w.heap.size, 1, none⟩ = some (.int .i64 t) := (HX.out.1.below hb2).cell 1
  have c10 : w2.cell? ⟨w.heap.size + 1, 0, none⟩ = some (.int .i64 f') := (HX.out.2.1.below hb2).cell 0
  have c11 : w2.cell? ⟨w.heap.size + 1, 1, none⟩ = some (.int .i64 t') := (HX.out.2.1.below hb2).cell 1
  clear hb2
  generalize hx : (spanR f t && spanR f' t') = x
  cases x
  · go_wp2_with fail
    go_ret
    exact ⟨by simp [hx], HB2.out⟩
  · by_cases h1 : f' ≤ f
    · by_cases h2 : t ≤ t'
      · go_wp2_with fail
        go_ret
        exact ⟨by simp [hx, h1, h2], HB2.out⟩
      · have hd : decide (t ≤ t') = false := decide_eq_false h2
        go_wp2_with fail
        go_ret
        exact ⟨by simp [hx, h1, h2], HB2.out⟩
    · have hd : decide (f' ≤ f) = false := decide_eq_false h1
      go_wp2_with fail
      go_ret
      exact ⟨by rw [hx, hd]; rfl, HB2.out⟩

theorem done_any (w : World) (n f t u : Int) : Calls Try.prog 37 #[.agg #[.int .i64 n, .int .i64 f, .int .i64 t, .int .i64 u]] w fun r w' => r = .returned (.bool (n == 0)) ∧ Below w.heap.size w w' := by
  go_enter Try.func37, Try.ntmps37
  go_wp2
  go_ret
  exact ⟨rfl, (Below.refl _ _).alloc (Nat.le_refl _) _⟩

/-- What an open twig takes as its next kid. -/
def takesB (sf st u : Int) (x : Tw) : Bool :=
  decide (0 ≤ x.rule) && decide (0 ≤ x.lev) && decide (x.lev ≤ 99) && decide (0 ≤ x.kids) && spanR x.fr x.to && spanI x.fr x.to sf st && decide (u ≤ x.fr)

def twv (x : Tw) : Array Value := #[.int .i64 x.rule, .int .i64 x.lev, .int .i64 x.fr, .int .i64 x.to, .int .i64 x.kids]

set_option maxHeartbeats 1000000 in
theorem takes_any (w : World) (n sf st u : Int) (x : Tw) : Calls Try.prog 38 #[.agg #[.int .i64 n, .int .i64 sf, .int .i64 st, .int .i64 u], .agg (twv x)] w fun r w' => r = .returned (.bool (takesB sf st u x)) ∧ Below w.heap.size w w' := by
  obtain ⟨a, b, f, t, k⟩ := x
  unfold takesB
  simp only [twv]
  have HX := Lib.hid (two_boxes w #[.int .i64 n, .int .i64 sf, .int .i64 st, .int .i64 u] #[.int .i64 a, .int .i64 b, .int .i64 f, .int .i64 t, .int .i64 k] 93 57)
  by_cases h1 : 0 ≤ a
  · by_cases h2 : 0 ≤ b
    · by_cases h3 : b ≤ 99
      · by_cases h4 : 0 ≤ k
        · go_enter Try.func38, Try.ntmps38
          go_wp2_with fail
          revert HX
          generalize (w.alloc _).alloc _ = wb
          intro HX
          have HB2 := Lib.hid HX.out.2.2
          refine (spanR_any _ f t).mono ?_
          rintro e w2 ⟨rfl, hb2⟩
          have HB2 := Lib.hid (HX.out.2.2.trans (hb2.mono HX.out.2.2.size))
          have HC := Lib.hid (HX.out.1.below hb2)
          have HD := Lib.hid (HX.out.2.1.below hb2)
          have c01 : w2.cell? ⟨w.heap.size, 1, none⟩ = some (.int .i64 sf) := HC.out.cell 1
          have c02 : w2.cell? ⟨w.heap.size, 2, none⟩ = some (.int .i64 st) := HC.out.cell 2
          have c12 : w2.cell? ⟨w.heap.size + 1, 2, none⟩ = some (.int .i64 f) := HD.out.cell 2
          have c13 : w2.cell? ⟨w.heap.size + 1, 3, none⟩ = some (.int .i64 t) := HD.out.cell 3
          clear hb2
          generalize hx : spanR f t = x
          cases x
          · go_wp2_with fail
            go_ret
            exact ⟨by simp [hx], HB2.out⟩
          · go_wp2_with fail
            refine (spanI_any _ f t sf st).mono ?_
            rintro e w3 ⟨rfl, hb3⟩
            have HB3 := Lib.hid (HB2.out.trans (hb3.mono HB2.out.size))
            have c03 : w3.cell? ⟨w.heap.size, 3, none⟩ = some (.int .i64 u) := (HC.out.below hb3).cell 3
            have c12 : w3.cell? ⟨w.heap.size + 1, 2, none⟩ = some (.int .i64 f) := (HD.out.below hb3).cell 2
            clear hb3
            generalize hy : spanI f t sf st = y
            cases y
            · go_wp2_with fail
              go_ret
              exact ⟨by simp [hy], HB3.out⟩
            · by_cases h5 : u ≤ f
              · go_wp2_with fail
                go_ret
                exact ⟨by simp [h1, h2, h3, h4, h5, hx, hy], HB3.out⟩
              · have hd : decide (u ≤ f) = false := decide_eq_false h5
                go_wp2_with fail
                go_ret
                exact ⟨by rw [hd, Bool.and_false]; rfl, HB3.out⟩
        · have hd : decide (0 ≤ k) = false := decide_eq_false h4
          go_enter Try.func38, Try.ntmps38
          go_wp2_with fail
          go_ret
          exact ⟨by simp, HX.out.2.2⟩
      · have hd : decide (b ≤ 99) = false := decide_eq_false h3
        go_enter Try.func38, Try.ntmps38
        go_wp2_with fail
        go_ret
        exact ⟨by simp, HX.out.2.2⟩
    · have hd : decide (0 ≤ b) = false := decide_eq_false h2
      go_enter Try.func38, Try.ntmps38
      go_wp2_with fail
      go_ret
      exact ⟨by simp, HX.out.2.2⟩
  · have hd : decide (0 ≤ a) = false := decide_eq_false h1
    go_enter Try.func38, Try.ntmps38
    go_wp2_with fail
    go_ret
    exact ⟨by simp, HX.out.2.2⟩
end Go.Proofs.Ytmpccinbeepbgaa
