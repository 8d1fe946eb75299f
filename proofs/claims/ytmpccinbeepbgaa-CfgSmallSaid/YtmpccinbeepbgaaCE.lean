/- The reader: its contract, and one. -/
import Derived.Test.YtmpccinbeepbgaaCD
namespace Go.Proofs.Ytmpccinbeepbgaa
open Go.RowKit

section
variable {l : Tab} {w : List Int} {p b c i : Nat}
theorem inv_next (hl : RightT l) (h : Sp l w i p b c) (hm : Mx l w (bh l i) (c + 1) b) : ∀ j e, ix l (bt w b) = some j → Pr l w (b + 1) e → Hr l w (lf l j) p b := by
  intro j e hj he
  have hlt : j < bh l i := by
    rcases Nat.lt_or_ge j (bh l i) with h1 | h1
    · exact h1
    · exact (hm.stop hj h1 he).elim
  have h1 := lf_bd l i
  have h2 := lf_bd l j
  rcases Nat.lt_or_ge j i with hji | hji
  · exact (h.hr hl).weak (by omega)
  · have : j = i := by omega
    subst this
    exact (h.hr hl).weak (by omega)
end

/-- The reader in memory. -/
structure Rd (w : World) (rd : Nat) (lo : Option Addr) (ln lc : Nat) (wo : Option Addr) (wn wc : Nat) (l : Tab) (wl : List Int) (p s : Nat) : Prop where
  row : hrow w rd (rdr (.slice lo ln lc) (.slice wo wn wc) p s) 112
  ops : Sv w lo ln lc 2 (opc l)
  byt : Sv w wo wn wc 1 (byc wl)
  stop : s = 0 ∨ ∀ e, ¬ Pr l wl s e
  lne : ∀ a, lo = some a → 0 < ln → a.block ≠ rd
  wne : ∀ a, wo = some a → 0 < wn → a.block ≠ rd

section
variable {w w' : World} {rd : Nat} {lo : Option Addr} {ln lc : Nat} {wo : Option Addr} {wn wc : Nat} {l : Tab} {wl : List Int} {p s p' s' : Nat}
theorem Rd.fr (h : Rd w rd lo ln lc wo wn wc l wl p s) (hf : Fr (fun k => k = rd) w w') (hr : hrow w' rd (rdr (.slice lo ln lc) (.slice wo wn wc) p' s') 112) (hs : s' = 0 ∨ ∀ e, ¬ Pr l wl s' e) : Rd w' rd lo ln lc wo wn wc l wl p' s' :=
  ⟨hr, h.ops.fr hf h.lne, h.byt.fr hf h.wne, hs, h.lne, h.wne⟩
theorem Rd.below (h : Rd w rd lo ln lc wo wn wc l wl p s) (hb : Below w.heap.size w w') : Rd w' rd lo ln lc wo wn wc l wl p s := h.fr (Fr.of_below hb) (h.row.below hb) h.stop
end

/-- The kids that lie in a slice. -/
def Kd (w : World) (rd : Nat) (v : Value) (t : List Tw) : Prop := ∃ ao cap, v = .slice ao t.length cap ∧ Sv w ao t.length cap 5 (t.flatMap twc) ∧ ∀ a, ao = some a → 0 < t.length → a.block ≠ rd

theorem Kd.fr {w w' : World} {rd : Nat} {v : Value} {t : List Tw} (h : Kd w rd v t) (hf : Fr (fun k => k = rd) w w') : Kd w' rd v t := by
  obtain ⟨ao, cap, rfl, h1, h2⟩ := h
  exact ⟨ao, cap, rfl, h1.fr hf h2, h2⟩
theorem Kd.nil (w : World) (rd : Nat) : Kd w rd (.slice none 0 0) [] := ⟨none, 0, rfl, Sv.nil w 5, fun _ h => nomatch h⟩
theorem Kd.of_own {w0 w : World} {rd : Nat} {v : Value} {t : List Tw} (h : Own w0 w 57 5 v t.length (t.flatMap twc)) (hr : rd < w0.heap.size) : Kd w rd v t := by
  obtain ⟨ao, cap, rfl, hsv⟩ := h.sv
  refine ⟨ao, cap, rfl, hsv, ?_⟩
  rintro a rfl h0
  rcases h.1.2 with ⟨h1, _⟩ | ⟨g, c, cur, hv, hg, _⟩
  · cases h1
  · cases hv
    simp only; omega

/-- What one and all answer: G is what is known of the end. -/
def RdPost (w : World) (rd : Nat) (lo : Option Addr) (ln lc : Nat) (wo : Option Addr) (wn wc : Nat) (l : Tab) (wl : List Int) (p : Nat) (G : Nat → Prop) (r : Ending) (w' : World) : Prop :=
  ∃ p' s', Rd w' rd lo ln lc wo wn wc l wl p' s' ∧ Fr (fun k => k = rd) w w' ∧
    ((r = .returned (.tuple #[.slice none 0 0, .bool false]) ∧ ∀ e, ¬ Pr l wl p e) ∨
     ∃ v t m, r = .returned (.tuple #[v, .bool true]) ∧ G p' ∧ KD l wl p p' t m ∧ Kd w' rd v t)

def OneC (l : Tab) (wl : List Int) (n : Nat) : Prop :=
  ∀ (w : World) (rd : Nat) (lo : Option Addr) (ln lc : Nat) (wo : Option Addr) (wn wc : Nat) (p s : Nat), wl.length - p ≤ n → p ≤ wl.length → Rd w rd lo ln lc wo wn wc l wl p s →
    Calls Try.prog 73 #[.pointer (some ⟨rd, 0, none⟩)] w (RdPost w rd lo ln lc wo wn wc l wl p (fun e => Pr l wl p e))
def AllC (l : Tab) (wl : List Int) (n : Nat) : Prop :=
  ∀ (w : World) (rd : Nat) (lo : Option Addr) (ln lc : Nat) (wo : Option Addr) (wn wc : Nat) (p s lv : Nat), wl.length - p ≤ n → p ≤ wl.length → lv ≤ l.length → Rd w rd lo ln lc wo wn wc l wl p s →
    Calls Try.prog 47 #[.pointer (some ⟨rd, 0, none⟩), .int .i64 lv] w (RdPost w rd lo ln lc wo wn wc l wl p (fun e => Mx l wl lv p e))

set_option maxRecDepth 100000 in
set_option maxHeartbeats 1000000 in
theorem one_step {l : Tab} {wl : List Int} (hl : RightT l) (hw : wl.length ≤ 400000) (n : Nat) (hA : ∀ m, m < n → AllC l wl m) : OneC l wl n := by
  intro w rd lo ln lc wo wn wc p s hn hp hR
  have HR := Lib.hid hR
  obtain ⟨h1, h2⟩ := hR.byt.bound
  have hlw := hR.byt.byte_len
  have HIs := Lib.hid (fun (w' : World) (q s' : Nat) (h : Rd w' rd lo ln lc wo wn wc l wl q s') (c : Int) (h0 : 0 ≤ c) => is_any w' rd (.slice lo ln lc) wo wn wc wl q s' h.row h.byt c h0)
  have c1 : w.cell? ⟨rd, 1, none⟩ = some (.slice wo wn wc) := hR.row.cell 1
  have c2 : w.cell? ⟨rd, 2, none⟩ = some (.int .i64 p) := hR.row.cell 2
  have f2 : w.frozen? ⟨rd, 2, none⟩ = false := hR.row.frozen 2
  have hlt : rd < w.heap.size := hR.row.lt
  by_cases hpw : p < wn
  · obtain ⟨a, rfl, hc⟩ := hR.byt.byte p (by omega)
    have HAl := Lib.hid hA; have HN := Lib.hid hn; have HW := Lib.hid hw; have HLt := Lib.hid hlt; have HLw := Lib.hid hlw; have HPw := Lib.hid hpw
    clear hA hn hw hlt hlw
    have hp' : (p : Int) < wn := by omega
    have hp0 : (0 : Int) ≤ p := by omega
    have hp1 : (p : Int) ≤ 9223372036854775806 := by omega
    clear hR hp hpw
    generalize hx : bt wl p = x at *
    have HX := Lib.hid hx; clear hx
    by_cases hd : isDig x
    · have hd1 : (48 : Int) ≤ x := hd.1
      have hd2 : x ≤ 57 := hd.2
      have HD := Lib.hid hd; clear hd
      go_enter Try.func73, Try.ntmps73
      go_wp2_with fail
      go_quiet (fail)
      go_wp2_with fail
      go_ret2
      have HF := Lib.hid ((Fr.of_below (F := fun k => k = rd) (below_drewN (Below.refl w.heap.size w) nq)).trans (Fr.setCell _ ⟨rd, 2, none⟩ (.int .i64 (p + 1))) (fun _ _ h => h))
      exact ⟨p + 1, s, HR.out.fr HF.out ((HR.out.row.below (below_drewN (Below.refl w.heap.size w) nq)).setCell 2 _) HR.out.stop, HF.out,
        .inr ⟨_, [], 0, rfl, pr_iff.2 (.inl ⟨by rw [HX.out]; exact HD.out, rfl⟩), KD.dig (by rw [HX.out]; exact HD.out), Kd.nil _ _⟩⟩
    · have HD := Lib.hid hd; clear hd
      by_cases hx4 : x = 40
      · subst hx4
        have hd : decide ((48 : Int) ≤ 40) = false := by decide
        go_enter Try.func73, Try.ntmps73
        go_wp2_with fail
        go_quiet (fail)
        go_wp2_with fail
        refine (HIs.out _ p s (HR.out.below (below_drewN (Below.refl _ _) _)) 40 (by decide)).mono ?_
        rintro e w2 ⟨rfl, hfr, hrw⟩
        rw [HX.out] at hrw ⊢
        rw [if_pos rfl] at hrw
        have hdx : decide ((40 : Int) = 40) = true := rfl
        rw [hdx]
        have HF2 := Lib.hid ((Fr.of_below (F := fun k => k = rd) (below_drewN (Below.refl _ _) _)).trans hfr (fun _ _ h => h))
        have HR2 : Hid (Rd w2 rd lo ln lc (some a) wn wc l wl (p + 1) s) := HR.out.fr HF2.out hrw HR.out.stop
        have c2 : w2.cell? ⟨rd, 2, none⟩ = some (.int .i64 ((p + 1 : Nat) : Int)) := HR2.out.row.cell 2
        have HLt2 : Hid (rd < w2.heap.size) := HR2.out.row.lt
        clear hfr hrw
        go_wp2_with fail
        refine (HAl.out (wl.length - (p + 1)) (by have := HN.out; have := HPw.out; have := HLw.out; omega) w2 rd lo ln lc (some a) wn wc (p + 1) s 0 (Nat.le_refl _) (by have := HPw.out; have := HLw.out; omega) (Nat.zero_le _) HR2.out).mono ?_
        rintro e w3 ⟨q, s3, hR3, hF3, hcase⟩
        have HR3 := Lib.hid hR3
        have HF3 := Lib.hid (HF2.out.trans hF3 (fun _ _ h => h))
        have c2 : w3.cell? ⟨rd, 2, none⟩ = some (.int .i64 q) := hR3.row.cell 2
        clear hR3 hF3
        rcases hcase with ⟨rfl, hno⟩ | ⟨v, t, m, rfl, hmx, hkd, hkids⟩
        · have HNo : Hid (∀ e, ¬ Pr l wl p e) := by
            intro e he
            rcases pr_iff.1 he with ⟨h3, _⟩ | ⟨h3, e', _, _, h4⟩
            · rw [HX.out] at h3; exact HD.out h3
            · obtain ⟨e2, h5⟩ := h4.first
              exact hno e2 h5
          clear hno
          go_wp2_with fail
          go_ret2
          exact ⟨q, s3, HR3.out, HF3.out, .inl ⟨rfl, HNo.out⟩⟩
        · have HM := Lib.hid hmx; have HKD := Lib.hid hkd; have HKi := Lib.hid hkids
          clear hmx hkd hkids
          go_wp2_with fail
          refine (HIs.out w3 q s3 HR3.out 41 (by decide)).mono ?_
          rintro e w4 ⟨rfl, hfr, hrw⟩
          by_cases hq : bt wl q = 41
          · rw [if_pos hq] at hrw
            have hdx : decide (bt wl q = 41) = true := decide_eq_true hq
            rw [hdx]
            have HQ := Lib.hid hq
            have HF4 := Lib.hid (HF3.out.trans hfr (fun _ _ h => h))
            have HR4 := Lib.hid (HR3.out.fr hfr hrw HR3.out.stop)
            have HK4 := Lib.hid (HKi.out.fr hfr)
            clear hfr hrw hq hdx
            obtain ⟨ko, kc, rfl, hks, _⟩ := HK4.out
            have HTg := Lib.hid (fun u v : Int => twig_any w4 ko kc t.length t m hks (HKD.out.fo hl.le HW.out (HM.out.1.bd).2) 0 u v)
            clear hks
            go_wp2_with (first | (go_at_call 31; refine (HTg.out _ _).mono ?_; rintro e w5 ⟨v5, rfl, hO5⟩; have HO5 := Lib.hid hO5; clear hO5))
            go_ret2
            have hb5 : Below w4.heap.size w4 w5 := HO5.out.2
            refine ⟨q + 1, s3, HR4.out.below hb5, HF4.out.trans (Fr.of_below hb5) (fun _ _ h => h), .inr ⟨v5, tw 0 (p + 1) q m :: t, 1, rfl, ?_, ?_, ?_⟩⟩
            · exact pr_iff.2 (.inr ⟨HX.out, q, rfl, HQ.out, HM.out.1⟩)
            · exact KD.br HX.out HQ.out HM.out.1 HKD.out
            · exact Kd.of_own HO5.out HR4.out.row.lt
          · rw [if_neg hq] at hrw
            have hdx : decide (bt wl q = 41) = false := decide_eq_false hq
            rw [hdx]
            have HNo : Hid (∀ e, ¬ Pr l wl p e) := by
              intro e he
              rcases pr_iff.1 he with ⟨h3, _⟩ | ⟨h3, e', rfl, h5, h4⟩
              · rw [HX.out] at h3; exact HD.out h3
              · have h6 := HM.out.2 e' h4
                rcases Nat.lt_or_ge e' q with h7 | h7
                · obtain ⟨j, h8, _⟩ := h4.next hl HM.out.1 h7
                  rw [h5, ix_not hl (.inr (.inl rfl))] at h8; cases h8
                · obtain rfl : e' = q := by omega
                  exact hq h5
            have HF4 := Lib.hid (HF3.out.trans hfr (fun _ _ h => h))
            have HR4 := Lib.hid (HR3.out.fr hfr hrw HR3.out.stop)
            clear hfr hrw hq hdx
            go_wp2_with fail
            go_ret2
            exact ⟨q, s3, HR4.out, HF4.out, .inl ⟨rfl, HNo.out⟩⟩
      · have HNx := Lib.hid hx4; clear hx4
        have HNo : Hid (∀ e, ¬ Pr l wl p e) := by
          intro e he
          rcases pr_iff.1 he with ⟨h3, _⟩ | ⟨h3, _⟩
          · rw [HX.out] at h3; exact HD.out h3
          · rw [HX.out] at h3; exact HNx.out h3
        rcases Int.lt_or_le x 48 with hlo | hhi
        · have hd : decide ((48 : Int) ≤ x) = false := decide_eq_false (by omega)
          clear hlo
          go_enter Try.func73, Try.ntmps73
          go_wp2_with fail
          go_quiet (fail)
          go_wp2_with fail
          refine (HIs.out _ p s (HR.out.below (below_drewN (Below.refl _ _) _)) 40 (by decide)).mono ?_
          rintro e w2 ⟨rfl, hfr, hrw⟩
          rw [HX.out] at hrw ⊢
          rw [if_neg HNx.out] at hrw
          have hdx : decide (x = 40) = false := decide_eq_false HNx.out
          rw [hdx]
          have HF2 := Lib.hid ((Fr.of_below (F := fun k => k = rd) (below_drewN (Below.refl _ _) _)).trans hfr (fun _ _ h => h))
          have HR2 := Lib.hid hrw
          clear hfr hrw
          go_wp2_with fail
          go_ret2
          exact ⟨p, s, HR.out.fr HF2.out HR2.out HR.out.stop, HF2.out, .inl ⟨rfl, HNo.out⟩⟩
        · have hd2 : decide (x ≤ 57) = false := decide_eq_false (fun h => HD.out ⟨hhi, h⟩)
          go_enter Try.func73, Try.ntmps73
          go_wp2_with fail
          go_quiet (fail)
          go_wp2_with fail
          refine (HIs.out _ p s (HR.out.below (below_drewN (Below.refl _ _) _)) 40 (by decide)).mono ?_
          rintro e w2 ⟨rfl, hfr, hrw⟩
          rw [HX.out] at hrw ⊢
          rw [if_neg HNx.out] at hrw
          have hdx : decide (x = 40) = false := decide_eq_false HNx.out
          rw [hdx]
          have HF2 := Lib.hid ((Fr.of_below (F := fun k => k = rd) (below_drewN (Below.refl _ _) _)).trans hfr (fun _ _ h => h))
          have HR2 := Lib.hid hrw
          clear hfr hrw
          go_wp2_with fail
          go_ret2
          exact ⟨p, s, HR.out.fr HF2.out HR2.out HR.out.stop, HF2.out, .inl ⟨rfl, HNo.out⟩⟩
  · have HB : Hid (bt wl p = -1) := by unfold Hid bt; rw [List.getD_eq_getElem?_getD, List.getElem?_eq_none (by omega)]; rfl
    have HNx : Hid (¬ (-1 : Int) = 40) := by unfold Hid; decide
    have HNo : Hid (∀ e, ¬ Pr l wl p e) := by
      intro e he
      rcases pr_iff.1 he with ⟨h3, _⟩ | ⟨h3, _⟩
      · rw [HB.out] at h3; exact absurd h3.1 (by decide)
      · rw [HB.out] at h3; exact absurd h3 (by decide)
    have hdp : decide ((p : Int) < wn) = false := decide_eq_false (by omega)
    clear hR hA
    go_enter Try.func73, Try.ntmps73
    go_wp2_with fail
    go_quiet (fail)
    go_wp2_with fail
    refine (HIs.out _ p s (HR.out.below (below_drewN (Below.refl _ _) _)) 40 (by decide)).mono ?_
    rintro e w2 ⟨rfl, hfr, hrw⟩
    rw [HB.out] at hrw ⊢
    rw [if_neg HNx.out] at hrw
    have hdx : decide ((-1 : Int) = 40) = false := decide_eq_false HNx.out
    rw [hdx]
    have HF2 := Lib.hid ((Fr.of_below (F := fun k => k = rd) (below_drewN (Below.refl _ _) _)).trans hfr (fun _ _ h => h))
    have HR2 := Lib.hid hrw
    clear hfr hrw
    go_wp2_with fail
    go_ret2
    exact ⟨p, s, HR.out.fr HF2.out HR2.out HR.out.stop, HF2.out, .inl ⟨rfl, HNo.out⟩⟩
end Go.Proofs.Ytmpccinbeepbgaa
