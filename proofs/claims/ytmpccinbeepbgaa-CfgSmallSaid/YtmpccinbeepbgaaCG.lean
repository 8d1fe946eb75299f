/- The reader: all, in full; and what the package answers. -/
import Derived.Test.YtmpccinbeepbgaaCF
import Derived.Test.YtmpccinbeepbgaaC5
import Derived.Test.YtmpccinbeepbgaaGr4
namespace Go.Proofs.Ytmpccinbeepbgaa
open Go.RowKit

theorem all_ok {l : Tab} {wl : List Int} (hl : RightT l) (hw : wl.length ≤ 400000) (n : Nat) : AllC l wl n := by
  induction n using Nat.strongRecOn with
  | _ n ih => exact all_step hl hw n (one_step hl hw n ih) ih

/-- What read answers: the kids, how far. -/
def ReadPost (w : World) (l : Tab) (u : List Int) (lv p : Nat) (r : Ending) (w' : World) : Prop :=
  Below w.heap.size w w' ∧ ((∃ a : Nat, r = .returned (.tuple #[.slice none 0 0, .int .i64 a, .bool false]) ∧ ∀ e, ¬ Pr l u p e) ∨
    ∃ ao cap t m, ∃ a : Nat, r = .returned (.tuple #[.slice ao t.length cap, .int .i64 a, .bool true]) ∧ Mx l u lv p a ∧ KD l u p a t m ∧ Sv w' ao t.length cap 5 (t.flatMap twc))

theorem Sv.far {w : World} {ao : Option Addr} {n cap size : Nat} {xs : List Value} (h : Sv w ao n cap size xs) (hs : 0 < size) : ∀ a, ao = some a → 0 < n → a.block ≠ w.heap.size := by
  rintro a rfl h0
  have hl := h.len
  have : 0 < n * size := Nat.mul_pos h0 hs
  obtain ⟨a', ha, hc⟩ := h.cell 0 (by omega)
  cases ha
  rw [List.getElem?_eq_getElem (by omega)] at hc
  have := World.block_lt_of_cell? w _ hc
  have hb : (a.add 0).block = a.block := by unfold Addr.add; split <;> rfl
  omega

set_option maxRecDepth 100000 in
set_option maxHeartbeats 1000000 in
theorem read_any (w : World) (lo : Option Addr) (ln lc : Nat) (wo : Option Addr) (wn wc : Nat) (l : Tab) (wl : List Int) (hl : RightT l) (hw : wl.length ≤ 400000) (ho : Sv w lo ln lc 2 (opc l)) (hy : Sv w wo wn wc 1 (byc wl)) (lv p q : Nat) (hlv : lv ≤ l.length) (hpq : p ≤ q) (hq : q ≤ wl.length) :
    Calls Try.prog 30 #[.slice lo ln lc, .int .i64 lv, .slice wo wn wc, .int .i64 p, .int .i64 q] w (ReadPost w l (wl.take q) lv p) := by
  have hwl := hy.byte_len
  obtain ⟨hn1, hn2⟩ := hy.bound
  have hrd : Rd (w.alloc (.cells (rdr (.slice lo ln lc) (.slice wo q wc) p (0 : Nat)) 112)) w.heap.size lo ln lc wo q wc l (wl.take q) p 0 := by
    have hb : Below w.heap.size w (w.alloc (.cells (rdr (.slice lo ln lc) (.slice wo q wc) p (0 : Nat)) 112)) := (Below.refl _ _).alloc (Nat.le_refl _) _
    have hyt := hy.take q (by omega)
    rw [Nat.mul_one, show (byc wl).take q = byc (wl.take q) by simp [byc, List.map_take]] at hyt
    exact ⟨hrow.new _ _ _, ho.below hb, hyt.below hb, .inl rfl, ho.far (by decide), hyt.far (by decide)⟩
  have HAl := Lib.hid (all_ok (wl := wl.take q) hl (by rw [List.length_take]; omega) (wl.take q).length _ w.heap.size lo ln lc wo q wc p 0 lv (by omega) (by rw [List.length_take]; omega) hlv hrd)
  have hq0 : (0 : Int) ≤ q := by omega
  have hq1 : (q : Int) ≤ wc := by omega
  have hq2 : (q : Int) ≤ wn := by omega
  clear hrd ho hy hl hw hlv hpq
  go_enter Try.func30, Try.ntmps30
  go_wp2_with fail
  refine HAl.out.mono ?_
  rintro e w2 ⟨a, s, hR, hF, hcase⟩
  have HR := Lib.hid hR
  have HF : Hid (Below w.heap.size w w2) := ((Below.refl _ _).alloc (Nat.le_refl _) _).trans (hF.below (by simp) (fun k hk => by omega))
  have c2 : w2.cell? ⟨w.heap.size, 2, none⟩ = some (.int .i64 a) := HR.out.row.cell 2
  clear hR hF HAl
  rcases hcase with ⟨rfl, hno⟩ | ⟨v, t, m, rfl, hmx, hkd, ao, cap, rfl, hsv, _⟩
  · have HNo := Lib.hid hno; clear hno
    go_wp2_with fail
    go_quiet (fail)
    go_wp2_with fail
    exact bodyPost_ret (v := .tuple #[.slice none 0 0, .int .i64 a, .bool false]) (by simp [results, Try.results30, go_sem]) rfl ⟨HF.out.trans (below_drewN (Below.refl _ _) _ |>.mono HF.out.size), .inl ⟨a, rfl, HNo.out⟩⟩
  · have H1 := Lib.hid hmx; have H2 := Lib.hid hkd; have H3 := Lib.hid hsv
    clear hmx hkd hsv
    go_wp2_with fail
    go_quiet (fail)
    go_wp2_with fail
    exact bodyPost_ret (v := .tuple #[.slice ao t.length cap, .int .i64 a, .bool true]) (by simp [results, Try.results30, go_sem]) rfl ⟨HF.out.trans (below_drewN (Below.refl _ _) _ |>.mono HF.out.size), .inr ⟨ao, cap, t, m, a, rfl, H1.out, H2.out, H3.out.below (below_drewN (Below.refl _ _) _)⟩⟩

/-- These may be asked, as a test. -/
noncomputable def mayAsk (l : Tab) (n : Nat) (lv p q : Int) : Bool := rightB l && decide (0 ≤ lv) && decide (lv ≤ l.length) && decide (0 ≤ p) && decide (p ≤ q) && decide (q ≤ n)

set_option maxRecDepth 100000 in
set_option maxHeartbeats 1000000 in
theorem mayAsk_any (w : World) (lo : Option Addr) (ln lc : Nat) (wo : Option Addr) (wn wc : Nat) (l : Tab) (ho : Sv w lo ln lc 2 (opc l)) (hb : Byt l) (lv p q : Int) :
    Calls Try.prog 29 #[.slice lo ln lc, .int .i64 lv, .slice wo wn wc, .int .i64 p, .int .i64 q] w fun r w' => r = .returned (.bool (mayAsk l wn lv p q)) ∧ Below w.heap.size w w' := by
  have hln := ho.ops_len
  have HRi := Lib.hid (right_any w lo lc ln l ho hb)
  clear ho hb
  unfold mayAsk
  rw [hln]
  clear hln
  generalize rightB l = b at *
  cases b
  · go_enter Try.func29, Try.ntmps29
    go_wp2_with fail
    refine HRi.out.mono ?_
    rintro e w2 ⟨rfl, hb2⟩
    have HB2 := Lib.hid hb2
    clear hb2 HRi
    go_wp2_with fail
    go_ret
    exact ⟨by simp, HB2.out⟩
  · by_cases h1 : 0 ≤ lv <;> by_cases h2 : lv ≤ ln <;> by_cases h3 : 0 ≤ p <;> by_cases h4 : p ≤ q <;> by_cases h5 : q ≤ wn
    all_goals
      go_enter Try.func29, Try.ntmps29
      go_wp2_with fail
      refine HRi.out.mono ?_
      rintro e w2 ⟨rfl, hb2⟩
      have HB2 := Lib.hid hb2
      clear hb2 HRi
      go_wp2_with fail
      all_goals (go_ret; exact ⟨by simp [h1, h2, h3, h4, h5], HB2.out⟩)

theorem mayAsk_iff {l : Tab} {n : Nat} {lv p q : Int} (hb : Byt l) : mayAsk l n lv p q = true ↔ mayQ l n lv p q := by
  unfold mayAsk mayQ
  simp only [Bool.and_eq_true, decide_eq_true_eq, rightB_iff l hb, and_assoc]

set_option maxRecDepth 100000 in
set_option maxHeartbeats 1000000 in
theorem der_any (w : World) (lo : Option Addr) (ln lc : Nat) (wo : Option Addr) (wn wc : Nat) (l : Tab) (wl : List Int) (hb : Byt l) (hw : wl.length ≤ 400000) (ho : Sv w lo ln lc 2 (opc l)) (hy : Sv w wo wn wc 1 (byc wl)) (lv p q : Int) :
    Calls Try.prog 13 #[.slice lo ln lc, .int .i64 lv, .slice wo wn wc, .int .i64 p, .int .i64 q] w fun r w' => r = .returned (.bool (derB l wl lv p q)) ∧ Below w.heap.size w w' := by
  have HMa := Lib.hid (mayAsk_any w lo ln lc wo wn wc l ho hb lv p q)
  have hwl := hy.byte_len
  by_cases hm : mayAsk l wn lv p q = true
  · have hq := (mayAsk_iff hb).1 hm
    rw [hm] at HMa
    have hl := hq.1
    obtain ⟨v, a, b, rfl, rfl, rfl, hv, hab, hbn⟩ := hq.nat
    rw [← hwl] at hbn
    have HRe := Lib.hid (fun w' (hb' : Below w.heap.size w w') => read_any w' lo ln lc wo wn wc l wl hl hw (ho.below hb') (hy.below hb') v a b hv hab hbn)
    have HD := Lib.hid (derB_nat hl (w := wl) (v := v) (a := a) (b := b) hv hbn)
    have HBn := Lib.hid hbn
    clear hm hq hl ho hy hw hwl hb hbn hv hab
    go_enter Try.func13, Try.ntmps13
    go_wp2_with fail
    refine HMa.out.mono ?_
    rintro e w2 ⟨rfl, hb2⟩
    have HB2 := Lib.hid hb2; clear hb2 HMa
    go_wp2_with fail
    refine (HRe.out _ HB2.out).mono ?_
    rintro e w3 ⟨hb3, hcase⟩
    have HB3 := Lib.hid (HB2.out.trans (hb3.mono HB2.out.size)); clear hb3 HRe HB2
    rcases hcase with ⟨x, rfl, hno⟩ | ⟨ao, cap, t, m, x, rfl, hmx, hkd, hsv⟩
    · have hf : derB l wl v a b = false := by
        rw [← Bool.not_eq_true, HD.out]
        exact no_take hno (Nat.le_refl _)
      have HFf := Lib.hid hf
      clear hf hno HD
      go_wp2_with fail
      go_ret
      exact ⟨by rw [HFf.out]; rfl, HB3.out⟩
    · have hx := mx_take hmx HBn.out
      have hf : derB l wl v a b = decide ((x : Int) = b) := by
        rw [Bool.eq_iff_iff, HD.out, ← hx.2.2]; simp; omega
      have HFf := Lib.hid hf
      clear hf hx hmx hkd hsv HD HBn
      by_cases hxb : (x : Int) = b
      · have h1 : ((x : Int) == b) = true := by simp [hxb]
        have HXb := Lib.hid hxb; clear hxb
        go_wp2_with fail
        go_ret
        exact ⟨by rw [HFf.out, decide_eq_true HXb.out]; rfl, HB3.out⟩
      · have h1 : ((x : Int) == b) = false := by simpa using hxb
        have HXb := Lib.hid hxb; clear hxb
        go_wp2_with fail
        go_ret
        exact ⟨by rw [HFf.out, decide_eq_false HXb.out]; rfl, HB3.out⟩
  · have hf : derB l wl lv p q = false := by
      rw [derB_not]
      intro h
      apply hm
      rw [← hwl]
      exact (mayAsk_iff hb).2 h.1
    rw [hf]
    rw [Bool.not_eq_true] at hm
    rw [hm] at HMa
    clear hf hm hwl ho hy hw hb
    go_enter Try.func13, Try.ntmps13
    go_wp2_with fail
    refine HMa.out.mono ?_
    rintro e w2 ⟨rfl, hb2⟩
    have HB2 := Lib.hid hb2; clear hb2 HMa
    go_wp2_with fail
    go_ret
    exact ⟨rfl, HB2.out⟩

set_option maxRecDepth 100000 in
set_option maxHeartbeats 1000000 in
theorem ways_any (w : World) (lo : Option Addr) (ln lc : Nat) (wo : Option Addr) (wn wc : Nat) (l : Tab) (wl : List Int) (hb : Byt l) (hw : wl.length ≤ 400000) (ho : Sv w lo ln lc 2 (opc l)) (hy : Sv w wo wn wc 1 (byc wl)) (lv p q : Int) :
    Calls Try.prog 12 #[.slice lo ln lc, .int .i64 lv, .slice wo wn wc, .int .i64 p, .int .i64 q] w fun r w' => r = .returned (.int .i64 (wayI l wl lv p q)) ∧ Below w.heap.size w w' := by
  have HD := Lib.hid (der_any w lo ln lc wo wn wc l wl hb hw ho hy lv p q)
  unfold wayI
  clear ho hy hb hw
  generalize derB l wl lv p q = b at *
  cases b
  all_goals
    go_enter Try.func12, Try.ntmps12
    go_wp2_with fail
    refine HD.out.mono ?_
    rintro e w2 ⟨rfl, hb2⟩
    have HB2 := Lib.hid hb2; clear hb2 HD
    go_wp2_with fail
    go_ret
    exact ⟨rfl, HB2.out⟩

/-- What Longest answers, as a value. -/
def lgV (o : Option Nat) : Value := .tuple #[.int .i64 ((o.getD 0 : Nat) : Int), .bool o.isSome]

set_option maxRecDepth 100000 in
set_option maxHeartbeats 1000000 in
theorem longest_any (w : World) (lo : Option Addr) (ln lc : Nat) (wo : Option Addr) (wn wc : Nat) (l : Tab) (wl : List Int) (hb : Byt l) (hw : wl.length ≤ 400000) (ho : Sv w lo ln lc 2 (opc l)) (hy : Sv w wo wn wc 1 (byc wl)) (p : Int) :
    Calls Try.prog 14 #[.slice lo ln lc, .slice wo wn wc, .int .i64 p] w fun r w' => r = .returned (lgV (lgO l wl p)) ∧ Below w.heap.size w w' := by
  have HMa := Lib.hid (mayAsk_any w lo ln lc wo wn wc l ho hb 0 p wn)
  have hwl := hy.byte_len
  by_cases hm : mayAsk l wn 0 p wn = true
  · have hq := (mayAsk_iff hb).1 hm
    rw [hm] at HMa
    have hl := hq.1
    have hq' := hq
    obtain ⟨v, a, b, hv0, rfl, hbe, hv, hab, hbn⟩ := hq.nat
    obtain rfl : wn = b := by omega
    have HRe := Lib.hid (fun w' (hb' : Below w.heap.size w w') => read_any w' lo ln lc wo wn wc l wl hl hw (ho.below hb') (hy.below hb') 0 a wn (by omega) hab (by omega))
    have ht : wl.take wn = wl := by rw [← hwl]; simp
    rw [ht] at HRe
    rw [← hwl] at hq'
    have HQ := Lib.hid hq'
    clear hm hq hl ho hy hw hwl hb hbn hv hab hq' ht hv0 hbe
    go_enter Try.func14, Try.ntmps14
    go_wp2_with fail
    refine HMa.out.mono ?_
    rintro e w2 ⟨rfl, hb2⟩
    have HB2 := Lib.hid hb2; clear hb2 HMa
    go_wp2_with fail
    refine (HRe.out _ HB2.out).mono ?_
    rintro e w3 ⟨hb3, hcase⟩
    have HB3 := Lib.hid (HB2.out.trans (hb3.mono HB2.out.size)); clear hb3 HRe HB2
    rcases hcase with ⟨x, rfl, hno⟩ | ⟨ao, cap, t, m, x, rfl, hmx, hkd, hsv⟩
    · have HFf := Lib.hid (lgO_eq (l := l) (w := wl) (p := (a : Int)) (o := none) (fun _ => hno))
      clear hno HQ
      go_wp2_with fail
      go_ret2
      exact ⟨by rw [HFf.out]; rfl, HB3.out⟩
    · have HFf := Lib.hid (lgO_eq (l := l) (w := wl) (p := (a : Int)) (o := some x) ⟨HQ.out, hmx⟩)
      clear hmx hkd hsv HQ
      go_wp2_with fail
      go_ret2
      exact ⟨by rw [HFf.out]; rfl, HB3.out⟩
  · have hf : lgO l wl p = none := lgO_eq (fun h => by
      refine absurd ((mayAsk_iff hb).2 ?_) hm
      rw [← hwl]; exact h)
    rw [hf]
    rw [Bool.not_eq_true] at hm
    rw [hm] at HMa
    clear hf hm hwl ho hy hw hb
    go_enter Try.func14, Try.ntmps14
    go_wp2_with fail
    refine HMa.out.mono ?_
    rintro e w2 ⟨rfl, hb2⟩
    have HB2 := Lib.hid hb2; clear hb2 HMa
    go_wp2_with fail
    go_ret2
    exact ⟨rfl, HB2.out⟩

set_option maxRecDepth 100000 in
set_option maxHeartbeats 1000000 in
theorem tree_any (w : World) (lo : Option Addr) (ln lc : Nat) (wo : Option Addr) (wn wc : Nat) (l : Tab) (wl : List Int) (hb : Byt l) (hw : wl.length ≤ 400000) (ho : Sv w lo ln lc 2 (opc l)) (hy : Sv w wo wn wc 1 (byc wl)) (p q : Int) :
    Calls Try.prog 16 #[.slice lo ln lc, .slice wo wn wc, .int .i64 p, .int .i64 q] w fun r w' => (∃ v, r = .returned (.tuple #[v, .bool (derB l wl 0 p q)]) ∧ Own w w' 57 5 v (trT l wl p q).length ((trT l wl p q).flatMap twc)) := by
  have HDe := Lib.hid (der_any w lo ln lc wo wn wc l wl hb hw ho hy 0 p q)
  by_cases hd : derB l wl 0 p q = true
  · have hD := derB_iff.1 hd
    have hl := hD.1.1
    have hr := hD.2
    obtain ⟨v, a, b, hv0, rfl, rfl, hv, hab, hbn⟩ := hD.1.nat
    have HRe := Lib.hid (fun w' (hb' : Below w.heap.size w w') => read_any w' lo ln lc wo wn wc l wl hl hw (ho.below hb') (hy.below hb') 0 a b (by omega) hab hbn)
    simp only [Int.toNat_natCast] at hr
    have HHr := Lib.hid hr
    have HHd := Lib.hid hd
    rw [hd] at HDe ⊢
    have HBn := Lib.hid hbn; have HW := Lib.hid hw; have HL := Lib.hid hl
    clear hD hl ho hy hw hb hbn hv hab hv0 hd hr
    go_enter Try.func16, Try.ntmps16
    go_wp2_with fail
    refine HDe.out.mono ?_
    rintro e w2 ⟨rfl, hb2⟩
    have HB2 := Lib.hid hb2; clear hb2 HDe
    go_wp2_with fail
    refine (HRe.out _ HB2.out).mono ?_
    rintro e w3 ⟨hb3, hcase⟩
    have HB3 := Lib.hid (HB2.out.trans (hb3.mono HB2.out.size)); clear hb3 HRe HB2
    rcases hcase with ⟨x, rfl, hno⟩ | ⟨ao, cap, t, m, x, rfl, hmx, hkd, hsv⟩
    · exact absurd HHr.out (no_take hno (Nat.le_refl _))
    · have hx := mx_take hmx HBn.out
      obtain rfl := hx.2.2.2 HHr.out
      have hk := hkd.take (Nat.le_refl _)
      have HT := Lib.hid (trT_yes (p := a) (q := x) HHd.out hk)
      have HTw := Lib.hid (twig_any w3 ao cap t.length t m hsv (hk.fo HL.out.le HW.out HBn.out) 0 a x)
      clear hx hmx hkd hsv hk
      go_wp2_with fail
      refine HTw.out.mono ?_
      rintro e w4 ⟨v, rfl, ho⟩
      have HO := Lib.hid (ho.since HB3.out); clear ho HTw
      go_wp2_with fail
      go_ret2
      refine ⟨v, rfl, ?_⟩
      rw [HT.out]
      exact HO.out
  · rw [Bool.not_eq_true] at hd
    rw [trT_not hd]
    rw [hd] at HDe ⊢
    clear hd ho hy hw hb
    go_enter Try.func16, Try.ntmps16
    go_wp2_with fail
    refine HDe.out.mono ?_
    rintro e w2 ⟨rfl, hb2⟩
    have HB2 := Lib.hid hb2; clear hb2 HDe
    go_wp2_with fail
    go_ret2
    exact ⟨_, rfl, World.ownsRow_nil _ _ _ _, HB2.out⟩
end Go.Proofs.Ytmpccinbeepbgaa
