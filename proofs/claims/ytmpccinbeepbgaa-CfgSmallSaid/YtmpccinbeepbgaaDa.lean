/- Walks: the reference's chart, read: parted. -/
import Derived.Test.YtmpccinbeepbgaaCK
import Derived.Deep.RegionHeld3
import Derived.BigRegion
import Derived.Test.YtmpccinbeepbgaaGr8
namespace Go.Proofs.Ytmpccinbeepbgaa
open Go.RowKit

/-- The chart as it lies in memory: its block, the rows of its levels, the rows of numbers. -/
structure Ch (w : World) (cb : Nat) (lo : Option Addr) (ln lc : Nat) (wo : Option Addr) (wn wc : Nat) (l : Tab) (W : List Int) (t0 tc : Nat) (r1 c1 : Nat → Nat) (r2 : Nat → Nat → Nat) (V : Nat → Nat → Nat → Nat) : Prop where
  c0 : w.cell? ⟨cb, 0, none⟩ = some (.slice lo ln lc)
  cw : w.cell? ⟨cb, 1, none⟩ = some (.slice wo wn wc)
  ct : w.cell? ⟨cb, 2, none⟩ = some (.slice (some ⟨t0, 0, none⟩) (ln + 1) tc)
  tb : ln + 1 ≤ tc ∧ tc ≤ 9223372036854775807
  ops : Sv w lo ln lc 2 (opc l)
  byt : Sv w wo wn wc 1 (byc W)
  lev : ∀ i, i ≤ ln → w.cell? ⟨t0, i, none⟩ = some (.slice (some ⟨r1 i, 0, none⟩) (wn + 1) (c1 i)) ∧ wn + 1 ≤ c1 i ∧ c1 i ≤ 9223372036854775807
  row : ∀ i a, i ≤ ln → a ≤ wn → w.cell? ⟨r1 i, a, none⟩ = some (.slice (some ⟨r2 i a, 0, none⟩) (wn + 1) (wn + 1))
  int : ∀ i a b, i ≤ ln → a ≤ wn → b ≤ wn → w.cell? ⟨r2 i a, b, none⟩ = some (.int .i64 (V i a b))
section
variable {w w' : World} {cb : Nat} {lo : Option Addr} {ln lc : Nat} {wo : Option Addr} {wn wc : Nat} {l : Tab} {W : List Int} {t0 tc : Nat} {r1 c1 : Nat → Nat} {r2 : Nat → Nat → Nat} {V : Nat → Nat → Nat → Nat}
theorem Ch.below (h : Ch w cb lo ln lc wo wn wc l W t0 tc r1 c1 r2 V) (hb : Below w.heap.size w w') : Ch w' cb lo ln lc wo wn wc l W t0 tc r1 c1 r2 V := by
  have keep : ∀ (p : Addr) (v : Value), w.cell? p = some v → w'.cell? p = some v := fun p v h => (hb.cell (World.block_lt_of_cell? w _ h)).trans h
  exact ⟨keep _ _ h.c0, keep _ _ h.cw, keep _ _ h.ct, h.tb, h.ops.below hb, h.byt.below hb, fun i hi => ⟨keep _ _ (h.lev i hi).1, (h.lev i hi).2⟩, fun i a hi ha => keep _ _ (h.row i a hi ha), fun i a b hi ha hb' => keep _ _ (h.int i a b hi ha hb')⟩
end

set_option maxRecDepth 100000 in
set_option maxHeartbeats 2000000 in
theorem parted_any (w : World) (cb : Nat) (lo : Option Addr) (ln lc : Nat) (wo : Option Addr) (wn wc : Nat) (l : Tab) (W : List Int) (t0 tc : Nat) (r1 c1 : Nat → Nat) (r2 : Nat → Nat → Nat) (V : Nat → Nat → Nat → Nat)
    (h : Ch w cb lo ln lc wo wn wc l W t0 tc r1 c1 r2 V) (hV : ∀ i a b, V i a b ≤ 1) (i a k b : Nat) (hi : i < ln) (hak : a < k) (hkb : k + 1 < b) (hb : b ≤ wn) (hwn : wn ≤ 1000) :
    Calls Try.prog 72 #[.pointer (some ⟨cb, 0, none⟩), .int .i64 i, .int .i64 a, .int .i64 k, .int .i64 b] w fun r w' =>
      r = .returned (.int .i64 ((if bt W k = sg l i then V (lf l i) a k * V (bh l i) (k + 1) b else 0 : Nat) : Int)) ∧ Below w.heap.size w w' := by
  have hwl := h.byt.byte_len
  have hll := h.ops.ops_len
  obtain ⟨b1, b2⟩ := h.ops.bound
  obtain ⟨b3, b4⟩ := h.byt.bound
  obtain ⟨b5, b6⟩ := h.tb
  obtain ⟨aw, rfl, q1⟩ := h.byt.byte k (by omega)
  obtain ⟨la, rfl, l0, l1⟩ := opc_cell h.ops i (by omega)
  have e3 : la.add (i * 2 + 1) = ⟨(la.add (i * 2)).block, (la.add (i * 2)).off + 1, none⟩ := by rw [← add_add]; rfl
  rw [e3] at l1
  have c0 := h.c0; have cw := h.cw; have ct := h.ct
  obtain ⟨v1, v2, v3⟩ := h.lev i (by omega)
  obtain ⟨u1, u2, u3⟩ := h.lev (i + 1) (by omega)
  have x1 := h.row i a (by omega) (by omega)
  have x2 := h.row (i + 1) a (by omega) (by omega)
  have x3 := h.row i (k + 1) (by omega) (by omega)
  have x4 := h.row (i + 1) (k + 1) (by omega) (by omega)
  have z1 := h.int i a k (by omega) (by omega) (by omega)
  have z2 := h.int (i + 1) a k (by omega) (by omega) (by omega)
  have z3 := h.int i (k + 1) b (by omega) (by omega) (by omega)
  have z4 := h.int (i + 1) (k + 1) b (by omega) (by omega) (by omega)
  have hi' : (i : Int) < ln := by omega
  have hk' : (k : Int) < wn := by omega
  have hb' : (b : Int) ≤ wn := by omega
  have ha' : (a : Int) < k := by omega
  have hkb' : (k : Int) + 1 < b := by omega
  by_cases hs : bt W k = sg l i
  · have hd : ∃ x y : Nat, x ≤ 1 ∧ y ≤ 1 ∧ x = V (lf l i) a k ∧ y = V (bh l i) (k + 1) b := ⟨_, _, hV _ _ _, hV _ _ _, rfl, rfl⟩
    obtain ⟨x, y, hx, hy, hxe, hye⟩ := hd
    rw [if_pos hs, ← hxe, ← hye]
    rw [hs] at q1
    have hr : rg l i = true ∧ V (lf l i) a k = V (i + 1) a k ∧ V (bh l i) (k + 1) b = V i (k + 1) b ∨ rg l i = false ∧ V (lf l i) a k = V i a k ∧ V (bh l i) (k + 1) b = V (i + 1) (k + 1) b := by
      unfold lf bh; cases rg l i <;> simp
    have hx1 : x = 0 ∨ x = 1 := by omega
    have hy1 : y = 0 ∨ y = 1 := by omega
    rcases hr with ⟨g1, g2, g3⟩ | ⟨g1, g2, g3⟩
    · rw [← g2, ← hxe] at z2; rw [← g3, ← hye] at z3; rw [g1] at l1
      clear h hV hs hxe hye g1 g2 g3 z1 z4 hwl hll e3 hx hy
      rcases hx1 with rfl | rfl <;> rcases hy1 with rfl | rfl
      all_goals
        go_enter Try.func72, Try.ntmps72
        go_wp2_with fail
        go_quiet (fail)
        go_wp2_with fail
        go_quiet (fail)
        go_wp2_with fail
        go_ret
        exact ⟨rfl, (below_drewN (below_drewN (Below.refl _ _) _) _)⟩
    · rw [← g2, ← hxe] at z1; rw [← g3, ← hye] at z4; rw [g1] at l1
      clear h hV hs hxe hye g1 g2 g3 z2 z3 hwl hll e3 hx hy
      rcases hx1 with rfl | rfl <;> rcases hy1 with rfl | rfl
      all_goals
        go_enter Try.func72, Try.ntmps72
        go_wp2_with fail
        go_quiet (fail)
        go_wp2_with fail
        go_quiet (fail)
        go_wp2_with fail
        go_ret
        exact ⟨rfl, (below_drewN (below_drewN (Below.refl _ _) _) _)⟩
  · rw [if_neg hs]
    have hne : (bt W k != sg l i) = true := by simpa using hs
    clear h hV hwl hll e3 hs
    generalize bt W k = bb at *
    generalize sg l i = ss at *
    go_enter Try.func72, Try.ntmps72
    go_wp2_with fail
    go_quiet (fail)
    go_wp2_with fail
    go_ret
    exact ⟨rfl, below_drewN (Below.refl _ _) _⟩
end Go.Proofs.Ytmpccinbeepbgaa
namespace Go.Proofs.Ytmpccinbeepbgaa
open Go.RowKit

section
variable {w : World} {cb : Nat} {lo : Option Addr} {ln lc : Nat} {wo : Option Addr} {wn wc : Nat} {l : Tab} {W : List Int} {t0 tc : Nat} {r1 c1 : Nat → Nat} {r2 : Nat → Nat → Nat} {V : Nat → Nat → Nat → Nat}

set_option maxRecDepth 100000 in
set_option maxHeartbeats 2000000 in
theorem count_last (h : Ch w cb lo ln lc wo wn wc l W t0 tc r1 c1 r2 V) (a b : Nat) (hab : a < b) (hb : b ≤ wn) (hwn : wn ≤ 1000) (hV : ∀ i a' b', b' - a' < b - a → i ≤ ln → b' ≤ wn → V i a' b' = Vc l W i a' b') :
    Calls Try.prog 46 #[.pointer (some ⟨cb, 0, none⟩), .int .i64 ln, .int .i64 a, .int .i64 b] w fun r w' => r = .returned (.int .i64 (Vc l W ln a b)) ∧ Below w.heap.size w w' := by
  have hwl := h.byt.byte_len
  have hll := h.ops.ops_len
  obtain ⟨b1, b2⟩ := h.ops.bound
  obtain ⟨b3, b4⟩ := h.byt.bound
  obtain ⟨b5, b6⟩ := h.tb
  obtain ⟨aw, rfl, q1⟩ := h.byt.byte a (by omega)
  obtain ⟨aw', haw, q2⟩ := h.byt.byte (b - 1) (by omega)
  cases haw
  have c0 := h.c0; have cw := h.cw; have ct := h.ct
  obtain ⟨v1, v2, v3⟩ := h.lev 0 (by omega)
  have x1 := h.row 0 (a + 1) (by omega) (by omega)
  have z1 := h.int 0 (a + 1) (b - 1) (by omega) (by omega) (by omega)
  rw [hV 0 (a + 1) (b - 1) (by omega) (by omega) (by omega)] at z1
  have hab' : (a : Int) < b := by omega
  have hb' : (b : Int) ≤ wn := by omega
  have hlast : Vc l W ln a b = Vc l W l.length a b := by rw [hll]
  have HLa := Lib.hid hlast
  have HD := Lib.hid (count_dig (l := l) (w := W) (a := a))
  have HBr := Lib.hid (count_br (l := l) (w := W) (a := a) (b := b))
  have HNo := Lib.hid (count_none (l := l) (w := W) (a := a) (b := b))
  have HIs := Lib.hid (show isDig (bt W a) ↔ 48 ≤ bt W a ∧ bt W a ≤ 57 from Iff.rfl)
  clear h hV hlast hwl hll
  generalize hc : bt W a = c at *
  generalize he : bt W (b - 1) = e at *
  clear hc he
  by_cases h1 : b = a + 1
  · subst h1
    have t1 : ((((a + 1 : Nat) : Int)) == (a : Int) + 1) = true := by simp
    have t2 : decide ((a : Int) + 2 < ((a + 1 : Nat) : Int)) = false := decide_eq_false (by omega)
    by_cases d1 : 48 ≤ c
    · by_cases d2 : c ≤ 57
      · have HA : Hid (((Vc l W ln a (a + 1) : Nat) : Int) = 1) := by unfold Hid; rw [HLa.out, HD.out (HIs.out.2 ⟨d1, d2⟩)]; rfl
        go_enter Try.func46, Try.ntmps46
        go_wp2_with fail
        go_ret
        exact ⟨ret_int HA.out.symm, Below.refl _ _⟩
      · have HA : Hid (((Vc l W ln a (a + 1) : Nat) : Int) = 0) := by unfold Hid; rw [HLa.out, HNo.out (fun hh => d2 (HIs.out.1 hh.2).2) (fun hh => by omega)]; rfl
        go_enter Try.func46, Try.ntmps46
        go_wp2_with fail
        go_ret
        exact ⟨ret_int HA.out.symm, Below.refl _ _⟩
    · have HA : Hid (((Vc l W ln a (a + 1) : Nat) : Int) = 0) := by unfold Hid; rw [HLa.out, HNo.out (fun hh => d1 (HIs.out.1 hh.2).1) (fun hh => by omega)]; rfl
      go_enter Try.func46, Try.ntmps46
      go_wp2_with fail
      go_ret
      exact ⟨ret_int HA.out.symm, Below.refl _ _⟩
  · have t1 : ((b : Int) == (a : Int) + 1) = false := by simp; omega
    by_cases h2 : a + 2 < b
    · have t2 : (a : Int) + 2 < b := by omega
      by_cases d1 : c = 40
      · subst d1
        by_cases d2 : e = 41
        · subst d2
          have HA : Hid (((Vc l W ln a b : Nat) : Int) = ((Vc l W 0 (a + 1) (b - 1) : Nat) : Int)) := by unfold Hid; rw [HLa.out, HBr.out h2 rfl rfl]
          go_enter Try.func46, Try.ntmps46
          go_wp2_with fail
          go_ret
          exact ⟨ret_int HA.out.symm, Below.refl _ _⟩
        · have t3 : (e == 41) = false := by simpa using d2
          have HD2 := Lib.hid d2; clear d2
          have HA : Hid (((Vc l W ln a b : Nat) : Int) = 0) := by unfold Hid; rw [HLa.out, HNo.out (fun hh => h1 hh.1) (fun hh => HD2.out (hh.2.2))]; rfl
          go_enter Try.func46, Try.ntmps46
          go_wp2_with fail
          go_ret
          exact ⟨ret_int HA.out.symm, Below.refl _ _⟩
      · have t3 : (c == 40) = false := by simpa using d1
        have HD1 := Lib.hid d1; clear d1
        have HA : Hid (((Vc l W ln a b : Nat) : Int) = 0) := by unfold Hid; rw [HLa.out, HNo.out (fun hh => h1 hh.1) (fun hh => HD1.out (hh.2.1))]; rfl
        go_enter Try.func46, Try.ntmps46
        go_wp2_with fail
        go_ret
        exact ⟨ret_int HA.out.symm, Below.refl _ _⟩
    · have t2 : decide ((a : Int) + 2 < b) = false := decide_eq_false (by omega)
      have HA : Hid (((Vc l W ln a b : Nat) : Int) = 0) := by unfold Hid; rw [HLa.out, HNo.out (fun hh => h1 hh.1) (fun hh => h2 hh.1)]; rfl
      go_enter Try.func46, Try.ntmps46
      go_wp2_with fail
      go_ret
      exact ⟨ret_int HA.out.symm, Below.refl _ _⟩
end
end Go.Proofs.Ytmpccinbeepbgaa
namespace Go.Proofs.Ytmpccinbeepbgaa
open Go.RowKit

section
variable {w : World} {cb : Nat} {lo : Option Addr} {ln lc : Nat} {wo : Option Addr} {wn wc : Nat} {l : Tab} {W : List Int} {t0 tc : Nat} {r1 c1 : Nat → Nat} {r2 : Nat → Nat → Nat} {V : Nat → Nat → Nat → Nat}

set_option maxRecDepth 100000 in
set_option maxHeartbeats 2000000 in
theorem count_mid (hl : RightT l) (h : Ch w cb lo ln lc wo wn wc l W t0 tc r1 c1 r2 V) (hV1 : ∀ i a b, V i a b ≤ 1) (i a b : Nat) (hi : i < ln) (hab : a < b) (hb : b ≤ wn) (hwn : wn ≤ 1000)
    (hV : ∀ i a' b', b' - a' < b - a → i ≤ ln → b' ≤ wn → V i a' b' = Vc l W i a' b') (hV2 : V (i + 1) a b = Vc l W (i + 1) a b) :
    Calls Try.prog 46 #[.pointer (some ⟨cb, 0, none⟩), .int .i64 i, .int .i64 a, .int .i64 b] w fun r w' => r = .returned (.int .i64 (Vc l W i a b)) ∧ Below w.heap.size w w' := by
  have hll := h.ops.ops_len
  have hl32 := hl.le
  obtain ⟨b1, b2⟩ := h.ops.bound
  obtain ⟨b3, b4⟩ := h.byt.bound
  obtain ⟨b5, b6⟩ := h.tb
  have c0 := h.c0; have ct := h.ct
  obtain ⟨v1, v2, v3⟩ := h.lev (i + 1) (by omega)
  have x1 := h.row (i + 1) a (by omega) (by omega)
  have z1 := h.int (i + 1) a b (by omega) (by omega) (by omega)
  rw [hV2] at z1
  have hlf := lf_bd l i
  have hPt : ∀ k, a < k → k + 1 < b → (if bt W k = sg l i then V (lf l i) a k * V (bh l i) (k + 1) b else 0 : Nat) = Pt l W i a k b := fun k h1 h2 => by
    unfold Pt
    rw [hV (lf l i) a k (by omega) (by omega) (by omega), hV (bh l i) (k + 1) b (by omega) (by omega) (by omega)]
  have HPa := Lib.hid (fun w' (hb' : Below w.heap.size w w') (k : Nat) (h1 : a < k) (h2 : k + 1 < b) => hPt k h1 h2 ▸ parted_any w' cb lo ln lc wo wn wc l W t0 tc r1 c1 r2 V (h.below hb') hV1 i a k b hi h1 h2 hb hwn)
  have HCt := Lib.hid (count_op (w := W) (i := i) (a := a) (b := b) hl (by omega) (by omega))
  have HSl := Lib.hid (fun m => sumK_le (f := fun k => Pt l W i a k b) (s := a + 1) (fun k => Pt_le) m)
  have HV1 := Lib.hid (Vc_le (l := l) (w := W) (i := i + 1) (a := a) (b := b))
  have hi' : (i : Int) < ln := by omega
  have hab' : (a : Int) < b := by omega
  have hb' : (b : Int) ≤ wn := by omega
  have t0' : ((i : Int) == (ln : Int)) = false := by simp; omega
  clear h hV1 hV hV2 hll hl hPt hlf hl32
  generalize hv0 : Vc l W (i + 1) a b = v0 at *
  clear hv0
  go_enter Try.func46, Try.ntmps46
  go_wp2_with fail
  go_loopw [9, 10] (fun n k wr => ∃ m s : Nat, a + 1 + m ≤ b ∧ (m ≠ 0 → a + 1 + m + 1 ≤ b) ∧ k = .int .i64 ((a + 1 + m : Nat) : Int) ∧ n = .int .i64 s ∧ Hid (s = v0 + sumK (fun k => Pt l W i a k b) (a + 1) m ∧ Below w.heap.size w wr)) (fun _ k _ => b - (intOf k).toNat)
  case atStart => exact ⟨0, v0, by omega, fun h => absurd rfl h, by simp, rfl, by simp [sumK], Below.refl _ _⟩
  case round =>
    obtain ⟨m, s, hm, hm2, rfl, rfl, HS⟩ := hrel
    have hs : s ≤ 1 + m := by have := HSl.out m; have := HV1.out; have := HS.out.1; omega
    have hs2 : s ≤ 2000 := by omega
    generalize hk : a + 1 + m = k at *
    have hkk : (k : Int) ≤ b := by omega
    have HK := Lib.hid hk; clear hk
    by_cases hlt : k + 1 < b
    · have hlt' : (k : Int) + 1 < b := by omega
      have hak : a < k := by have := HK.out; omega
      go_wp2_with fail
      refine (HPa.out wr HS.out.2 k hak hlt).mono ?_
      rintro e w5 ⟨rfl, hbx⟩
      have hp := Pt_le (l := l) (w := W) (i := i) (a := a) (c := k) (b := b)
      have HS5 : Hid (s + Pt l W i a k b = v0 + sumK (fun k => Pt l W i a k b) (a + 1) (m + 1) ∧ Below w.heap.size w w5) := ⟨by show s + Pt l W i a k b = v0 + (sumK (fun k => Pt l W i a k b) (a + 1) m + Pt l W i a (a + 1 + m) b); rw [HS.out.1, HK.out, Nat.add_assoc], HS.out.2.trans (hbx.mono HS.out.2.size)⟩
      clear hbx
      generalize Pt l W i a k b = q at *
      go_wp2_with fail
      go_roundw
      case rel => exact ⟨m + 1, s + q, by have := HK.out; omega, fun _ => by have := HK.out; omega, by rw [show a + 1 + (m + 1) = k + 1 by have := HK.out; omega]; go_num, by go_num, HS5⟩
      case measure => simp [intOf]; omega
    · have hge : (b : Int) ≤ (k : Int) + 1 := by omega
      have hsv : s = Vc l W i a b ∧ s ≤ 1 := by
        have h1 := HCt.out
        have h2 := HS.out.1
        have h3 := Vc_le (l := l) (w := W) (i := i) (a := a) (b := b)
        have h4 : b - 1 - (a + 1) = m ∨ (m = 0 ∧ b - 1 - (a + 1) = 0) := by have := HK.out; omega
        rcases h4 with h4 | ⟨h4, h5⟩
        · rw [h4] at h1; omega
        · subst h4; rw [h5] at h1; omega
      obtain ⟨hsv, hs1⟩ := hsv
      have HSv := Lib.hid hsv; clear hsv
      go_wp2_with fail
      go_ret
      exact ⟨ret_int (by have := HSv.out; omega), HS.out.2⟩
end
end Go.Proofs.Ytmpccinbeepbgaa
