/- Walks: the reference's chart: twig, kids. -/
import Derived.Test.YtmpccinbeepbgaaDk
import Derived.Test.YtmpccinbeepbgaaDe
namespace Go.Proofs.Ytmpccinbeepbgaa
open Go.RowKit

def KidsOut (w : World) (t : List Tw) (m : Nat) (r : Ending) (w' : World) : Prop := ∃ v, r = .returned (.tuple #[v, .int .i64 m]) ∧ Own w w' 57 5 v t.length (t.flatMap twc)
def TwigOut (w : World) (t : List Tw) (r : Ending) (w' : World) : Prop := ∃ v, r = .returned v ∧ Own w w' 57 5 v t.length (t.flatMap twc)

set_option maxRecDepth 100000 in
set_option maxHeartbeats 1000000 in
theorem twig_of (w : World) (p : Value) (lv i a b : Int) (t : List Tw) (m : Nat) (hl : t.length ≤ 1000000) (HK : Calls Try.prog 49 #[p, .int .i64 i, .int .i64 a, .int .i64 b] w (KidsOut w t m)) :
    Calls Try.prog 32 #[p, .int .i64 lv, .int .i64 i, .int .i64 a, .int .i64 b] w (TwigOut w (⟨0, lv, a, b, m⟩ :: t)) := by
  have HX := Lib.hid HK
  have HO1 := Lib.hid (twc_one t)
  have HLn : Hid ((1 + t.length) * 40 ≤ 140737488355328 ∧ 1 + t.length ≤ maxLen) := by unfold Hid maxLen; omega
  clear HK
  go_enter Try.func32, Try.ntmps32
  go_wp2_with fail
  refine HX.out.mono ?_
  rintro e w2 ⟨v, rfl, ho⟩
  have HB2 := Lib.hid ho.2
  obtain ⟨ao, cap, rfl, hsv⟩ := ho.sv
  have HOl : Hid (Own w2 (w2.alloc (.cells #[.int .i64 0, .int .i64 lv, .int .i64 a, .int .i64 b, .int .i64 m] 57)) 57 5 (.slice (some ⟨w2.heap.size, 0, none⟩) 1 1) 1 [.int .i64 0, .int .i64 lv, .int .i64 a, .int .i64 b, .int .i64 m]) :=
    Own.lit w2 57 #[.int .i64 0, .int .i64 lv, .int .i64 a, .int .i64 b, .int .i64 m] 1 5 (by decide) rfl
  have HS2 : Hid (Sv (w2.alloc (.cells #[.int .i64 0, .int .i64 lv, .int .i64 a, .int .i64 b, .int .i64 m] 57)) ao t.length cap 5 (t.flatMap twc)) := hsv.below ((Below.refl _ _).alloc (Nat.le_refl _) _)
  clear ho hsv HX
  go_wp2_with (first
    | (at_builtin; go_loud (refine wpList_apps w2 _ rfl (.tmp 29) (.tmp 30) 36 57 rfl elemTw (.slice (some ⟨w2.heap.size, 0, none⟩) 1 1) 1 _ rfl HOl.out ao t.length cap (t.flatMap twc) rfl HS2.out HO1.out HLn.out.1 HLn.out.2 ?_; intro v' w8 hO8; have HO8 := Lib.hid hO8; clear hO8)))
  go_ret
  refine ⟨_, rfl, ?_⟩
  have := HO8.out.since HB2.out
  rw [Nat.add_comm] at this
  exact this

section
variable {cb : Nat} {lo : Option Addr} {ln lc : Nat} {wo : Option Addr} {wn wc : Nat} {l : Tab} {W : List Int} {t0 tc : Nat} {r1 c1 : Nat → Nat} {r2 : Nat → Nat → Nat}

/-- kids, at one symbol and two places, in whatever world the chart stands. -/
def KidsC (cb : Nat) (lo : Option Addr) (ln lc : Nat) (wo : Option Addr) (wn wc : Nat) (l : Tab) (W : List Int) (t0 tc : Nat) (r1 c1 : Nat → Nat) (r2 : Nat → Nat → Nat) (i a b : Nat) : Prop :=
  ∀ (w : World), Ch w cb lo ln lc wo wn wc l W t0 tc r1 c1 r2 (fun i a b => Vc l W i a b) → ∀ t m, Hr l W i a b → KD l W a b t m → t.length ≤ 1000000 →
    Calls Try.prog 49 #[.pointer (some ⟨cb, 0, none⟩), .int .i64 i, .int .i64 a, .int .i64 b] w (KidsOut w t m)

set_option maxRecDepth 100000 in
set_option maxHeartbeats 2000000 in
theorem kids_dig (a b : Nat) (hab : b = a + 1) (hb : b ≤ 1000) (hll : l.length = ln) (hl : RightT l) : KidsC cb lo ln lc wo wn wc l W t0 tc r1 c1 r2 ln a b := by
  intro w h t m hr hk ht
  subst hab
  have hc0 := h.c0
  obtain ⟨b1, b2⟩ := h.ops.bound
  obtain ⟨rfl, rfl⟩ : t = [] ∧ m = 0 := by
    rw [← hll] at hr
    rcases pr_iff.1 (hr.last (Nat.le_refl _)) with ⟨h1, _⟩ | ⟨_, e, h2, h3, h4⟩
    · exact hk.one hl (KD.dig h1)
    · have := h4.bd; omega
  have t1 : (((a + 1 : Nat) : Int) == (a : Int) + 1) = true := by simp
  clear h hr hk hll hl
  go_enter Try.func49, Try.ntmps49
  go_wp2_with fail
  go_ret2
  exact ⟨_, rfl, Own.nil _ _ _⟩

set_option maxRecDepth 100000 in
set_option maxHeartbeats 2000000 in
theorem kids_br (a b : Nat) (hab : a + 1 < b) (hb : b ≤ 1000) (hll : l.length = ln) (hl : RightT l) (IH : KidsC cb lo ln lc wo wn wc l W t0 tc r1 c1 r2 0 (a + 1) (b - 1)) : KidsC cb lo ln lc wo wn wc l W t0 tc r1 c1 r2 ln a b := by
  intro w h t m hr hk ht
  have hc0 := h.c0
  obtain ⟨b1, b2⟩ := h.ops.bound
  obtain ⟨t', m', h1, rfl, rfl, h2⟩ : ∃ t' m', Hr l W 0 (a + 1) (b - 1) ∧ t = tw 0 (a + 1) (b - 1) m' :: t' ∧ m = 1 ∧ KD l W (a + 1) (b - 1) t' m' := by
    rw [← hll] at hr
    rcases pr_iff.1 (hr.last (Nat.le_refl _)) with ⟨_, h1⟩ | ⟨h0, e, h2, h3, h4⟩
    · omega
    · subst h2
      obtain ⟨t', m', h5⟩ := h4.kd hl _ (Nat.le_refl _)
      obtain ⟨rfl, rfl⟩ := hk.one hl (KD.br h0 h3 h4 h5)
      exact ⟨t', m', h4, rfl, rfl, h5⟩
  have HT := Lib.hid (twig_of w (.pointer (some ⟨cb, 0, none⟩)) 0 0 ((a : Int) + 1) ((b : Int) - 1) t' m' (by simp only [List.length_cons] at ht; omega) (by
    have := IH w h t' m' h1 h2 (by simp only [List.length_cons] at ht; omega)
    rw [show ((a : Int) + 1) = ((a + 1 : Nat) : Int) by omega, show ((b : Int) - 1) = ((b - 1 : Nat) : Int) by omega]
    exact this))
  have t1 : ((b : Int) == (a : Int) + 1) = false := by simp; omega
  have e1 : (tw 0 (a + 1) (b - 1) m' :: t' : List Tw) = ⟨0, 0, (a : Int) + 1, (b : Int) - 1, m'⟩ :: t' := by
    unfold tw; congr 1; congr 1 <;> omega
  rw [e1]
  have hab' : (a : Int) + 1 < b := by omega
  clear h hr hk hll hl IH h1 h2 ht e1 hab
  generalize (⟨0, 0, (a : Int) + 1, (b : Int) - 1, m'⟩ :: t' : List Tw) = tt at *
  go_enter Try.func49, Try.ntmps49
  go_wp2_with fail
  refine HT.out.mono ?_
  rintro e w2 ⟨v, rfl, ho⟩
  have HO := Lib.hid ho; clear ho
  go_wp2_with fail
  go_ret2
  exact ⟨_, rfl, HO.out⟩

set_option maxRecDepth 100000 in
set_option maxHeartbeats 2000000 in
theorem kids_up (i a b : Nat) (hi : i < ln) (hb : b ≤ wn) (hr1 : Hr l W (i + 1) a b) (IH : KidsC cb lo ln lc wo wn wc l W t0 tc r1 c1 r2 (i + 1) a b) : KidsC cb lo ln lc wo wn wc l W t0 tc r1 c1 r2 i a b := by
  intro w h t m hr hk ht
  have hab := hr.bd.1
  have hc0 := h.c0; have hct := h.ct
  obtain ⟨b1, b2⟩ := h.ops.bound
  obtain ⟨b5, b6⟩ := h.tb
  obtain ⟨v1, v2, v3⟩ := h.lev (i + 1) (by omega)
  have x1 := h.row (i + 1) a (by omega) (by omega)
  have z1 := h.int (i + 1) a b (by omega) (by omega) (by omega)
  rw [Vc_yes hr1] at z1
  have HX : Hid (Calls Try.prog 49 #[.pointer (some ⟨cb, 0, none⟩), .int .i64 ((i : Int) + 1), .int .i64 a, .int .i64 b] w (KidsOut w t m)) := by
    rw [show ((i : Int) + 1) = ((i + 1 : Nat) : Int) by omega]
    exact IH w h t m hr1 hk ht
  have hi' : (i : Int) < ln := by omega
  have ha' : (a : Int) < wn + 1 := by omega
  have hb' : (b : Int) < wn + 1 := by omega
  have t0' : ((i : Int) == (ln : Int)) = false := by simp; omega
  clear h hr hk ht hr1 IH
  go_enter Try.func49, Try.ntmps49
  go_wp2_with fail
  refine HX.out.mono ?_
  rintro e w2 ⟨v, rfl, ho⟩
  have HO := Lib.hid ho; clear ho
  go_wp2_with fail
  go_ret2
  exact ⟨_, rfl, HO.out⟩

theorem kd_len {a b : Nat} {t : List Tw} {m : Nat} (h : KD l W a b t m) : t.length ≤ 2 * (b - a) := by
  obtain ⟨f, h'⟩ := h
  obtain ⟨h1, h2, h3, h4⟩ := h'.size
  omega

theorem own_two {w w' : World} {v : Value} {x y : Tw} {t1 t2 : List Tw} (h : Own w w' 57 5 v ((t1.length + 1) + (t2.length + 1)) ((x :: t1).flatMap twc ++ (y :: t2).flatMap twc)) :
    Own w w' 57 5 v ((x :: t1) ++ (y :: t2)).length (((x :: t1) ++ (y :: t2)).flatMap twc) := by
  rw [List.flatMap_append, List.length_append]; exact h

set_option maxRecDepth 100000 in
set_option maxHeartbeats 2000000 in
theorem kids_sp (i a b c : Nat) (hi : i < ln) (hb : b ≤ wn) (hwn : wn ≤ 1000) (hll : l.length = ln) (hl : RightT l) (hs : Sp l W i a b c)
    (IH1 : KidsC cb lo ln lc wo wn wc l W t0 tc r1 c1 r2 (lf l i) a c) (IH2 : KidsC cb lo ln lc wo wn wc l W t0 tc r1 c1 r2 (bh l i) (c + 1) b) : KidsC cb lo ln lc wo wn wc l W t0 tc r1 c1 r2 i a b := by
  intro w h t m hr hk ht
  have hl32 := hl.le
  obtain ⟨hac, hcb, _⟩ := hs.bd
  obtain ⟨t1, m1, k1⟩ := hs.2.2.1.kd hl _ (Nat.le_refl _)
  obtain ⟨t2, m2, k2⟩ := hs.2.2.2.kd hl _ (Nat.le_refl _)
  obtain ⟨rfl, rfl⟩ := hk.one hl (KD.sp hs k1 k2)
  have hl1 := kd_len k1
  have hl2 := kd_len k2
  have hc0 := h.c0; have hct := h.ct
  obtain ⟨b1, b2⟩ := h.ops.bound
  obtain ⟨b5, b6⟩ := h.tb
  obtain ⟨v1, v2, v3⟩ := h.lev (i + 1) (by omega)
  have x1 := h.row (i + 1) a (by omega) (by omega)
  have z1 := h.int (i + 1) a b (by omega) (by omega) (by omega)
  rw [Vc_no (hs.not hl)] at z1
  have HCh := Lib.hid h
  have HP0 := Lib.hid (fun (w' : World) (hb' : Below w.heap.size w w') (k : Nat) (h1 : a < k) (h2 : k < c) => show Calls Try.prog 72 #[.pointer (some ⟨cb, 0, none⟩), .int .i64 i, .int .i64 a, .int .i64 k, .int .i64 b] w' fun r w'' => r = .returned (.int .i64 0) ∧ Below w'.heap.size w' w'' by
    have := parted_any w' cb lo ln lc wo wn wc l W t0 tc r1 c1 r2 _ (h.below hb') (fun _ _ _ => Vc_le) i a k b hi h1 (by omega) hb hwn
    refine this.mono fun r w'' ⟨e, hbx⟩ => ⟨e.trans ?_, hbx⟩
    refine ret_int (Int.ofNat_inj.2 ?_)
    show Pt l W i a k b = 0
    rcases Nat.eq_zero_or_pos (Pt l W i a k b) with h0 | h0
    · exact h0
    · have := (Pt_pos (by omega) h0).one hl hs; omega)
  have HP1 := Lib.hid (fun (w' : World) (hb' : Below w.heap.size w w') => show Calls Try.prog 72 #[.pointer (some ⟨cb, 0, none⟩), .int .i64 i, .int .i64 a, .int .i64 c, .int .i64 b] w' fun r w'' => r = .returned (.int .i64 1) ∧ Below w'.heap.size w' w'' by
    have := parted_any w' cb lo ln lc wo wn wc l W t0 tc r1 c1 r2 _ (h.below hb') (fun _ _ _ => Vc_le) i a c b hi hac hcb hb hwn
    refine this.mono fun r w'' ⟨e, hbx⟩ => ⟨e.trans ?_, hbx⟩
    refine ret_int (Int.ofNat_inj.2 ?_)
    exact Pt_sp hs)
  have HT1 := Lib.hid (fun (w' : World) (hb' : Below w.heap.size w w') => twig_of w' (.pointer (some ⟨cb, 0, none⟩)) i (lf l i : Nat) a c t1 m1 (by omega) (IH1 w' (h.below hb') t1 m1 hs.2.2.1 k1 (by omega)))
  have HT2 := Lib.hid (fun (w' : World) (hb' : Below w.heap.size w w') => twig_of w' (.pointer (some ⟨cb, 0, none⟩)) (bh l i : Nat) (bh l i : Nat) (c + 1 : Nat) b t2 m2 (by omega) (IH2 w' (h.below hb') t2 m2 hs.2.2.2 k2 (by omega)))
  have HOn := Lib.hid (twc_one ((⟨0, (bh l i : Nat), (c + 1 : Nat), b, m2⟩ : Tw) :: t2))
  have HLn : Hid (((t1.length + 1) + (t2.length + 1)) * 40 ≤ 140737488355328 ∧ (t1.length + 1) + (t2.length + 1) ≤ maxLen) := by unfold Hid maxLen; omega
  have HOp := Lib.hid (fun (w' : World) (hb' : Below w.heap.size w w') => opc_cell (h.ops.below hb') i (by omega))
  have hi' : (i : Int) < ln := by omega
  have ha' : (a : Int) < wn + 1 := by omega
  have hb' : (b : Int) < wn + 1 := by omega
  have hb2 : (b : Int) ≤ wn := by omega
  have hcb' : (c : Int) + 1 < b := by omega
  have t0' : ((i : Int) == (ln : Int)) = false := by simp; omega
  have HK0 := Lib.hid (KD.sp hs k1 k2)
  have HR : Hid (rg l i = true ∧ lf l i = i + 1 ∧ bh l i = i ∨ rg l i = false ∧ lf l i = i ∧ bh l i = i + 1) := by
    unfold Hid lf bh; cases rg l i <;> simp
  clear h hr hk ht IH1 IH2 k1 k2 hl1 hl2 hll hl hs hl32
  go_enter Try.func49, Try.ntmps49
  go_wp2_with fail
  go_loopw [10] (fun s wr => ∃ k : Nat, a < k ∧ k ≤ c ∧ s = .int .i64 k ∧ Hid (Below w.heap.size w wr)) (fun s _ => c - (intOf s).toNat)
  case atStart => exact ⟨a + 1, by omega, by omega, by go_num, Below.refl _ _⟩
  case round =>
    obtain ⟨k, hk1, hk2, rfl, HB⟩ := hrel
    by_cases hlt : k < c
    · have hk' : (k : Int) + 1 < b := by omega
      go_wp2_with fail
      refine (HP0.out wr HB.out k hk1 hlt).mono ?_
      rintro e w5 ⟨rfl, hbx⟩
      have HB5 := Lib.hid (HB.out.trans (hbx.mono HB.out.size)); clear hbx
      go_wp2_with fail
      go_roundw
      case rel => exact ⟨k + 1, by omega, by omega, by go_num, HB5.out⟩
      case measure => simp [intOf]; omega
    · obtain rfl : k = c := by omega
      clear hlt hk2
      go_wp2_with fail
      refine (HP1.out wr HB.out).mono ?_
      rintro e w5 ⟨rfl, hbx⟩
      have HB5 := Lib.hid (HB.out.trans (hbx.mono HB.out.size)); clear hbx
      have hc5 := (HCh.out.below HB5.out).c0
      obtain ⟨la, rfl, q1, q2⟩ := HOp.out w5 HB5.out
      have e3 : la.add (i * 2 + 1) = ⟨(la.add (i * 2)).block, (la.add (i * 2)).off + 1, none⟩ := by rw [← add_add]; rfl
      rw [e3] at q2
      clear q1 e3
      rcases HR.out with ⟨g1, g2, g3⟩ | ⟨g1, g2, g3⟩
      · rw [g1] at q2
        have HT1' : Hid (∀ (w' : World) (hb' : Below w.heap.size w w'), Calls Try.prog 32 #[.pointer (some ⟨cb, 0, none⟩), .int .i64 i, .int .i64 ((i : Int) + 1), .int .i64 a, .int .i64 k] w' (TwigOut w' (⟨0, i, a, k, m1⟩ :: t1))) := by
          have := HT1.out; rw [g2] at this; exact this
        have HT2' : Hid (∀ (w' : World) (hb' : Below w.heap.size w w'), Calls Try.prog 32 #[.pointer (some ⟨cb, 0, none⟩), .int .i64 i, .int .i64 i, .int .i64 ((k : Int) + 1), .int .i64 b] w' (TwigOut w' (⟨0, i, (k + 1 : Nat), b, m2⟩ :: t2))) := by
          have := HT2.out; rw [g3] at this; exact this
        have HG3 := Lib.hid g3
        rw [g3] at HOn
        clear HT1 HT2 HP0 HP1 HR g1 g2 g3 HOp
        go_wp2_with fail
        refine (HT1'.out w5 HB5.out).mono ?_
        rintro e w6 ⟨v6, rfl, ho6⟩
        have HO6 := Lib.hid ho6; have HB6 := Lib.hid (HB5.out.trans (ho6.2.mono HB5.out.size)); clear ho6
        go_wp2_with fail
        refine (HT2'.out w6 HB6.out).mono ?_
        rintro e w7 ⟨v7, rfl, ho7⟩
        obtain ⟨ao, cap, rfl, hsv7⟩ := ho7.sv
        have HS7 := Lib.hid hsv7
        have HO67 := Lib.hid (HO6.out.below ho7.2)
        clear ho7 hsv7
        go_wp2_with (first
          | (at_builtin; refine wpList_apps w5 _ rfl (.tmp 80) (.tmp 87) 36 57 rfl elemTw v6 (t1.length + 1) _ rfl HO67.out ao (t2.length + 1) cap _ rfl HS7.out HOn.out HLn.out.1 HLn.out.2 ?_; intro v' w8 hO8; have HO8 := Lib.hid hO8; clear hO8))
        go_ret2
        refine ⟨_, rfl, ?_⟩
        have := HO8.out.since HB5.out
        have h8 := own_two (x := tw i a k m1) (y := tw i (k + 1) b m2) this
        rw [HG3.out]
        exact h8
      · rw [g1] at q2
        have HT1' : Hid (∀ (w' : World) (hb' : Below w.heap.size w w'), Calls Try.prog 32 #[.pointer (some ⟨cb, 0, none⟩), .int .i64 i, .int .i64 i, .int .i64 a, .int .i64 k] w' (TwigOut w' (⟨0, i, a, k, m1⟩ :: t1))) := by
          have := HT1.out; rw [g2] at this; exact this
        have HT2' : Hid (∀ (w' : World) (hb' : Below w.heap.size w w'), Calls Try.prog 32 #[.pointer (some ⟨cb, 0, none⟩), .int .i64 ((i : Int) + 1), .int .i64 ((i : Int) + 1), .int .i64 ((k : Int) + 1), .int .i64 b] w' (TwigOut w' (⟨0, (i + 1 : Nat), (k + 1 : Nat), b, m2⟩ :: t2))) := by
          have := HT2.out; rw [g3] at this; exact this
        have HG3 := Lib.hid g3
        rw [g3] at HOn
        clear HT1 HT2 HP0 HP1 HR g1 g2 g3 HOp
        go_wp2_with fail
        refine (HT1'.out w5 HB5.out).mono ?_
        rintro e w6 ⟨v6, rfl, ho6⟩
        have HO6 := Lib.hid ho6; have HB6 := Lib.hid (HB5.out.trans (ho6.2.mono HB5.out.size)); clear ho6
        go_wp2_with fail
        refine (HT2'.out w6 HB6.out).mono ?_
        rintro e w7 ⟨v7, rfl, ho7⟩
        obtain ⟨ao, cap, rfl, hsv7⟩ := ho7.sv
        have HS7 := Lib.hid hsv7
        have HO67 := Lib.hid (HO6.out.below ho7.2)
        clear ho7 hsv7
        go_wp2_with (first
          | (at_builtin; refine wpList_apps w5 _ rfl (.tmp 94) (.tmp 103) 36 57 rfl elemTw v6 (t1.length + 1) _ rfl HO67.out ao (t2.length + 1) cap _ rfl HS7.out HOn.out HLn.out.1 HLn.out.2 ?_; intro v' w8 hO8; have HO8 := Lib.hid hO8; clear hO8))
        go_ret2
        refine ⟨_, rfl, ?_⟩
        have := HO8.out.since HB5.out
        have h8 := own_two (x := tw i a k m1) (y := tw (i + 1) (k + 1) b m2) this
        rw [HG3.out]
        exact h8

theorem kids_any (hll : l.length = ln) (hl : RightT l) (hwn : wn ≤ 1000) (hwl : W.length = wn) : ∀ (n d i a b : Nat), b - a ≤ n → ln - i ≤ d → i ≤ ln → KidsC cb lo ln lc wo wn wc l W t0 tc r1 c1 r2 i a b := by
  intro n
  induction n with
  | zero =>
    intro d i a b h _ _ w _ t m hr
    have := hr.bd; omega
  | succ n ihn =>
    intro d
    induction d with
    | zero =>
      intro i a b h1 h2 h3
      obtain rfl : i = ln := by omega
      intro w h t m hr hk ht
      have hbd := hr.bd
      by_cases hab : b = a + 1
      · exact kids_dig a b hab (by omega) hll hl w h t m hr hk ht
      · exact kids_br a b (by omega) (by omega) hll hl (ihn (i - 0) 0 (a + 1) (b - 1) (by omega) (by omega) (by omega)) w h t m hr hk ht
    | succ d ihd =>
      intro i a b h1 h2 h3
      by_cases hi : i = ln
      · exact ihd i a b h1 (by omega) h3
      · intro w h t m hr hk ht
        have hbd := hr.bd
        rcases hr.split hl (by omega) with h4 | ⟨c, h4⟩
        · exact kids_up i a b (by omega) (by omega) h4 (ihd (i + 1) a b h1 (by omega) (by omega)) w h t m hr hk ht
        · have hc := h4.bd
          have hlf := lf_bd l i
          exact kids_sp i a b c (by omega) (by omega) hwn hll hl h4 (ihn ln (lf l i) a c (by omega) (by omega) (by omega)) (ihn ln (bh l i) (c + 1) b (by omega) (by omega) (by omega)) w h t m hr hk ht
end
end Go.Proofs.Ytmpccinbeepbgaa
namespace Go.Proofs.Ytmpccinbeepbgaa
open Go.RowKit

set_option maxRecDepth 100000 in
set_option maxHeartbeats 1000000 in
theorem refWays_any (w : World) (lo : Option Addr) (ln lc : Nat) (wo : Option Addr) (wn wc : Nat) (l : Tab) (W : List Int) (hb : Byt l) (hwn : wn ≤ 1000) (ho : Sv w lo ln lc 2 (opc l)) (hW : Sv w wo wn wc 1 (byc W)) (lv p q : Int) :
    Calls Try.prog 11 #[.slice lo ln lc, .int .i64 lv, .slice wo wn wc, .int .i64 p, .int .i64 q] w fun r w' => r = .returned (.int .i64 (wayI l W lv p q)) ∧ Below w.heap.size w w' := by
  have HMa := Lib.hid (refMay_any w lo ln lc wo wn wc l ho hb lv p q)
  have hwl := hW.byte_len
  have hll := ho.ops_len
  by_cases hm : mayAsk l wn lv p q = true
  · have hq := (mayAsk_iff hb).1 hm
    rw [hm] at HMa
    have hl := hq.1
    obtain ⟨v, a, b, rfl, rfl, rfl, hv, hab, hbn⟩ := hq.nat
    have HNe := Lib.hid (new_any w lo ln lc wo wn wc l W hl ho hW hwn)
    have HWi := Lib.hid (wayI_Vc hl hv (w := W) (a := a) (b := b) (by omega))
    have hv' : (v : Int) < ln + 1 := by omega
    have ha' : (a : Int) < wn + 1 := by omega
    have hb' : (b : Int) < wn + 1 := by omega
    rw [hll] at hv
    clear hm hq ho hW hwl hb hl hll
    go_enter Try.func11, Try.ntmps11
    go_wp2_with fail
    refine HMa.out.mono ?_
    rintro e w2 ⟨rfl, rfl⟩
    go_wp2_with fail
    refine HNe.out.mono ?_
    rintro e w3 ⟨cb, t0, tc, r1, c1, r2, rfl, hch, hb3⟩
    have HB3 := Lib.hid hb3
    have hct := hch.ct
    obtain ⟨b5, b6⟩ := hch.tb
    obtain ⟨v1, v2, v3⟩ := hch.lev v hv
    have x1 := hch.row v a hv (by omega)
    have z1 := hch.int v a b hv (by omega) (by omega)
    clear hch hb3 HMa HNe
    generalize Vc l W v a b = z at *
    go_wp2_with fail
    go_ret
    exact ⟨ret_int HWi.out.symm, HB3.out⟩
  · have hz : wayI l W lv p q = 0 := by
      unfold wayI
      rw [if_neg fun h => hm ((mayAsk_iff hb).2 (by have := (derB_iff.1 h).1; rw [hwl] at this; exact this))]
    rw [hz]
    rw [Bool.not_eq_true] at hm
    rw [hm] at HMa
    clear hz hm hwl ho hW hb hll
    go_enter Try.func11, Try.ntmps11
    go_wp2_with fail
    refine HMa.out.mono ?_
    rintro e w2 ⟨rfl, rfl⟩
    go_wp2_with fail
    go_ret
    exact ⟨rfl, Below.refl _ _⟩

set_option maxRecDepth 100000 in
set_option maxHeartbeats 1000000 in
theorem refLongest_any (w : World) (lo : Option Addr) (ln lc : Nat) (wo : Option Addr) (wn wc : Nat) (l : Tab) (W : List Int) (hb : Byt l) (hwn : wn ≤ 1000) (ho : Sv w lo ln lc 2 (opc l)) (hW : Sv w wo wn wc 1 (byc W)) (p : Int) :
    Calls Try.prog 15 #[.slice lo ln lc, .slice wo wn wc, .int .i64 p] w fun r w' => r = .returned (lgV (lgO l W p)) ∧ Below w.heap.size w w' := by
  have HMa := Lib.hid (refMay_any w lo ln lc wo wn wc l ho hb 0 p wn)
  have hwl := hW.byte_len
  have hll := ho.ops_len
  by_cases hm : mayAsk l wn 0 p wn = true
  · have hq := (mayAsk_iff hb).1 hm
    rw [hm] at HMa
    have hl := hq.1
    have hq' := hq
    obtain ⟨v, a, b, hv0, rfl, hbe, hv, hab, hbn⟩ := hq.nat
    obtain rfl : wn = b := by omega
    have HNe := Lib.hid (new_any w lo ln lc wo wn wc l W hl ho hW hwn)
    rw [← hwl] at hq'
    have HQ := Lib.hid hq'
    have HWl := Lib.hid hwl
    have ha' : (a : Int) < wn + 1 := by omega
    clear hm hq ho hW hwl hb hl hll hq' hv0 hbe hv
    go_enter Try.func15, Try.ntmps15
    go_wp2_with fail
    refine HMa.out.mono ?_
    rintro e w2 ⟨rfl, rfl⟩
    go_wp2_with fail
    refine HNe.out.mono ?_
    rintro e w3 ⟨cb, t0, tc, r1, c1, r2, rfl, hch, hb3⟩
    have HB3 := Lib.hid hb3
    have HCh := Lib.hid hch
    have hct := hch.ct
    obtain ⟨b5, b6⟩ := hch.tb
    obtain ⟨v1, v2, v3⟩ := hch.lev 0 (by omega)
    have x1 := hch.row 0 a (by omega) (by omega)
    clear hch hb3 HMa HNe
    go_wp2_with fail
    go_loop [9] (fun s => ∃ k : Nat, a ≤ k ∧ k ≤ wn ∧ s = .int .i64 k ∧ Hid (∀ c, k < c → ¬ Hr l W 0 a c)) (fun s => (intOf s).toNat)
    case atStart => exact ⟨wn, by omega, by omega, rfl, fun c hc h => by have := h.bd; have := HWl.out; omega⟩
    case round =>
      obtain ⟨k, hk1, hk2, rfl, HN⟩ := hrel
      by_cases hlt : a < k
      · have hlt' : (a : Int) < k := by omega
        have hk' : (k : Int) < wn + 1 := by omega
        have z1 := HCh.out.int 0 a k (by omega) (by omega) (by omega)
        by_cases hr : Hr l W 0 a k
        · rw [Vc_yes hr] at z1
          have HL := Lib.hid (lgO_eq (l := l) (w := W) (p := (a : Int)) (o := some k) ⟨HQ.out, by rw [Int.toNat_natCast]; exact ⟨hr, fun c hc => by
            rcases Nat.lt_or_ge k c with h | h
            · exact absurd hc (HN.out c h)
            · exact h⟩⟩)
          clear hr
          go_wp2_with fail
          go_ret2
          exact ⟨by rw [HL.out]; rfl, HB3.out⟩
        · rw [Vc_no hr] at z1
          have HR := Lib.hid hr; clear hr
          go_wp2_with fail
          go_round
          case rel => exact ⟨k - 1, by omega, by omega, by rw [show ((k - 1 : Nat) : Int) = (k : Int) - 1 by omega], fun c hc => by
            by_cases e : c = k
            · rw [e]; exact HR.out
            · exact HN.out c (by omega)⟩
          case measure => simp [intOf]; omega
      · obtain rfl : a = k := by omega
        have HL := Lib.hid (lgO_eq (l := l) (w := W) (p := (a : Int)) (o := none) (fun _ e h => by
          rw [Int.toNat_natCast] at h
          exact HN.out e h.bd.1 (hr_iff.2 (.inl h))))
        go_wp2_with fail
        go_ret2
        exact ⟨by rw [HL.out]; rfl, HB3.out⟩
  · have hf : lgO l W p = none := lgO_eq (fun h => by
      refine absurd ((mayAsk_iff hb).2 ?_) hm
      rw [← hwl]; exact h)
    rw [hf]
    rw [Bool.not_eq_true] at hm
    rw [hm] at HMa
    clear hf hm hwl ho hW hb hll
    go_enter Try.func15, Try.ntmps15
    go_wp2_with fail
    refine HMa.out.mono ?_
    rintro e w2 ⟨rfl, rfl⟩
    go_wp2_with fail
    go_ret2
    exact ⟨rfl, Below.refl _ _⟩

set_option maxRecDepth 100000 in
set_option maxHeartbeats 1000000 in
theorem refTree_any (w : World) (lo : Option Addr) (ln lc : Nat) (wo : Option Addr) (wn wc : Nat) (l : Tab) (W : List Int) (hb : Byt l) (hwn : wn ≤ 1000) (ho : Sv w lo ln lc 2 (opc l)) (hW : Sv w wo wn wc 1 (byc W)) (p q : Int) :
    Calls Try.prog 17 #[.slice lo ln lc, .slice wo wn wc, .int .i64 p, .int .i64 q] w fun r w' => (∃ v, r = .returned (.tuple #[v, .bool (derB l W 0 p q)]) ∧ Own w w' 57 5 v (trT l W p q).length ((trT l W p q).flatMap twc)) := by
  have HWa := Lib.hid (refWays_any w lo ln lc wo wn wc l W hb hwn ho hW 0 p q)
  have hwl := hW.byte_len
  have hll := ho.ops_len
  by_cases hd : derB l W 0 p q = true
  · have hD := derB_iff.1 hd
    have hl := hD.1.1
    have hr := hD.2
    obtain ⟨v, a, b, hv0, rfl, rfl, hv, hab, hbn⟩ := hD.1.nat
    rw [show wayI l W 0 a b = 1 by unfold wayI; rw [if_pos hd]] at HWa
    obtain ⟨t, m, hk⟩ := hr.kd hl _ (Nat.le_refl _)
    rw [hd, trT_yes hd hk]
    simp only [Int.toNat_natCast] at hk hr ⊢
    have hr0 : Hr l W 0 a b := hr
    have hkl := kd_len hk
    have HNe := Lib.hid (fun w' (hb' : Below w.heap.size w w') => new_any w' lo ln lc wo wn wc l W hl (ho.below hb') (hW.below hb') hwn)
    have HTw := Lib.hid (fun w' cb t0 tc r1 c1 r2 (h : Ch w' cb lo ln lc wo wn wc l W t0 tc r1 c1 r2 (fun i a b => Vc l W i a b)) =>
      twig_of w' (.pointer (some ⟨cb, 0, none⟩)) 0 0 a b t m (by omega) (kids_any hll hl hwn hwl _ _ 0 a b (Nat.le_refl _) (Nat.le_refl _) (by omega) w' h t m hr0 hk (by omega)))
    clear hd hD hl hr hr0 hk hkl ho hW hwl hll hb hv0 hv hab hbn
    have e1 : (tw 0 a b m : Tw) = ⟨0, 0, (a : Int), (b : Int), m⟩ := rfl
    rw [e1]
    clear e1
    go_enter Try.func17, Try.ntmps17
    go_wp2_with fail
    refine HWa.out.mono ?_
    rintro e w2 ⟨rfl, hb2⟩
    have HB2 := Lib.hid hb2; clear hb2 HWa
    go_wp2_with fail
    refine (HNe.out w2 HB2.out).mono ?_
    rintro e w3 ⟨cb, t0, tc, r1, c1, r2, rfl, hch, hb3⟩
    have HB3 := Lib.hid (HB2.out.trans (hb3.mono HB2.out.size)); clear hb3
    have HT := Lib.hid (HTw.out _ _ _ _ _ _ _ hch); clear hch HTw HNe
    go_wp2_with fail
    refine HT.out.mono ?_
    rintro e w4 ⟨v, rfl, ho⟩
    have HO := Lib.hid (ho.since HB3.out); clear ho
    go_wp2_with fail
    go_ret2
    exact ⟨_, rfl, HO.out⟩
  · rw [Bool.not_eq_true] at hd
    rw [show wayI l W 0 p q = 0 by unfold wayI; rw [hd]; rfl] at HWa
    rw [trT_not hd, hd]
    clear hd hwl hll ho hW hb
    go_enter Try.func17, Try.ntmps17
    go_wp2_with fail
    refine HWa.out.mono ?_
    rintro e w2 ⟨rfl, hb2⟩
    have HB2 := Lib.hid hb2; clear hb2 HWa
    go_wp2_with fail
    go_ret2
    exact ⟨_, rfl, World.ownsRow_nil _ _ _ _, HB2.out⟩
end Go.Proofs.Ytmpccinbeepbgaa
