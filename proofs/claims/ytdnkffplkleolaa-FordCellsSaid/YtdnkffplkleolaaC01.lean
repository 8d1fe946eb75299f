/- Walks and plain laws: Lv. -/
import Derived.Test.YtdnkffplkleolaaM31
import Derived.Test.YtdnkffplkleolaaM32
import Derived.BigQuiet
namespace Go.Proofs.Ytdnkffplkleolaa
open Go.RowKit
set_option maxRecDepth 100000
set_option maxHeartbeats 8000000

theorem outW_bad {G : Gr} {W : List Nat} {r p : Int} (h : (outW G W r p).e ≠ 0) : outW G W r p = otE (outW G W r p).e := by
 unfold outW at h ⊢
 split; · rfl
 split; · rfl
 split; · rfl
 split; · rfl
 rename_i h1 h2 h3 h4
 rw [if_neg h1, if_neg h2, if_neg h3, if_neg h4] at h
 unfold outK at h ⊢
 split; · rfl
 rename_i h5
 rw [if_neg h5] at h
 split <;> rename_i h6
 ·rw [if_pos h6] at h; exact absurd rfl h
 ·rw [if_neg h6] at h; exact absurd rfl h
theorem outW_ok {G : Gr} {W : List Nat} {r p : Int} (hc : ClsOk G) (h : (outW G W r p).e = 0) : ∃ (a b : Nat) (o : Rs × St), r = a ∧ p = b ∧ b ≤ W.length ∧ Fine G.rules.length W.length a b o ∧
  outW G W r p = if o.1.is then ⟨true, o.1.en, o.1.far, o.1.tree, o.2.cells.length, 0⟩ else ⟨false, 0, o.1.far, [], o.2.cells.length, 0⟩ := by
 unfold outW at h ⊢
 split at h; · exact absurd h (by simp [otE])
 split at h; · exact absurd h (by simp [otE])
 split at h; · exact absurd h (by simp [otE])
 split at h; · exact absurd h (by simp [otE])
 rename_i h1 h2 h3 h4
 rw [if_neg h1, if_neg h2, if_neg h3, if_neg h4]
 have hr : rightR G = true := by simpa using h1
 refine ⟨r.toNat, p.toNat, runR G W r.toNat p.toNat, by omega, by omega, by omega, fine_of (gok_of hr hc) (by omega) (by omega), ?_⟩
 unfold outK at h ⊢
 split at h
 ·exact absurd h (by simp [otE])
 ·rename_i h5; rw [if_neg h5]
theorem isFst_eq {t : List Tw} {k : Nat} {x : Tw} (h : t[k]? = some x) : isFst t k = (t.take k).all (fun y => !sameK y x) := by
 unfold isFst; rw [h]
theorem fsts_le (t : List Tw) (m : Nat) : fsts t m ≤ m := by
 unfold fsts
 have := List.length_filter_le (isFst t) (List.range m)
 rwa [List.length_range] at this
theorem Fine.tree {R L r p : Nat} {o : Rs × St} (h : Fine R L r p o) (hL : L ≤ 1000000) (hi : o.1.is = true) : forestB o.1.tree = true ∧ (∀ x ∈ o.1.tree, 0 ≤ x.kids ∧ x.kids ≤ o.1.tree.length) ∧ afT 1 o.1.tree = some o.1.tree.length := by
 obtain ⟨h1, h2⟩ := h.rs.yes hi
 refine ⟨h2.forest (by omega), h2.kids, ?_⟩
 obtain ⟨t, m, e, hr⟩ := h.top hi
 have := h2.after 0 []
 rw [hr, Nat.add_zero, List.append_nil, afT_zero] at this
 simpa using this

section
variable (w : World) (ro : Option Addr) (rn rc : Nat) (no : Option Addr) (nn nc : Nat) (NK : List (Nd × (Option Addr × Nat))) (G : Gr) (hG : GrW w ro rn rc no nn nc NK G) (wo : Option Addr) (wn wc : Nat) (W : List Nat) (hW : InW w wo wn wc W) (hcl : ClsOk G)
include hG hW hcl
theorem cells_any (rule place : Int) (hr : rn ≤ 140737488355328) (hn : nn ≤ 140737488355328) (hkb : ∀ p ∈ NK, p.1.kids.length ≤ 140737488355328) :
  Calls Try.prog 3 #[.agg #[.slice ro rn rc, .slice no nn nc], .slice wo wn wc, .int .i64 rule, .int .i64 place] w fun r w' => r = .returned (.bool true) ∧ Below w.heap.size w w' := by
 have HG := Lib.hid (fun w' (hb : Below w.heap.size w w') => hG.below hb)
 have HW := Lib.hid (fun w' (hb : Below w.heap.size w w') => hW.below hb)
 have HCl := Lib.hid hcl
 have hrb := hG.rul.bound
 have hnb := hG.nod.sv.bound
 have hwb := hW.sv.bound
 have HRl := Lib.hid (hG.rul.n_eq ruc_len (by decide))
 have HWl := Lib.hid hW.len
 have HSz := Lib.hid (fun w' (hb : Below w.heap.size w w') => size_any w' ro no rn rc nn nc NK G (hG.below hb) hr hn hkb)
 have B0 := Lib.hid (Below.refl w.heap.size w)
 clear hG hW hcl hkb
 go_enter Try.func3, Try.ntmps3
 go_upto_region 1 with (fail)
 have hb : Below w.heap.size w (w.alloc (.cells #[.slice ro rn rc, .slice no nn nc] 25)) := (Below.refl _ _).alloc (Nat.le_refl _) _
 have OO := Lib.hid (hrow.new w #[.slice ro rn rc, .slice no nn nc] 25)
 have Bz0 := Lib.hid (B0.out.trans (hb.mono B0.out.size))
 clear hb B0
 generalize w.alloc (.cells #[.slice ro rn rc, .slice no nn nc] 25) = z0 at *
 generalize w.heap.size = g0 at OO ⊢
 go_wp2_with fail
 refine (awake_any _).mono ?_
 rintro e xa ⟨rfl, hb⟩
 have OO := Lib.hid (OO.out.below hb)
 have Bxa := Lib.hid (Bz0.out.trans (hb.mono Bz0.out.size))
 clear hb Bz0
 obtain ⟨a0, a1⟩ := (OO.out).c2
 go_wp2_with fail
 refine (HSz.out _ Bxa.out).mono ?_
 rintro e x1 ⟨⟨m, rfl, hsm⟩, hb⟩
 have OO := Lib.hid (OO.out.below hb)
 have Bx1 := Lib.hid (Bxa.out.trans (hb.mono Bxa.out.size))
 clear hb Bxa
 clear a0 a1
 have HSm := Lib.hid hsm
 clear hsm HSz
 obtain ⟨a0, a1⟩ := (OO.out).c2
 by_cases hm : 200 < m
 ·have hm' : 200 < (m : Int) := by omega
  go_wp2_with fail
  go_ret
  exact ⟨rfl, Bx1.out⟩
 have hm' : (m : Int) ≤ 200 := by omega
 obtain ⟨hr2, hn2, hk2⟩ := HSm.out (by omega)
 clear HSm hk2
 by_cases hw6 : 60 < wn
 ·have hw6' : 60 < (wn : Int) := by omega
  go_wp2_with fail
  go_ret
  exact ⟨rfl, Bx1.out⟩
 have hw6' : (wn : Int) ≤ 60 := by omega
 have HL := Lib.hid (rlong_any x1 ro rn rc no nn nc NK G (HG.out _ Bx1.out) wo wn wc W (HW.out _ Bx1.out) HCl.out rule place (by omega))
 go_wp2_with fail
 refine (HL.out).mono ?_
 rintro e x2 ⟨⟨b, rfl, hsh⟩, hb⟩
 have OO := Lib.hid (OO.out.below hb)
 have Bx2 := Lib.hid (Bx1.out.trans (hb.mono Bx1.out.size))
 clear hb Bx1
 clear a0 a1
 have HSh := Lib.hid hsh
 clear hsh HL
 obtain ⟨a0, a1⟩ := (OO.out).c2
 cases b with
 | true =>
  go_wp2_with fail
  go_ret
  exact ⟨rfl, Bx2.out⟩
 | false =>
  have HS := Lib.hid (HSh.out rfl)
  clear HSh
  have HLn := Lib.hid (outW_len G wn W rule place HWl.out (fun _ => HS.out))
  obtain ⟨ot, hot⟩ : ∃ ot, outW G W rule place = ot := ⟨_, rfl⟩
  have hbad := fun h => outW_bad (G := G) (W := W) (r := rule) (p := place) h
  have hok := fun h => outW_ok (G := G) (W := W) (r := rule) (p := place) HCl.out h
  have HO := Lib.hid hot
  rw [hot] at HLn hbad hok
  clear hot
  obtain ⟨oi, oe, od, ot, on, oE⟩ := ot
  simp only [] at hbad hok
  obtain ⟨n, hn⟩ : ∃ n, n = ot.length := ⟨_, rfl⟩
  have hn0 : n ≤ 2000 := by have h : ot.length ≤ 2000 := HLn.out; omega
  have HNt := Lib.hid hn
  have HBad := Lib.hid hbad; have HOk := Lib.hid hok
  clear hn HLn hbad hok
  go_wp2_with fail
  refine (fM x2 ro rn rc no nn nc NK G (HG.out _ Bx2.out) wo wn wc W (HW.out _ Bx2.out) HCl.out rule place HS.out HO.out HNt.out).mono ?_
  rintro e x3 ⟨ao, cap, rfl, hx, -, hb⟩
  have OO := Lib.hid (OO.out.below hb)
  have Bx3 := Lib.hid (Bx2.out.trans (hb.mono Bx2.out.size))
  clear hb Bx2
  have XT := Lib.hid hx
  clear hx
  clear a0 a1
  go_upto_region 6 with (fail)
  have hb : Below x3.heap.size x3 (x3.alloc (.cells #[.bool oi, .int .i64 oe, .int .i64 od, .slice ao n cap] 32)) := (Below.refl _ _).alloc (Nat.le_refl _) _
  have FX := Lib.hid (hrow.new x3 #[.bool oi, .int .i64 oe, .int .i64 od, .slice ao n cap] 32)
  have OO := Lib.hid (OO.out.below hb)
  have XT := Lib.hid (XT.out.below hb)
  have Bz4 := Lib.hid (Bx3.out.trans (hb.mono Bx3.out.size))
  clear hb Bx3
  generalize x3.alloc (.cells #[.bool oi, .int .i64 oe, .int .i64 od, .slice ao n cap] 32) = z4 at *
  generalize x3.heap.size = g4 at *
  obtain ⟨a0, a1⟩ := (OO.out).c2
  go_wp2_with fail
  refine (fC z4 ro rn rc no nn nc NK G (HG.out _ Bz4.out) wo wn wc W (HW.out _ Bz4.out) HCl.out rule place HS.out HO.out HNt.out).mono ?_
  rintro e x5 ⟨rfl, hb⟩
  have OO := Lib.hid (OO.out.below hb)
  have XT := Lib.hid (XT.out.below hb)
  have FX := Lib.hid (FX.out.below hb)
  have Bx5 := Lib.hid (Bz4.out.trans (hb.mono Bz4.out.size))
  clear hb Bz4
  clear a0 a1
  obtain ⟨p0, p1, p2, p3⟩ := (FX.out).c4
  obtain ⟨a0, a1⟩ := (OO.out).c2
  by_cases hE : oE = 0
  ·subst hE
   obtain ⟨ra, pa, q, hra, hpa, hpl, hf, he⟩ := HOk.out rfl
   subst hra hpa
   have hcn := hf.cnt hpl
   have hon := hf.one
   have hlo := hf.rs.lo; have hhi := hf.rs.hi
   rw [HRl.out, HWl.out] at hcn
   rw [HWl.out] at hhi hpl
   by_cases hi : q.1.is = true
   ·rw [if_pos hi] at he
    simp only [Ot.mk.injEq] at he
    obtain ⟨rfl, rfl, rfl, rfl, rfl, -⟩ := he
    obtain ⟨ht1, ht2, ht3⟩ := hf.tree (by rw [HWl.out]; omega) hi
    obtain ⟨tl, tm, htop, -⟩ := hf.top hi
    have HUq := Lib.hid (fun (x y : Tw) (hx : x ∈ q.1.tree) (hy : y ∈ q.1.tree) h1 h2 => hf.uniq hx hy h1 h2)
    have HLev := Lib.hid (fun (x : Tw) (hx : x ∈ q.1.tree) => hf.lev hx)
    have HFs := Lib.hid hf.fsts
    have HT1 := Lib.hid ht1; have HT2 := Lib.hid ht2; have HT3 := Lib.hid ht3; have HTop := Lib.hid htop
    clear ht1 ht2 ht3 htop hi hf HOk HBad HO
    generalize q.2.cells.length = cn at *
    generalize q.1.far = qf at *
    generalize q.1.en = en at *
    generalize q.1.tree = T at *
    have hn1 : 0 < n := by rw [HNt.out, HTop.out]; simp
    have hn1' : 0 < (n : Int) := by omega
    have hm1 : (rn : Int) * ((wn : Int) - pa + 1) ≤ 200 * 61 := by
     have h1 : (rn : Int) * ((wn : Int) - pa + 1) ≤ 200 * ((wn : Int) - pa + 1) := Int.mul_le_mul_of_nonneg_right (by omega) (by omega)
     omega
    have hm0 : (cn : Int) ≤ (rn : Int) * ((wn : Int) - pa + 1) := by
     have h1 : ((wn - pa + 1 : Nat) : Int) = (wn : Int) - pa + 1 := by omega
     rw [← h1]; exact_mod_cast hcn
    obtain ⟨P, hP⟩ : ∃ P : Int, (rn : Int) * ((wn : Int) - pa + 1) = P := ⟨_, rfl⟩
    rw [hP] at hm0 hm1
    clear hcn
    go_upto_region 15 with (fail)
    clear a0 a1
    obtain ⟨ta, rfl, t0, -, t2, t3, -⟩ := XT.out.sv.tw5 (k := 0) (by rw [← HNt.out]; exact hn1)
    have hT0 : T[0]'(by rw [← HNt.out]; exact hn1) = ⟨ra, 0, pa, en, tm⟩ := by simp only [HTop.out, List.getElem_cons_zero]
    have hta : ta.add (0 * 5) = ta := by unfold Addr.add; simp
    rw [hT0, hta] at t0 t2 t3
    simp only [] at t0 t2 t3
    have HRt := Lib.hid (fun y : Later x5 => forest_any y.val (some ta) cap n T (XT.out.sv.below y.ok) (by omega) (fun x hx => by have := HT2.out x hx; have := HNt.out; omega))
    have HSz := Lib.hid (fun y : Later x5 => sizeTw_any y.val (some ta) cap n T (XT.out.sv.below y.ok) (by omega) (fun x hx => by have := HT2.out x hx; have := HNt.out; omega) HT1.out 0 n hn1 (by rw [List.drop_zero, HNt.out]; exact HT3.out) (by omega))
    rw [HT1.out] at HRt
    have later : ∀ (p : Addr) (v : Value), x5.cell? p = some v → ∀ y : Later x5, y.val.cell? p = some v := fun p v h y => (y.ok.cell (World.block_lt_of_cell? x5 _ h)).trans h
    have p1 := later _ _ p1; have p3 := later _ _ p3; have t0 := later _ _ t0; have t2 := later _ _ t2; have t3 := later _ _ t3
    clear later p0 p2 hT0 hta
    refine wp_region_later (by kernel_rfl) (by kernel_rfl) ?_
    repeat (go_big_quiet_step ((first | (go_at_call 9; exact Calls.later (HRt.out _)) | (go_at_call 10; exact Calls.later (HSz.out _)))))
    refine wpQuiet_nil ?_
    intro w6 hw6
    obtain ⟨y, rfl⟩ := hw6
    have B6 := Lib.hid (Bx5.out.trans (y.ok.mono Bx5.out.size))
    have FX6 := Lib.hid (FX.out.below y.ok)
    have XT6 := Lib.hid (XT.out.below y.ok)
    clear p1 p3 t0 t2 t3 HRt HSz FX XT Bx5
    generalize y.val = w6 at *
    obtain ⟨p0, p1, p2, p3⟩ := (FX6.out).c4
    go_wp2_with fail
    clear p0 p1 p2 p3
    go_loopw [13, 14] (fun c i wr => ∃ k : Nat, k ≤ n ∧ i = .int .i64 k ∧ c = .int .i64 (fsts T k : Nat) ∧ Hid (Below w6.heap.size w6 wr)) (fun _ i _ => n - (intOf i).toNat)
    case atStart => exact ⟨0, by omega, rfl, rfl, Below.refl _ _⟩
    case round =>
     obtain ⟨k, hk, rfl, rfl, HB⟩ := hrel
     obtain ⟨p0, p1, p2, p3⟩ := (FX6.out.below HB.out).c4
     clear p0 p1 p2
     have hfk : fsts T k ≤ n := Nat.le_trans (fsts_le T k) hk
     by_cases hlt : k < n
     ·have hlt' : (k : Int) < n := by omega
      have hkT : k < T.length := by rw [← HNt.out]; exact hlt
      obtain ⟨x, hx⟩ : ∃ x, T[k] = x := ⟨_, rfl⟩
      have hxm : x ∈ T := hx ▸ List.getElem_mem hkT
      have hxl : x.lev = 0 := HLev.out x hxm
      have HX := Lib.hid (show T[k]? = some x by rw [List.getElem?_eq_getElem hkT, hx])
      clear hx
      go_wp2_with fail
      go_loopw [15, 16] (fun f j wi => ∃ m : Nat, m ≤ k ∧ j = .int .i64 m ∧ f = .bool ((T.take m).all (fun y => !sameK y x)) ∧ Hid (Below wr.heap.size wr wi)) (fun _ j _ => k - (intOf j).toNat)
      case atStart => exact ⟨0, by omega, rfl, by simp, Below.refl _ _⟩
      case round =>
       obtain ⟨m2, hm2, rfl, rfl, HC⟩ := hrel
       clear p3
       have HD := Lib.hid (HB.out.trans (HC.out.mono HB.out.size))
       obtain ⟨p0, p1, p2, p3⟩ := (FX6.out.below HD.out).c4
       clear p0 p1 p2
       obtain ⟨tk, htk, k0, k1, k2, k3, k4⟩ := (XT6.out.below HD.out).sv.tw5 hkT
       cases htk
       have hxe : T[k] = x := by have h := HX.out; rw [List.getElem?_eq_getElem hkT] at h; exact Option.some.inj h
       rw [hxe] at k0 k1 k2 k3 k4
       by_cases hml : m2 < k
       ·have hml' : (m2 : Int) < k := by omega
        have hmT : m2 < T.length := by omega
        obtain ⟨tk, htk, m0, m1, m2', m3, m4⟩ := (XT6.out.below HD.out).sv.tw5 hmT
        cases htk
        obtain ⟨y, hy⟩ : ∃ y, T[m2] = y := ⟨_, rfl⟩
        have hym : y ∈ T := hy ▸ List.getElem_mem hmT
        rw [hy] at m0 m1 m2' m3 m4
        have hall : (T.take (m2 + 1)).all (fun y => !sameK y x) = ((T.take m2).all (fun y => !sameK y x) && !sameK y x) := by rw [List.take_succ_eq_append_getElem hmT, List.all_append, hy]; simp
        have HAll := Lib.hid hall
        clear hall hy hxe k1 m1
        by_cases hs : y.rule = x.rule ∧ y.fr = x.fr
        ·have hyx : y = x := HUq.out y x hym hxm hs.1 hs.2
         subst hyx
         clear hs
         go_wp2_with fail
         go_quiet (fail)
         go_wp2_with fail
         go_quiet (fail)
         go_wp2_with fail
         go_roundw
         case rel => exact ⟨m2 + 1, by omega, by go_num, by rw [HAll.out]; simp [sameK], HC.out.trans ((below_drewN (Below.refl wr.heap.size wr) _).mono HC.out.size)⟩
         case measure => simp [intOf]; omega
        ·by_cases hr3 : y.rule = x.rule
         ·have b1 : (y.rule == x.rule) = true := by simp [hr3]
          have b2 : (y.fr == x.fr) = false := by simpa [hr3] using hs
          clear hs hr3
          go_wp2_with fail
          go_quiet (fail)
          go_wp2_with fail
          go_roundw
          case rel => exact ⟨m2 + 1, by omega, by go_num, by rw [HAll.out]; unfold sameK; rw [b1, b2]; simp, HC.out.trans ((below_drewN (Below.refl wr.heap.size wr) _).mono HC.out.size)⟩
          case measure => simp [intOf]; omega
         ·have b1 : (y.rule == x.rule) = false := by simpa using hr3
          clear hs hr3
          go_wp2_with fail
          go_quiet (fail)
          go_wp2_with fail
          go_roundw
          case rel => exact ⟨m2 + 1, by omega, by go_num, by rw [HAll.out]; unfold sameK; rw [b1]; simp, HC.out.trans ((below_drewN (Below.refl wr.heap.size wr) _).mono HC.out.size)⟩
          case measure => simp [intOf]; omega
       ·have hmk : m2 = k := by omega
        subst hmk
        rw [hxl] at k1
        clear hxe k0 k2 k3 k4
        obtain ⟨bf, hbf⟩ : ∃ bf, (T.take m2).all (fun y => !sameK y x) = bf := ⟨_, rfl⟩
        rw [hbf]
        have HBf := Lib.hid hbf
        clear hbf
        cases bf with
        | true =>
         go_wp2_with fail
         go_roundw
         case rel => exact ⟨m2 + 1, by omega, by go_num, by rw [fsts_succ, isFst_eq HX.out, HBf.out]; rfl, HD.out⟩
         case measure => simp [intOf]; omega
        | false =>
         go_wp2_with fail
         go_roundw
         case rel => exact ⟨m2 + 1, by omega, by go_num, by rw [fsts_succ, isFst_eq HX.out, HBf.out]; rfl, HD.out⟩
         case measure => simp [intOf]; omega
     ·have hkn : k = n := by omega
      subst hkn
      have hle : (fsts T k : Int) ≤ cn := by
       have h := HFs.out; rw [← HNt.out] at h; exact_mod_cast h
      go_wp2_with fail
      go_ret
      exact ⟨rfl, B6.out.trans (HB.out.mono B6.out.size)⟩
   ·rw [if_neg hi] at he
    simp only [Ot.mk.injEq] at he
    obtain ⟨rfl, rfl, rfl, rfl, rfl, -⟩ := he
    have hn1 : n = 0 := HNt.out
    subst hn1
    generalize q.2.cells.length = cn at *
    generalize q.1.far = qf at *
    have hm1 : (rn : Int) * ((wn : Int) - pa + 1) ≤ 200 * 61 := by
     have h1 : (rn : Int) * ((wn : Int) - pa + 1) ≤ 200 * ((wn : Int) - pa + 1) := Int.mul_le_mul_of_nonneg_right (by omega) (by omega)
     omega
    have hm0 : (cn : Int) ≤ (rn : Int) * ((wn : Int) - pa + 1) := by
     have h1 : ((wn - pa + 1 : Nat) : Int) = (wn : Int) - pa + 1 := by omega
     rw [← h1]; exact_mod_cast hcn
    obtain ⟨P, hP⟩ : ∃ P : Int, (rn : Int) * ((wn : Int) - pa + 1) = P := ⟨_, rfl⟩
    rw [hP] at hm0 hm1
    clear hcn
    clear hf hi HOk HBad
    go_wp2_with fail
    go_ret
    exact ⟨rfl, Bx5.out⟩
  ·have hb := HBad.out hE
   simp only [otE, Ot.mk.injEq] at hb
   obtain ⟨rfl, rfl, rfl, rfl, rfl, -⟩ := hb
   have hn1 : n = 0 := HNt.out
   subst hn1
   have hE' : (oE == 0) = false := by simp only [beq_eq_false_iff_ne, ne_eq]; exact hE
   clear HBad HOk
   go_wp2_with fail
   go_ret
   exact ⟨rfl, Bx5.out⟩
end
end Go.Proofs.Ytdnkffplkleolaa
