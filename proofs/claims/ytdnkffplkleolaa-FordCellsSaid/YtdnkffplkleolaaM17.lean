/- Walks and plain laws: W7 V1. -/
import Derived.Test.YtdnkffplkleolaaM16
import Derived.OwnWalk
import Derived.BigRegion
import Derived.Deep.DeepCutAuto
import Derived.IntWalk
import Derived.Deep.OwnRows
namespace Go.Proofs.Ytdnkffplkleolaa
open Go.RowKit
set_option maxRecDepth 100000
set_option maxHeartbeats 4000000

theorem infoInt : (Try.prog.info? 3).map (fun i => (i.zero, i.size, i.bytes)) = some (some (.int .i64 0), 1, 8) := by kernel_rfl
theorem made_rngs (n : Nat) : madeCells #[.int .i64 0] n = rngs n (fun _ => 0) := by
  apply Array.ext
  · simp [madeCells, rngs]
  · intro i h1 h2
    simp [madeCells, rngs, Nat.mod_one]
theorem three (w : World) (A B C : Obj) : ((((w.alloc A).alloc B).alloc C).drew).heap[w.heap.size]? = some A ∧ ((((w.alloc A).alloc B).alloc C).drew).heap[w.heap.size + 1]? = some B ∧ ((((w.alloc A).alloc B).alloc C).drew).heap[w.heap.size + 1 + 1]? = some C := by
  show ((w.heap.push A).push B |>.push C)[w.heap.size]? = some A ∧ ((w.heap.push A).push B |>.push C)[w.heap.size + 1]? = some B ∧ ((w.heap.push A).push B |>.push C)[w.heap.size + 1 + 1]? = some C
  refine ⟨?_, ?_, ?_⟩
  · rw [Array.getElem?_push, if_neg (by simp; omega), Array.getElem?_push, if_neg (by simp), Array.getElem?_push, if_pos (by simp)]
  · rw [Array.getElem?_push, if_neg (by simp), Array.getElem?_push, if_pos (by simp)]
  · rw [Array.getElem?_push, if_pos (by simp)]
/-- What 'of' tells. -/
def OfOut (w : World) (N : List Nd) (nn : Nat) (e : Ending) (w' : World) : Prop :=
  ∃ (a1 a2 : Nat) (S H : Nat → Nat) (b : Bool), e = .returned (.tuple #[.agg #[.slice (some ⟨a1, 0, none⟩) nn nn, .slice (some ⟨a2, 0, none⟩) nn nn], .bool b]) ∧ Below w.heap.size w w' ∧
    hrow w' a1 (rngs nn S) 3 ∧ hrow w' a2 (rngs nn H) 3 ∧ (b = true → ∃ T, tabs N nn = some T ∧ Agrees 0 T nn S H) ∧ (b = false → tabs N nn = none)

theorem of_any (w : World) (no : Option Addr) (nn nc : Nat) (NK : List (Nd × (Option Addr × Nat))) (hN : NdW w no nn nc NK) (hb : nn ≤ 2048) :
    Calls Try.prog 65 #[.slice no nn nc] w (OfOut w (NK.map (·.1)) nn) := by
  obtain ⟨b1, b2⟩ := hN.sv.bound
  have hl := hN.sv.n_eq ndc_len (by decide)
  have HN := Lib.hid hN
  have HL := Lib.hid hl
  have hmk := run_make_row' (P := Try.prog) 55 3 (.int .i64 0) 8 (by kernel_rfl) infoInt rfl .i64 .i64 nn (by omega) (by omega)
  clear hN hl
  go_enter Try.func65, Try.ntmps65
  go_upto_region 1 with (fail)
  go_cut [3] (fun v wx => v = .bool false ∧ ∃ g1 g2, OfS w wx w.heap.size g1 g2 nn (fun _ => 0) (fun _ => 0))
  case first =>
    go_region
    all_goals
      go_wp2_with fail
      go_meet
      refine ⟨rfl, ?_⟩
      rw [made_rngs]
      have h3 := three w
      first
        | (refine ⟨w.heap.size + 1, w.heap.size + 1 + 1, ?_, ?_, ?_, ?_, by omega, by omega⟩
           · exact (h3 _ _ _).1
           · exact (al1 (al2 (Below.refl _ _) _ _) _).drew
           · exact (h3 _ _ _).2.1
           · exact (h3 _ _ _).2.2)
        | (refine ⟨w.heap.size + 1 + 1, w.heap.size + 1, ?_, ?_, ?_, ?_, by omega, by omega⟩
           · exact (h3 _ _ _).1
           · exact (al1 (al2 (Below.refl _ _) _ _) _).drew
           · exact (h3 _ _ _).2.2
           · exact (h3 _ _ _).2.1)
  case rest =>
    obtain ⟨rfl, g1, g2, hO⟩ := hcut
    have HO := Lib.hid hO
    clear hO hmk
    generalize hgb : w.heap.size = gb at *
    have HGb := Lib.hid hgb
    clear hgb
    go_wp2_with fail
    go_loopw [4] (fun s wr => ∃ (z : Int) (d : Nat) (T : List (Nat × Nat)) (S H : Nat → Nat), d ≤ nn ∧ z = (nn : Int) - 1 - d ∧ s = .int .i64 z ∧ Hid (OfS w wr gb g1 g2 nn S H) ∧ Hid (tabs (NK.map (·.1)) d = some T ∧ Agrees (nn - d) T nn S H)) (fun s _ => (intOf s + 1).toNat)
    case atStart => exact ⟨_, 0, [], _, _, by omega, rfl, by simp, HO.out, rfl, fun j h1 h2 => absurd h2 (by omega)⟩
    case round =>
      obtain ⟨z, d, T, S, H, hd, hz, rfl, HS, HT⟩ := hrel
      by_cases hlt : d < nn
      · obtain ⟨n, hn⟩ : ∃ n : Nat, n + 1 + d = nn := ⟨nn - 1 - d, by omega⟩
        obtain rfl : z = n := by omega
        have hz0 : (0 : Int) ≤ n := by omega
        have hzn : (n : Int) < nn := by omega
        have hnl : n < NK.length := by have := HL.out; omega
        have hmem : NK[n]'hnl ∈ NK := List.getElem_mem hnl
        obtain ⟨ra, rfl, hc⟩ := Sv.at ndc_len (HN.out.below (by have := HS.out.bel; exact this)).sv (by decide) n hnl
        have c8 : wr.cell? ⟨(ra.add (n * 9)).block, (ra.add (n * 9)).off + 8, none⟩ = some (.slice (NK[n]'hnl).2.1 (NK[n]'hnl).1.kids.length (NK[n]'hnl).2.2) := by
          have := hc 8 _ rfl
          rw [add_off _ _ _ (by decide)] at this
          exact this
        have HKs := Lib.hid (HN.out.kids _ hmem)
        have hkb := (HN.out.kids _ hmem).bound
        have hTb := (tabs_ok (N := NK.map (·.1)) d (by simp; have := HL.out; omega)).1 T HT.out.1
        have HTb := Lib.hid hTb
        have HStep := Lib.hid (tabs_at HL.out hn HT.out.1 hnl)
        clear hc hmem hTb
        generalize NK[n]'hnl = q at *
        obtain ⟨x, ka, kc⟩ := q
        simp only [] at c8 HKs hkb HStep
        obtain ⟨hkb1, hkb2⟩ := hkb
        generalize hks : x.kids = ks at *
        have HLk : Hid (ks.length = ks.length) := rfl
        clear hks
        obtain ⟨wt, rfl⟩ : ∃ wt : World, wt = wr := ⟨_, rfl⟩
        have HZ := Lib.hid hz
        have HNd := Lib.hid hn
        clear hz hn hlt
        go_wp2_with fail
        go_loopw [5, 6, 31] (fun a b c wr => ∃ (i nx hi : Nat), i ≤ ks.length ∧ n + 1 ≤ nx ∧ nx ≤ nn ∧ hi ≤ nn ∧ c = .int .i64 i ∧ a = .int .i64 nx ∧ b = .int .i64 hi ∧ Hid (OfS w wr gb g1 g2 nn S H) ∧ Hid (kidsT (n + 1) T nn (ks.drop i) nx hi = kidsT (n + 1) T nn ks (n + 1) 0)) (fun _ _ c _ => ks.length - (intOf c).toNat)
        case atStart => exact ⟨0, n + 1, 0, by omega, by omega, by omega, by omega, rfl, by go_num, rfl, HS.out, rfl⟩
        case round =>
          obtain ⟨i, nx, hi, hile, hnx1, hnx2, hhi, rfl, rfl, rfl, HS, HK⟩ := hrel
          by_cases hit : i < ks.length
          · have hit' : (i : Int) < ks.length := by omega
            obtain ⟨kb, rfl, hkc⟩ := (HKs.out.below HS.out.bel).cell i (by simp [inc]; omega)
            have hk : wr.cell? (kb.add i) = some (.int .i64 (ks[i]'hit)) := by rw [hkc]; simp [inc, hit]
            obtain ⟨bc0, bc1⟩ := (HS.out.box).c2
            obtain ⟨bf0, bf1⟩ := (HS.out.box).f2
            have HKc := Lib.hid (List.drop_eq_getElem_cons hit)
            clear hkc
            generalize ks[i]'hit = k at *
            have HK2 : Hid ((if k ≠ (nx : Int) ∨ (nn : Int) ≤ k then none else kidsT (n + 1) T nn (ks.drop (i + 1)) (nx + (T.getD (nx - (n + 1)) (0, 0)).1) (max hi (T.getD (nx - (n + 1)) (0, 0)).2)) = kidsT (n + 1) T nn ks (n + 1) 0) := by
              show _ = _
              rw [← HK.out, HKc.out, kidsT_cons]
            by_cases hbad : k ≠ (nx : Int) ∨ (nn : Int) ≤ k
            · have hno : tabs (NK.map (·.1)) nn = none := by
                have h2 := HK2.out
                rw [if_pos hbad] at h2
                have h3 := HStep.out
                rw [← h2] at h3
                exact tabs_none nn h3 (by have := HNd.out; omega)
              have HNo := Lib.hid hno
              clear hno HK2 HKc
              by_cases hkn : k = (nx : Int)
              · have hge : (nn : Int) ≤ nx := by omega
                have hge2 : decide ((nn : Int) ≤ (nx : Int)) = true := decide_eq_true hge
                subst hkn
                clear hbad
                go_wp2_with fail
                have HSz := Lib.hid HS.out.same
                revert HSz
                generalize (wr.setCell ⟨gb, 0, none⟩ (.slice (some ⟨g1, 0, none⟩) nn nn)).setCell ⟨gb, 1, none⟩ (.slice (some ⟨g2, 0, none⟩) nn nn) = wz
                intro HSz
                obtain ⟨bz0, bz1⟩ := (HSz.out.box).c2
                exact bodyPost_ret (v := .tuple #[.agg #[.slice (some ⟨g1, 0, none⟩) nn nn, .slice (some ⟨g2, 0, none⟩) nn nn], .bool false]) (by simp [results, Try.results65, go_sem, bz0, bz1]) rfl ⟨g1, g2, S, H, false, rfl, HSz.out.bel, HSz.out.siz, HSz.out.hei, fun h => (by cases h), fun _ => HNo.out⟩
              · have hne : (k != (nx : Int)) = true := by simpa using hkn
                clear hbad hkn
                go_wp2_with fail
                have HSz := Lib.hid HS.out.same
                revert HSz
                generalize (wr.setCell ⟨gb, 0, none⟩ (.slice (some ⟨g1, 0, none⟩) nn nn)).setCell ⟨gb, 1, none⟩ (.slice (some ⟨g2, 0, none⟩) nn nn) = wz
                intro HSz
                obtain ⟨bz0, bz1⟩ := (HSz.out.box).c2
                exact bodyPost_ret (v := .tuple #[.agg #[.slice (some ⟨g1, 0, none⟩) nn nn, .slice (some ⟨g2, 0, none⟩) nn nn], .bool false]) (by simp [results, Try.results65, go_sem, bz0, bz1]) rfl ⟨g1, g2, S, H, false, rfl, HSz.out.bel, HSz.out.siz, HSz.out.hei, fun h => (by cases h), fun _ => HNo.out⟩
            · obtain ⟨rfl, hlt2⟩ : k = (nx : Int) ∧ nx < nn := by omega
              clear hbad
              have hk2 := HK2.out
              rw [if_neg (by omega)] at hk2
              have hab := tab_at HTb.out (k := nx) (by have := HL.out; have := HNd.out; simp; omega) (by have := HL.out; simp; omega)
              have hag := HT.out.2 nx (by have := HNd.out; omega) hlt2
              have e1 : nx - (n + 1) = nx - (nn - d) := by have := HNd.out; omega
              have e2 : (NK.map (·.1)).length - d = nn - d := by have := HL.out; simp; omega
              rw [e2] at hab
              rw [e1, ← hag.1, ← hag.2] at hk2
              rw [← hag.1, ← hag.2] at hab
              have hlen : (NK.map (·.1)).length = nn := by have := HL.out; simp; omega
              rw [hlen] at hab
              have hs1 : wr.cell? ⟨g1, nx, none⟩ = some (.int .i64 (S nx)) := (HS.out.siz.cell nx).trans (rngs_get _ _ _ hlt2)
              have hs2 : wr.cell? ⟨g2, nx, none⟩ = some (.int .i64 (H nx)) := (HS.out.hei.cell nx).trans (rngs_get _ _ _ hlt2)
              have hlt3 : (nx : Int) < nn := by omega
              have HHk := Lib.hid hk2
              have hw1 : IntKind.i64.wrap ((nx : Int) + (S nx : Nat)) = (nx : Int) + (S nx : Nat) := IntWalk.i64_in _ (by omega)
              clear hk2 e1 e2 hag HK2 HKc hlen
              generalize S nx = sx at *
              generalize H nx = hx at *
              go_wp2_with fail
              go_region
              go_wp2_with fail
              go_roundw
              case rel => exact ⟨i + 1, nx + sx, max hi hx, by omega, by omega, by omega, by omega, by go_num, by go_num, by go_num, HS.out.below (by first | exact (Below.refl _ _).drew | exact below_drewN (Below.refl _ _) _), HHk.out⟩
              case measure => simp [intOf]; omega
          · obtain rfl : i = ks.length := by omega
            have hfin := HK.out
            rw [List.drop_length] at hfin
            simp only [kidsT] at hfin
            have hnew := HStep.out
            rw [← hfin] at hnew
            have hag := Agrees.next (n := n) (T := T) (len := nn) (S := S) (H := H) (by have := HT.out.2; have e := HNd.out; rw [show nn - d = n + 1 by omega] at this; exact this) (nx - n) (hi + 1)
            have HNew := Lib.hid hnew
            have HAg := Lib.hid hag
            have hs1 : wr.cell? ⟨g1, n, none⟩ = some (.int .i64 (S n)) := (HS.out.siz.cell n).trans (rngs_get _ _ _ (by omega))
            have hs2 : wr.cell? ⟨g2, n, none⟩ = some (.int .i64 (H n)) := (HS.out.hei.cell n).trans (rngs_get _ _ _ (by omega))
            have hf1 := HS.out.siz.frozen n
            have hf2 := HS.out.hei.frozen n
            obtain ⟨bc0, bc1⟩ := (HS.out.box).c2
            have hne := HS.out.ne
            have hne2 : ¬ g2 = g1 := fun e => hne e.symm
            have hnb1 := HS.out.nb.1
            have hnb2 := HS.out.nb.2
            have HP1 := Lib.hid (((HS.out.put1 n (nx - n)).put2 n (hi + 1)).below (Below.refl _ _).drew)
            have HP2 := Lib.hid (((HS.out.put2 n (hi + 1)).put1 n (nx - n)).below (Below.refl _ _).drew)
            have hw1 : IntKind.i64.wrap ((nx : Int) - (n : Int)) = ((nx - n : Nat) : Int) := by rw [IntWalk.i64_in _ (by omega)]; omega
            have hw2 : IntKind.i64.wrap ((hi : Int) + 1) = ((hi + 1 : Nat) : Int) := by rw [IntWalk.i64_in _ (by omega)]; omega
            have hw3 : ((nx : Int) - (n : Int)) = ((nx - n : Nat) : Int) := by omega
            clear hfin hnew hag
            go_wp2_with fail
            go_region
            all_goals
              go_wp2_with fail
              go_roundw
              case rel =>
                refine ⟨_, d + 1, _, _, _, by have := HNd.out; omega, ?_, rfl, (by first | exact HP1.out | exact HP2.out), HNew.out, ?_⟩
                · have := HZ.out; omega
                · have e : nn - (d + 1) = n := by have := HNd.out; omega
                  rw [e]; exact HAg.out
              case measure => simp [intOf]
      · obtain rfl : d = nn := by omega
        obtain rfl : z = -1 := by omega
        obtain ⟨bc0, bc1⟩ := (HS.out.box).c2
        obtain ⟨bf0, bf1⟩ := (HS.out.box).f2
        have HTf : Hid (tabs (NK.map (·.1)) d = some T ∧ Agrees 0 T d S H) := ⟨HT.out.1, by have := HT.out.2; rw [Nat.sub_self] at this; exact this⟩
        clear hz
        go_wp2_with fail
        have HSz := Lib.hid HS.out.same
        revert HSz
        generalize (wr.setCell ⟨gb, 0, none⟩ (.slice (some ⟨g1, 0, none⟩) d d)).setCell ⟨gb, 1, none⟩ (.slice (some ⟨g2, 0, none⟩) d d) = wz
        intro HSz
        obtain ⟨bz0, bz1⟩ := (HSz.out.box).c2
        exact bodyPost_ret (v := .tuple #[.agg #[.slice (some ⟨g1, 0, none⟩) d d, .slice (some ⟨g2, 0, none⟩) d d], .bool true]) (by simp [results, Try.results65, go_sem, bz0, bz1]) rfl ⟨g1, g2, S, H, true, rfl, HSz.out.bel, HSz.out.siz, HSz.out.hei, fun _ => ⟨T, HTf.out⟩, fun h => (by cases h)⟩
end Go.Proofs.Ytdnkffplkleolaa
namespace Go.Proofs.Ytdnkffplkleolaa
open Go.RowKit
set_option maxRecDepth 100000
set_option maxHeartbeats 1000000

theorem rrule_any (w : World) (ro : Option Addr) (rn rc : Nat) (no : Option Addr) (nn nc : Nat) (l : List Ru) (hr : Sv w ro rn rc 2 (l.flatMap ruc)) (s : ByteArray) :
  Calls Try.prog 36 #[grv ro rn rc no nn nc, .string s] w fun e w' => e = .returned (.int .i64 (ruleIx l s)) ∧ Below w.heap.size w w' := by
 obtain ⟨b1, b2⟩ := hr.bound
 have hl := hr.n_eq ruc_len (by decide)
 have HR := Lib.hid hr
 have HL := Lib.hid hl
 unfold grv
 clear hr hl
 go_enter Try.func36, Try.ntmps36
 go_wp2_with fail
 have HB0 := Lib.hid (al1 (Below.refl w.heap.size w) (.cells #[.slice ro rn rc, .slice no nn nc] 25))
 have HG0 := Lib.hid (hrow.new w #[.slice ro rn rc, .slice no nn nc] 25)
 revert HB0 HG0
 generalize w.alloc (.cells #[.slice ro rn rc, .slice no nn nc] 25) = w0
 intro HB0 HG0
 go_loopw [5] (fun i wr => ∃ k : Nat, k ≤ rn ∧ i = .int .i64 k ∧ Hid (Below w0.heap.size w0 wr ∧ ∀ i, (h : i < k) → (h' : i < l.length) → (l[i]'h').name ≠ s)) (fun i _ => rn - (intOf i).toNat)
 case atStart => exact ⟨0, by omega, rfl, Below.refl _ _, fun i h => absurd h (by omega)⟩
 case round =>
  obtain ⟨k, hk, rfl, HI⟩ := hrel
  have bg0 : wr.cell? ⟨w.heap.size, 0, none⟩ = some (.slice ro rn rc) := (HG0.out.below HI.out.1).cell 0
  have HBw := Lib.hid (HB0.out.trans (HI.out.1.mono HB0.out.size))
  by_cases hlt2 : k < rn
  ·have hk' : (k : Int) < rn := by omega
   have hkz : (0 : Int) ≤ k := by omega
   have hkl : k < l.length := by have := HL.out; omega
   obtain ⟨ra, rfl, hc⟩ := Sv.at ruc_len (HR.out.below HBw.out) (by decide) k hkl
   have c0 : wr.cell? (ra.add (k * 2)) = some (.string (l[k]'hkl).name) := hc 0 _ rfl
   have HE := Lib.hid (fun (h : (l[k]'hkl).name = s) => ruleIx_found hkl h (fun i hi => HI.out.2 i hi (by omega)))
   have HN := Lib.hid (fun (h : (l[k]'hkl).name ≠ s) => (fun i hi h' => by
    by_cases e : i = k
    ·subst e; exact h
    ·exact HI.out.2 i (by omega) h' : ∀ i, (h : i < k + 1) → (h' : i < l.length) → (l[i]'h').name ≠ s))
   clear hc
   generalize l[k]'hkl = r at *
   obtain ⟨nm, b⟩ := r
   simp only [] at c0 HE HN
   have HSB := Lib.hid (str_beq nm s)
   by_cases he : nm = s
   ·have HRes := Lib.hid (HE.out he)
    have heq : (nm.toList == s.toList) = true := by rw [HSB.out]; simpa using he
    clear HE HN
    go_wp2_with fail
    exact bodyPost_ret (v := .int .i64 k) (by simp [results, Try.results36, go_sem]) rfl ⟨ret_int HRes.out.symm, HBw.out⟩
   ·have HRes := Lib.hid (HN.out he)
    have heq : (nm.toList == s.toList) = false := by rw [HSB.out]; simpa using he
    clear HE HN
    go_wp2_with fail
    go_roundw
    case rel => exact ⟨k + 1, by omega, by go_num, HI.out.1, HRes.out⟩
    case measure => simp [intOf]; omega
  ·have hge : (rn : Int) ≤ k := by omega
   have HRes := Lib.hid (ruleIx_none (fun i h => HI.out.2 i (by have := HL.out; omega) h))
   go_wp2_with fail
   exact bodyPost_ret (v := .int .i64 (-1)) (by simp [results, Try.results36, go_sem]) rfl ⟨ret_int HRes.out.symm, HBw.out⟩

/-- A byte at a place of a name. -/
def nmB (i c : Nat) : Bool := letB c || (decide (1 ≤ i) && digB c)
theorem nameB_all {s : ByteArray} (h : ∀ j, (hj : j < s.size) → nmB j (s[j]'hj).toNat = true) : nameB s = (decide (1 ≤ s.size) && decide (s.size ≤ 32)) := by
 unfold nameB
 rw [Bool.and_eq_left_iff_imp]
 intro _
 rw [List.all_eq_true]
 intro j hj
 have hj' : j < s.size := by simpa using hj
 have := h j hj'
 unfold nmB at this
 rwa [show s.get! j = s[j]'hj' from by simp [ByteArray.get!, hj']; rfl] 
theorem nameB_bad {s : ByteArray} {j : Nat} (hj : j < s.size) (h : nmB j (s[j]'hj).toNat = false) : nameB s = false := by
 unfold nameB
 rw [Bool.eq_false_iff]
 intro hx
 rw [Bool.and_eq_true, List.all_eq_true] at hx
 have := hx.2 j (by simpa using hj)
 rw [show s.get! j = s[j]'hj from by simp [ByteArray.get!, hj]; rfl] at this
 unfold nmB at h
 rw [this] at h
 cases h

theorem rname_any (w : World) (s : ByteArray) (hs : s.size ≤ 9223372036854775807) : Calls Try.prog 35 #[.string s] w fun e w' => e = .returned (.bool (nameB s)) ∧ Below w.heap.size w w' := by
 go_enter Try.func35, Try.ntmps35
 go_wp2_with fail
 go_loopw [3, 4, 5] (fun i c l wr => ∃ k : Nat, k ≤ s.size ∧ i = .int .i64 k ∧ Hid (Below w.heap.size w wr) ∧ Hid (∀ j, j < k → (hj : j < s.size) → nmB j (s[j]'hj).toNat = true)) (fun i _ _ _ => s.size - (intOf i).toNat)
 case atStart => exact ⟨0, by omega, rfl, Below.refl _ _, fun i h => absurd h (by omega)⟩
 case round =>
  obtain ⟨k, hk, rfl, HI, HQ⟩ := hrel
  by_cases hlt : k < s.size
  ·have hlt' : (k : Int) < s.size := by omega
   have hkz : (0 : Int) ≤ k := by omega
   have hc : (s[k]'hlt).toNat < 256 := UInt8.toNat_lt _
   have HBad := Lib.hid (fun h => nameB_bad (s := s) hlt h)
   have HOk := Lib.hid (fun (h : nmB k (s[k]'hlt).toNat = true) => (fun j hj hj' => by
    by_cases e : j = k
    ·subst e; exact h
    ·exact HQ.out j (by omega) hj' : ∀ j, j < k + 1 → (hj : j < s.size) → nmB j (s[j]'hj).toNat = true))
   have hgd : s.data[k]? = some (s[k]'hlt) := by simp [hlt]; rfl
   go_upto_region 5 with (fail)
   clear hgd
   generalize (s[k]'hlt).toNat = c at *
   have hcl : (0 ≤ c ∧ c ≤ 47) ∨ (48 ≤ c ∧ c ≤ 57) ∨ (58 ≤ c ∧ c ≤ 64) ∨ (65 ≤ c ∧ c ≤ 90) ∨ (91 ≤ c ∧ c ≤ 94) ∨ (95 ≤ c ∧ c ≤ 95) ∨ (96 ≤ c ∧ c ≤ 96) ∨ (97 ≤ c ∧ c ≤ 122) ∨ (123 ≤ c ∧ c ≤ 255) := by omega
   rcases hcl with ⟨hl1, hl2⟩ | ⟨hl1, hl2⟩ | ⟨hl1, hl2⟩ | ⟨hl1, hl2⟩ | ⟨hl1, hl2⟩ | ⟨hl1, hl2⟩ | ⟨hl1, hl2⟩ | ⟨hl1, hl2⟩ | ⟨hl1, hl2⟩
   ·have f1 : (c : Int) < 97 := by omega
    have f2 : (c : Int) ≤ 122 := by omega
    have f3 : (c : Int) < 65 := by omega
    have f4 : (c : Int) ≤ 90 := by omega
    have f5 : ((c : Int) == 95) = false := by simp; omega
    have f6 : (c : Int) < 48 := by omega
    have f7 : (c : Int) ≤ 57 := by omega
    by_cases hk0 : k = 0
    ·have g0 : ((k : Int) == 0) = true := by simp; omega
     have HRes := Lib.hid (HBad.out (by unfold nmB letB digB; simp; omega))
     clear HOk HBad hl1 hl2
     go_wp2_with fail
     exact bodyPost_ret (v := .bool false) (by simp [results, Try.results35, go_sem]) rfl ⟨ret_bool HRes.out.symm, HI.out⟩
     all_goals (exfalso; rename_i hx; simp at hx; omega)
    ·have g0 : ((k : Int) == 0) = false := by simp; omega
     have HRes := Lib.hid (HBad.out (by unfold nmB letB digB; simp; omega))
     clear HOk HBad hl1 hl2
     go_wp2_with fail
     exact bodyPost_ret (v := .bool false) (by simp [results, Try.results35, go_sem]) rfl ⟨ret_bool HRes.out.symm, HI.out⟩
     all_goals (exfalso; rename_i hx; simp at hx; omega)
   ·have f1 : (c : Int) < 97 := by omega
    have f2 : (c : Int) ≤ 122 := by omega
    have f3 : (c : Int) < 65 := by omega
    have f4 : (c : Int) ≤ 90 := by omega
    have f5 : ((c : Int) == 95) = false := by simp; omega
    have f6 : (48 : Int) ≤ c := by omega
    have f7 : (c : Int) ≤ 57 := by omega
    by_cases hk0 : k = 0
    ·have g0 : ((k : Int) == 0) = true := by simp; omega
     have HRes := Lib.hid (HBad.out (by unfold nmB letB digB; simp; omega))
     clear HOk HBad hl1 hl2
     go_wp2_with fail
     exact bodyPost_ret (v := .bool false) (by simp [results, Try.results35, go_sem]) rfl ⟨ret_bool HRes.out.symm, HI.out⟩
     all_goals (exfalso; rename_i hx; simp at hx; omega)
    ·have g0 : ((k : Int) == 0) = false := by simp; omega
     have HRes := Lib.hid (HOk.out (by unfold nmB letB digB; simp; omega))
     clear HOk HBad hl1 hl2
     go_wp2_with fail
     go_roundw
     case rel => exact ⟨k + 1, by omega, by go_num, HI.out, HRes.out⟩
     case measure => simp [intOf]; omega
   ·have f1 : (c : Int) < 97 := by omega
    have f2 : (c : Int) ≤ 122 := by omega
    have f3 : (c : Int) < 65 := by omega
    have f4 : (c : Int) ≤ 90 := by omega
    have f5 : ((c : Int) == 95) = false := by simp; omega
    have f6 : (48 : Int) ≤ c := by omega
    have f7 : (57 : Int) < c := by omega
    by_cases hk0 : k = 0
    ·have g0 : ((k : Int) == 0) = true := by simp; omega
     have HRes := Lib.hid (HBad.out (by unfold nmB letB digB; simp; omega))
     clear HOk HBad hl1 hl2
     go_wp2_with fail
     exact bodyPost_ret (v := .bool false) (by simp [results, Try.results35, go_sem]) rfl ⟨ret_bool HRes.out.symm, HI.out⟩
     all_goals (exfalso; rename_i hx; simp at hx; omega)
    ·have g0 : ((k : Int) == 0) = false := by simp; omega
     have HRes := Lib.hid (HBad.out (by unfold nmB letB digB; simp; omega))
     clear HOk HBad hl1 hl2
     go_wp2_with fail
     exact bodyPost_ret (v := .bool false) (by simp [results, Try.results35, go_sem]) rfl ⟨ret_bool HRes.out.symm, HI.out⟩
     all_goals (exfalso; rename_i hx; simp at hx; omega)
   ·have f1 : (c : Int) < 97 := by omega
    have f2 : (c : Int) ≤ 122 := by omega
    have f3 : (65 : Int) ≤ c := by omega
    have f4 : (c : Int) ≤ 90 := by omega
    have f5 : ((c : Int) == 95) = false := by simp; omega
    have f6 : (48 : Int) ≤ c := by omega
    have f7 : (57 : Int) < c := by omega
    have HRes := Lib.hid (HOk.out (by unfold nmB letB digB; simp; omega))
    clear HOk HBad hl1 hl2
    go_wp2_with fail
    go_roundw
    case rel => exact ⟨k + 1, by omega, by go_num, HI.out, HRes.out⟩
    case measure => simp [intOf]; omega
   ·have f1 : (c : Int) < 97 := by omega
    have f2 : (c : Int) ≤ 122 := by omega
    have f3 : (65 : Int) ≤ c := by omega
    have f4 : (90 : Int) < c := by omega
    have f5 : ((c : Int) == 95) = false := by simp; omega
    have f6 : (48 : Int) ≤ c := by omega
    have f7 : (57 : Int) < c := by omega
    by_cases hk0 : k = 0
    ·have g0 : ((k : Int) == 0) = true := by simp; omega
     have HRes := Lib.hid (HBad.out (by unfold nmB letB digB; simp; omega))
     clear HOk HBad hl1 hl2
     go_wp2_with fail
     exact bodyPost_ret (v := .bool false) (by simp [results, Try.results35, go_sem]) rfl ⟨ret_bool HRes.out.symm, HI.out⟩
     all_goals (exfalso; rename_i hx; simp at hx; omega)
    ·have g0 : ((k : Int) == 0) = false := by simp; omega
     have HRes := Lib.hid (HBad.out (by unfold nmB letB digB; simp; omega))
     clear HOk HBad hl1 hl2
     go_wp2_with fail
     exact bodyPost_ret (v := .bool false) (by simp [results, Try.results35, go_sem]) rfl ⟨ret_bool HRes.out.symm, HI.out⟩
     all_goals (exfalso; rename_i hx; simp at hx; omega)
   ·have f1 : (c : Int) < 97 := by omega
    have f2 : (c : Int) ≤ 122 := by omega
    have f3 : (65 : Int) ≤ c := by omega
    have f4 : (90 : Int) < c := by omega
    have f5 : ((c : Int) == 95) = true := by simp; omega
    have f6 : (48 : Int) ≤ c := by omega
    have f7 : (57 : Int) < c := by omega
    have HRes := Lib.hid (HOk.out (by unfold nmB letB digB; simp; omega))
    clear HOk HBad hl1 hl2
    go_wp2_with fail
    go_roundw
    case rel => exact ⟨k + 1, by omega, by go_num, HI.out, HRes.out⟩
    case measure => simp [intOf]; omega
   ·have f1 : (c : Int) < 97 := by omega
    have f2 : (c : Int) ≤ 122 := by omega
    have f3 : (65 : Int) ≤ c := by omega
    have f4 : (90 : Int) < c := by omega
    have f5 : ((c : Int) == 95) = false := by simp; omega
    have f6 : (48 : Int) ≤ c := by omega
    have f7 : (57 : Int) < c := by omega
    by_cases hk0 : k = 0
    ·have g0 : ((k : Int) == 0) = true := by simp; omega
     have HRes := Lib.hid (HBad.out (by unfold nmB letB digB; simp; omega))
     clear HOk HBad hl1 hl2
     go_wp2_with fail
     exact bodyPost_ret (v := .bool false) (by simp [results, Try.results35, go_sem]) rfl ⟨ret_bool HRes.out.symm, HI.out⟩
     all_goals (exfalso; rename_i hx; simp at hx; omega)
    ·have g0 : ((k : Int) == 0) = false := by simp; omega
     have HRes := Lib.hid (HBad.out (by unfold nmB letB digB; simp; omega))
     clear HOk HBad hl1 hl2
     go_wp2_with fail
     exact bodyPost_ret (v := .bool false) (by simp [results, Try.results35, go_sem]) rfl ⟨ret_bool HRes.out.symm, HI.out⟩
     all_goals (exfalso; rename_i hx; simp at hx; omega)
   ·have f1 : (97 : Int) ≤ c := by omega
    have f2 : (c : Int) ≤ 122 := by omega
    have f3 : (65 : Int) ≤ c := by omega
    have f4 : (90 : Int) < c := by omega
    have f5 : ((c : Int) == 95) = false := by simp; omega
    have f6 : (48 : Int) ≤ c := by omega
    have f7 : (57 : Int) < c := by omega
    have HRes := Lib.hid (HOk.out (by unfold nmB letB digB; simp; omega))
    clear HOk HBad hl1 hl2
    go_wp2_with fail
    go_roundw
    case rel => exact ⟨k + 1, by omega, by go_num, HI.out, HRes.out⟩
    case measure => simp [intOf]; omega
   ·have f1 : (97 : Int) ≤ c := by omega
    have f2 : (122 : Int) < c := by omega
    have f3 : (65 : Int) ≤ c := by omega
    have f4 : (90 : Int) < c := by omega
    have f5 : ((c : Int) == 95) = false := by simp; omega
    have f6 : (48 : Int) ≤ c := by omega
    have f7 : (57 : Int) < c := by omega
    by_cases hk0 : k = 0
    ·have g0 : ((k : Int) == 0) = true := by simp; omega
     have HRes := Lib.hid (HBad.out (by unfold nmB letB digB; simp; omega))
     clear HOk HBad hl1 hl2
     go_wp2_with fail
     exact bodyPost_ret (v := .bool false) (by simp [results, Try.results35, go_sem]) rfl ⟨ret_bool HRes.out.symm, HI.out⟩
     all_goals (exfalso; rename_i hx; simp at hx; omega)
    ·have g0 : ((k : Int) == 0) = false := by simp; omega
     have HRes := Lib.hid (HBad.out (by unfold nmB letB digB; simp; omega))
     clear HOk HBad hl1 hl2
     go_wp2_with fail
     exact bodyPost_ret (v := .bool false) (by simp [results, Try.results35, go_sem]) rfl ⟨ret_bool HRes.out.symm, HI.out⟩
     all_goals (exfalso; rename_i hx; simp at hx; omega)
  ·have HAll := Lib.hid (nameB_all (fun j hj => HQ.out j (by omega) hj))
   by_cases h1 : 1 ≤ s.size
   ·have h1' : (1 : Int) ≤ s.size := by omega
    have hge : (s.size : Int) ≤ k := by omega
    have HRes : Hid (nameB s = decide ((s.size : Int) ≤ 32)) := by
     show _ = _
     rw [HAll.out, Bool.eq_iff_iff]; simp; omega
    go_wp2_with fail
    exact bodyPost_ret (v := .bool (decide ((s.size : Int) ≤ 32))) (by simp [results, Try.results35, go_sem]) rfl ⟨ret_bool HRes.out.symm, HI.out⟩
   ·have h1' : s.size = 0 := by omega
    have HF := Lib.hid (show nameB s = false by rw [HAll.out, h1']; rfl)
    have hge : (s.size : Int) ≤ k := by omega
    have hge0 : (0 : Int) ≤ k := by omega
    go_wp2_with fail
    exact bodyPost_ret (v := .bool false) (by simp [results, Try.results35, go_sem]) rfl ⟨ret_bool HF.out.symm, HI.out⟩
end Go.Proofs.Ytdnkffplkleolaa
