/- Walks and plain laws: Lt Ln Lr Ls. -/
import Derived.Test.YthfefbmkgebmkaaGreatDoorT11
import Derived.Test.YthfefbmkgebmkaaGreatDoorM09
import Derived.Test.YthfefbmkgebmkaaGreatDoorM12
import Derived.Deep.CutRange
namespace Go.Proofs.YthfefbmkgebmkaaGreatDoor
open Go.RowKit
set_option maxRecDepth 100000
set_option maxHeartbeats 16000000

theorem same_any (w : World) (ro1 no1 ao1 bo1 co1 : Option Addr) (rc1 nc1 ac1 bc1 cc1 : Nat) (NK1 : List Nk) (ro2 no2 ao2 bo2 co2 : Option Addr) (rc2 nc2 ac2 bc2 cc2 : Nat) (NK2 : List Nk) (R : List Rr) (N : List Rn)
  (hG1 : GrW w ro1 R.length rc1 no1 N.length nc1 NK1 ⟨R.map Rr.ru, N.map Rn.nd⟩) (hra1 : Sv w ao1 R.length ac1 1 (inc (R.map fun r => (r.at_ : Int)))) (hna1 : Sv w bo1 N.length bc1 1 (inc (N.map fun x => (x.at_ : Int)))) (hnm1 : Sv w co1 N.length cc1 1 ((N.map fun x => tx x.nm).map Value.string))
  (hG2 : GrW w ro2 R.length rc2 no2 N.length nc2 NK2 ⟨R.map Rr.ru, N.map Rn.nd⟩) (hra2 : Sv w ao2 R.length ac2 1 (inc (R.map fun r => (r.at_ : Int)))) (hna2 : Sv w bo2 N.length bc2 1 (inc (N.map fun x => (x.at_ : Int)))) (hnm2 : Sv w co2 N.length cc2 1 ((N.map fun x => tx x.nm).map Value.string)) :
  Calls Tryz.prog 29 #[.agg #[.slice ro1 R.length rc1, .slice no1 N.length nc1, .slice ao1 R.length ac1, .slice bo1 N.length bc1, .slice co1 N.length cc1], .agg #[.slice ro2 R.length rc2, .slice no2 N.length nc2, .slice ao2 R.length ac2, .slice bo2 N.length bc2, .slice co2 N.length cc2]] w fun e w' => e = .returned (.bool true) ∧ Below w.heap.size w w' := by
 obtain ⟨g, hg0⟩ : ∃ g, w.heap.size = g := ⟨_, rfl⟩
 obtain ⟨z, hz, z1, z2, zb⟩ := two_blocks w g hg0 #[.slice ro1 R.length rc1, .slice no1 N.length nc1, .slice ao1 R.length ac1, .slice bo1 N.length bc1, .slice co1 N.length cc1] #[.slice ro2 R.length rc2, .slice no2 N.length nc2, .slice ao2 R.length ac2, .slice bo2 N.length bc2, .slice co2 N.length cc2] 30 78
 have HI : Hid ((TrX 30 g ro1 no1 ao1 bo1 co1 rc1 nc1 ac1 bc1 cc1 NK1 R N) z ∧ (TrX 78 (g + 1) ro2 no2 ao2 bo2 co2 rc2 nc2 ac2 bc2 cc2 NK2 R N) z ∧ Below w.heap.size w z) := ⟨⟨z1, hG1.below zb, hra1.below zb, hna1.below zb, hnm1.below zb⟩, ⟨z2, hG2.below zb, hra2.below zb, hna2.below zb, hnm2.below zb⟩, zb⟩
 have HZ := Lib.hid hz; have HG0 := Lib.hid hg0
 have b1 := hG1.rul.bound; have b2 := hG1.nod.sv.bound; have b3 := hra1.bound; have b4 := hna1.bound; have b5 := hnm1.bound
 have b6 := hG2.rul.bound; have b7 := hG2.nod.sv.bound; have b8 := hra2.bound; have b9 := hna2.bound; have b10 := hnm2.bound
 clear hG1 hra1 hna1 hnm1 hG2 hra2 hna2 hnm2 hz hg0 z1 z2 zb
 go_enter Tryz.func29, Tryz.ntmps29
 go_upto_region 1 with (fail)
 rw [HZ.out, HG0.out]
 have k0 := HI.out.1.tr.cell 0; have k1 := HI.out.1.tr.cell 1; have m0 := HI.out.2.1.tr.cell 0; have m1 := HI.out.2.1.tr.cell 1
 go_wp2_with fail
 refine (sameGr_any z ro2 no2 ro1 no1 R.length rc2 N.length nc2 rc1 nc1 NK2 NK1 _ HI.out.2.1.gr HI.out.1.gr).mono ?_
 rintro e w1 ⟨rfl, hb⟩
 have HI1 := Lib.hid (⟨HI.out.1.below hb, HI.out.2.1.below hb, HI.out.2.2.trans (hb.mono HI.out.2.2.size)⟩ : _ ∧ _ ∧ _)
 clear hb HI k0 k1 m0 m1 HZ
 have k0 := HI1.out.1.tr.cell 2; have m0 := HI1.out.2.1.tr.cell 2
 go_wp2_with fail
 refine (sameIn_any w1 ao1 ao2 R.length ac1 ac2 _ HI1.out.1.ra HI1.out.2.1.ra).mono ?_
 rintro e w2 ⟨rfl, hb⟩
 have HI2 := Lib.hid (⟨HI1.out.1.below hb, HI1.out.2.1.below hb, HI1.out.2.2.trans (hb.mono HI1.out.2.2.size)⟩ : _ ∧ _ ∧ _)
 clear hb HI1 k0 m0
 have k0 := HI2.out.1.tr.cell 3; have m0 := HI2.out.2.1.tr.cell 3
 go_wp2_with fail
 refine (sameIn_any w2 bo1 bo2 N.length bc1 bc2 _ HI2.out.1.na HI2.out.2.1.na).mono ?_
 rintro e w3 ⟨rfl, hb⟩
 have HI3 := Lib.hid (⟨HI2.out.1.below hb, HI2.out.2.1.below hb, HI2.out.2.2.trans (hb.mono HI2.out.2.2.size)⟩ : _ ∧ _ ∧ _)
 clear hb HI2 k0 m0
 have k0 := HI3.out.1.tr.cell 4; have m0 := HI3.out.2.1.tr.cell 4
 go_upto_region 4 with (fail)
 clear k0 m0
 go_loopw [5] (fun t5 wr => ∃ k : Nat, k ≤ N.length ∧ t5 = .int .i64 k ∧ Hid ((TrX 30 g ro1 no1 ao1 bo1 co1 rc1 nc1 ac1 bc1 cc1 NK1 R N) wr ∧ (TrX 78 (g + 1) ro2 no2 ao2 bo2 co2 rc2 nc2 ac2 bc2 cc2 NK2 R N) wr ∧ Below w.heap.size w wr)) (fun t5 _ => N.length - (intOf t5).toNat)
 case atStart => exact ⟨0, Nat.zero_le _, by go_num, HI3.out⟩
 case round =>
  clear HI3
  obtain ⟨k, hk, rfl, HJ⟩ := hrel
  have k4 := HJ.out.1.tr.cell 4
  by_cases hlt : k < N.length
  ·have hltI : (k : Int) < N.length := by omega
   obtain ⟨p1, rfl, n1⟩ := HJ.out.1.nnm hlt
   obtain ⟨p2, rfl, n2⟩ := HJ.out.2.1.nnm hlt
   obtain ⟨Y, hY⟩ : ∃ Y, tx N[k].nm = Y := ⟨_, rfl⟩
   rw [hY] at n1 n2
   have k4 := HJ.out.1.tr.cell 4; have m4 := HJ.out.2.1.tr.cell 4
   clear hY
   go_upto_region 6 with (fail)
   refine wp_region_quiet_lit (by kernel_rfl) (by kernel_rfl) ?_
   repeat (go_big_quiet_step (fail))
   refine wpQuiet_nil ?_
   intro _ hw'
   obtain ⟨nq, hw''⟩ := hw'
   subst hw''
   go_wp2_with fail
   go_roundw
   case rel => exact ⟨k + 1, hlt, by go_num, HJ.out.1.below (below_drewN (Below.refl _ _) _), HJ.out.2.1.below (below_drewN (Below.refl _ _) _), HJ.out.2.2.trans (below_drewN (Below.refl _ _) _ |>.mono HJ.out.2.2.size)⟩
   case measure => first | (simp [intOf]; done) | (simp [intOf]; omega)
  ·have hltI : ¬ (k : Int) < N.length := by omega
   have HBF := Lib.hid HJ.out.2.2
   clear HJ
   go_wp2_with fail
   go_ret
   exact ⟨rfl, HBF.out⟩
end Go.Proofs.YthfefbmkgebmkaaGreatDoor
namespace Go.Proofs.YthfefbmkgebmkaaGreatDoor
open Go.RowKit
set_option maxRecDepth 100000
set_option maxHeartbeats 8000000

theorem rheight_any (ro no so bo co : Option Addr) (rc nc sc bc cc : Nat) (NK : List Nk) (R : List Rr) (N : List Rn) (hup : KidsUp N) (hn : N.length ≤ 40000) : ∀ (d n : Nat), n < N.length → N.length ≤ d + n → ∀ w, GrW w ro R.length rc no N.length nc NK ⟨R.map Rr.ru, N.map Rn.nd⟩ →
  Calls Tryz.prog 61 #[.agg #[.slice ro R.length rc, .slice no N.length nc, .slice so R.length sc, .slice bo N.length bc, .slice co N.length cc], .int .i64 n] w fun e w' => e = .returned (.int .i64 (hg N n)) ∧ Below w.heap.size w w'
 | 0, n, h1, h2, w, hG => by omega
 | d + 1, n, h1, h2, w, hG => by
  have HG := Lib.hid hG; have HUP := Lib.hid hup; have HN := Lib.hid hn
  have hbN := hG.nod.sv.bound
  obtain ⟨a, ko, kc, rfl, hkk⟩ := gr_kids hG h1
  have hku := hup n h1
  have hfold := hg_eq hup n h1
  have HLE := Lib.hid (hg_le hup n h1)
  obtain ⟨X, hX⟩ : ∃ X, N[n] = X := ⟨_, rfl⟩
  rw [hX] at hku hfold
  simp only [hX] at hkk
  have HIH := Lib.hid (fun (q : Nat) (hq : q ∈ X.kids) (wx : World) (hb : Below w.heap.size w wx) => rheight_any ro (some a) so bo co rc nc sc bc cc NK R N hup hn d q (hku q hq).2 (by have := (hku q hq).1; omega) wx (hG.below hb))
  have HKu := Lib.hid hku; have HKK := Lib.hid hkk; have HFO := Lib.hid hfold
  have hnI : (n : Int) < N.length := by omega
  have hkb := (hkk w (Below.refl _ _)).2.bound
  clear hG hup hn hku hkk hfold hX h1 h2
  go_enter Tryz.func61, Tryz.ntmps61
  go_upto_region 3 with (fail)
  have hT := hrow.new w #[.slice ro R.length rc, .slice (some a) N.length nc, .slice so R.length sc, .slice bo N.length bc, .slice co N.length cc] 78
  have hbl := (Below.refl w.heap.size w).alloc (Nat.le_refl _) (.cells #[.slice ro R.length rc, .slice (some a) N.length nc, .slice so R.length sc, .slice bo N.length bc, .slice co N.length cc] 78)
  have HI : Hid (hrow (w.alloc (.cells #[.slice ro R.length rc, .slice (some a) N.length nc, .slice so R.length sc, .slice bo N.length bc, .slice co N.length cc] 78)) w.heap.size #[.slice ro R.length rc, .slice (some a) N.length nc, .slice so R.length sc, .slice bo N.length bc, .slice co N.length cc] 78 ∧ Below w.heap.size w (w.alloc (.cells #[.slice ro R.length rc, .slice (some a) N.length nc, .slice so R.length sc, .slice bo N.length bc, .slice co N.length cc] 78))) := ⟨hT, hbl⟩
  clear hT hbl
  generalize w.alloc (.cells #[.slice ro R.length rc, .slice (some a) N.length nc, .slice so R.length sc, .slice bo N.length bc, .slice co N.length cc] 78) = w1 at *
  obtain ⟨g, hg0⟩ : ∃ g, w.heap.size = g := ⟨_, rfl⟩
  rw [hg0]
  have HGG := Lib.hid hg0
  rw [hg0] at HI
  clear hg0
  go_loopw [5, 6] (fun t5 t6 wr => ∃ j : Nat, j ≤ X.kids.length ∧ t6 = .int .i64 j ∧ t5 = .int .i64 (((X.kids.take j).map (hg N)).foldl max 0 : Nat) ∧ Hid (hrow wr g #[.slice ro R.length rc, .slice (some a) N.length nc, .slice so R.length sc, .slice bo N.length bc, .slice co N.length cc] 78 ∧ Below w.heap.size w wr)) (fun _ t6 _ => X.kids.length - (intOf t6).toNat)
  case atStart => exact ⟨0, Nat.zero_le _, by go_num, by go_num, HI.out.1, by rw [HGG.out]; exact HI.out.2⟩
  case round =>
   clear HI
   obtain ⟨j, hj, rfl, rfl, HJ⟩ := hrel
   have t1 := HJ.out.1.cell 1
   have n8 := (HKK.out wr HJ.out.2).1
   by_cases hlt : j < X.kids.length
   ·have hltI : (j : Int) < X.kids.length := by omega
    obtain ⟨ka, rfl, k5⟩ := (HKK.out wr HJ.out.2).2.intc j (by simpa using hlt)
    rw [← bt_get (by simpa using hlt)] at k5
    simp only [List.getElem_map] at k5
    have hq0 : X.kids[j] ∈ X.kids := List.getElem_mem _
    have hst : ((X.kids.take (j + 1)).map (hg N)).foldl max 0 = max (((X.kids.take j).map (hg N)).foldl max 0) (hg N X.kids[j]) := by rw [← List.take_append_getElem hlt, List.map_append, List.foldl_append]; rfl
    have HST := Lib.hid hst
    obtain ⟨q, hq⟩ : ∃ q, X.kids[j] = q := ⟨_, rfl⟩
    have HCq : Hid (∀ x : Later wr, Calls Tryz.prog 61 #[.agg #[.slice ro R.length rc, .slice (some a) N.length nc, .slice so R.length sc, .slice bo N.length bc, .slice co N.length cc], .int .i64 q] x.val fun e w' => e = .returned (.int .i64 (hg N q)) ∧ ∃ y : Later wr, w' = y.val) := fun x => Calls.later (by
     have := HIH.out X.kids[j] hq0 x.val (HJ.out.2.trans (x.ok.mono HJ.out.2.size))
     rw [hq] at this
     exact this)
    rw [hq] at k5 HST
    generalize ((X.kids.take j).map (hg N)).foldl max 0 = A0 at *
    obtain ⟨H, hH⟩ : ∃ H, hg N q = H := ⟨_, rfl⟩
    rw [hH] at HCq HST
    go_upto_region 5 with (fail)
    have u0 : ∀ x : Later wr, x.val.cell? ⟨g, 0, none⟩ = some (.slice ro R.length rc) := fun x => (HJ.out.1.below x.ok).cell 0
    have u1 : ∀ x : Later wr, x.val.cell? ⟨g, 1, none⟩ = some (.slice (some a) N.length nc) := fun x => (HJ.out.1.below x.ok).cell 1
    have u2 : ∀ x : Later wr, x.val.cell? ⟨g, 2, none⟩ = some (.slice so R.length sc) := fun x => (HJ.out.1.below x.ok).cell 2
    have u3 : ∀ x : Later wr, x.val.cell? ⟨g, 3, none⟩ = some (.slice bo N.length bc) := fun x => (HJ.out.1.below x.ok).cell 3
    have u4 : ∀ x : Later wr, x.val.cell? ⟨g, 4, none⟩ = some (.slice co N.length cc) := fun x => (HJ.out.1.below x.ok).cell 4
    have u8 : ∀ x : Later wr, x.val.cell? ⟨(a.add (n * 9)).block, (a.add (n * 9)).off + 8, none⟩ = some (.slice (some ka) X.kids.length kc) := fun x => (HKK.out x.val (HJ.out.2.trans (x.ok.mono HJ.out.2.size))).1
    have uk : ∀ x : Later wr, x.val.cell? (ka.add j) = some (.int .i64 q) := fun x => (x.ok.cell (World.block_lt_of_cell? wr _ k5)).trans k5
    clear t1 n8 k5 hq hH hst hq0
    refine wp_region_later (by kernel_rfl) (by kernel_rfl) ?_
    repeat (go_big_quiet_step ((go_at_call 61; with_reducible exact HCq.out _)))
    refine wpQuiet_nil ?_
    intro w5 hw5
    obtain ⟨y, rfl⟩ := hw5
    have HJ5 := Lib.hid (⟨HJ.out.1.below y.ok, HJ.out.2.trans (y.ok.mono HJ.out.2.size)⟩ : _ ∧ _)
    clear u0 u1 u2 u3 u4 u8 uk HCq HJ
    generalize y.val = w6 at *
    clear y
    go_wp2_with fail
    go_roundw
    case rel => exact ⟨j + 1, hlt, by go_num, by rw [HST.out]; congr 2; omega, HJ5.out⟩
    case measure => first | (simp [intOf]; done) | (simp [intOf]; omega)
   ·have hltI : ¬ (j : Int) < X.kids.length := by omega
    have hfo := HFO.out
    rw [List.take_of_length_le (by omega)]
    have HBF := Lib.hid HJ.out.2
    generalize hA0 : (X.kids.map (hg N)).foldl max 0 = A0 at *
    have HR := Lib.hid hfo
    have hAI : (A0 : Int) ≤ 40000 := by have := HLE.out; have := HN.out; omega
    clear hfo HJ hA0
    go_wp2_with fail
    go_ret
    exact ⟨by rw [HR.out, Int.natCast_add]; rfl, HBF.out⟩
end Go.Proofs.YthfefbmkgebmkaaGreatDoor
namespace Go.Proofs.YthfefbmkgebmkaaGreatDoor

mutual
def LfP : Pt → Prop
 | .mk k _ _ _ _ _ ks => ((k = 3 ∨ k = 4 ∨ k = 5) → ks = []) ∧ LfL ks
def LfL : List Pt → Prop
 | [] => True
 | p :: ps => LfP p ∧ LfL ps
end
theorem lfL_nil : LfL [] := by unfold LfL; trivial
theorem lfL_one {p : Pt} (h : LfP p) : LfL [p] := by unfold LfL; exact ⟨h, lfL_nil⟩
theorem lfL_app : ∀ (a b : List Pt), LfL a → LfL b → LfL (a ++ b)
 | [], b, _, h => h
 | p :: a, b, h, hb => by
  unfold LfL at h
  show LfL (p :: (a ++ b))
  unfold LfL
  exact ⟨h.1, lfL_app a b h.2 hb⟩
theorem lf_leaf (k : Nat) (cl : List (UInt8 × UInt8)) (t : List UInt8) (lv : Int) (a : Nat) (nm : List UInt8) : LfP (.mk k cl t lv a nm []) := by
 unfold LfP; exact ⟨fun _ => rfl, lfL_nil⟩
theorem lf_grp {k : Nat} (hk : k = 6 ∨ k = 7) : ∀ (l : List Pt), LfL l → LfP (grp k l)
 | [], h => by unfold grp LfP; exact ⟨fun e => by omega, h⟩
 | [p], h => by unfold LfL at h; exact h.1
 | p :: q :: r, h => by show LfP (.mk k [] [] 0 p.at_ [] (p :: q :: r)); unfold LfP; exact ⟨fun e => by omega, h⟩
theorem lf_ovr {k a : Nat} {p : Pt} (hk : 8 ≤ k) (h : LfP p) : LfP (ovr k a p) := by
 unfold ovr LfP; exact ⟨fun e => by omega, lfL_one h⟩
theorem lf_suf {L : List Wd} : ∀ (f : Nat) (p : Pt) (i : Nat), LfP p → LfP (sufF L f p i).1
 | 0, p, i, hp => hp
 | f + 1, p, i, hp => by
  unfold sufF
  split
  ·exact lf_suf f _ _ (lf_ovr (by omega) hp)
  ·split
   ·exact lf_suf f _ _ (lf_ovr (by omega) hp)
   ·split
    ·exact lf_suf f _ _ (lf_ovr (by omega) hp)
    ·exact hp
theorem prs_lf {L : List Wd} : ∀ (f : Nat) (m : Md) (acc : List Pt) (i d : Nat) (p : Pt) (j : Nat), prs L f m acc i d = some (.ok p j) → LfL acc → LfP p
 | 0, m, acc, i, d, p, j, e, _ => by simp [prs] at e
 | f + 1, .alt, acc, i, d, p, j, e, _ => by
  simp only [prs] at e
  cases hq : prs L f .seq [] i d with
  | none => rw [hq] at e; cases e
  | some r =>
   rw [hq] at e
   cases r with
   | err a b => cases e
   | ok q k => exact prs_lf f .altM [q] k d p j e (lfL_one (prs_lf f .seq [] i d q k hq lfL_nil))
 | f + 1, .altM, acc, i, d, p, j, e, ha => by
  simp only [prs] at e
  by_cases hh : hereW L i [47] = true
  ·rw [if_pos hh] at e
   cases hq : prs L f .seq [] (i + 1) d with
   | none => rw [hq] at e; cases e
   | some r =>
    rw [hq] at e
    cases r with
    | err a b => cases e
    | ok q k => exact prs_lf f .altM (acc ++ [q]) k d p j e (lfL_app _ _ ha (lfL_one (prs_lf f .seq [] (i + 1) d q k hq lfL_nil)))
  ·rw [if_neg hh] at e
   simp only [Option.some.injEq, Rs.ok.injEq] at e
   rw [← e.1]
   exact lf_grp (.inr rfl) _ ha
 | f + 1, .seq, acc, i, d, p, j, e, _ => by
  simp only [prs] at e
  cases hq : prs L f .item [] i d with
  | none => rw [hq] at e; cases e
  | some r =>
   rw [hq] at e
   cases r with
   | err a b => cases e
   | ok q k => exact prs_lf f .seqM [q] k d p j e (lfL_one (prs_lf f .item [] i d q k hq lfL_nil))
 | f + 1, .seqM, acc, i, d, p, j, e, ha => by
  simp only [prs] at e
  by_cases hh : goesW L i = true
  ·rw [if_pos hh] at e
   cases hq : prs L f .item [] i d with
   | none => rw [hq] at e; cases e
   | some r =>
    rw [hq] at e
    cases r with
    | err a b => cases e
    | ok q k => exact prs_lf f .seqM (acc ++ [q]) k d p j e (lfL_app _ _ ha (lfL_one (prs_lf f .item [] i d q k hq lfL_nil)))
  ·rw [if_neg hh] at e
   simp only [Option.some.injEq, Rs.ok.injEq] at e
   rw [← e.1]
   exact lf_grp (.inl rfl) _ ha
 | f + 1, .item, acc, i, d, p, j, e, _ => by
  simp only [prs] at e
  by_cases h1 : hereW L i [33] = true
  ·rw [if_pos h1] at e
   cases hq : prs L f .item [] (i + 1) d with
   | none => rw [hq] at e; cases e
   | some r =>
    rw [hq] at e
    cases r with
    | err a b => cases e
    | ok q k =>
     simp only [Option.some.injEq, Rs.ok.injEq] at e
     rw [← e.1]
     exact lf_ovr (by omega) (prs_lf f .item [] (i + 1) d q k hq lfL_nil)
  ·rw [if_neg h1] at e
   by_cases h2 : hereW L i [38] = true
   ·rw [if_pos h2] at e
    cases hq : prs L f .item [] (i + 1) d with
    | none => rw [hq] at e; cases e
    | some r =>
     rw [hq] at e
     cases r with
     | err a b => cases e
     | ok q k =>
      simp only [Option.some.injEq, Rs.ok.injEq] at e
      rw [← e.1]
      exact lf_ovr (by omega) (prs_lf f .item [] (i + 1) d q k hq lfL_nil)
   ·rw [if_neg h2] at e
    cases hq : prs L f .prim [] i d with
    | none => rw [hq] at e; cases e
    | some r =>
     rw [hq] at e
     cases r with
     | err a b => cases e
     | ok q k =>
      simp only [Option.some.injEq, Rs.ok.injEq] at e
      rw [← e.1]
      exact lf_suf _ _ _ (prs_lf f .prim [] i d q k hq lfL_nil)
 | f + 1, .prim, acc, i, d, p, j, e, _ => by
  simp only [prs] at e
  split at e
  ·simp only [Option.some.injEq, Rs.ok.injEq] at e; rw [← e.1]; exact lf_leaf ..
  ·split at e
   ·simp only [Option.some.injEq, Rs.ok.injEq] at e; rw [← e.1]; exact lf_leaf ..
   ·split at e
    ·simp only [Option.some.injEq, Rs.ok.injEq] at e; rw [← e.1]; exact lf_leaf ..
    ·split at e
     ·simp only [Option.some.injEq, Rs.ok.injEq] at e; rw [← e.1]; exact lf_leaf ..
     ·split at e
      ·split at e
       ·cases e
       ·split at e
        ·simp only [Option.some.injEq, Rs.ok.injEq] at e; rw [← e.1]; exact lf_leaf ..
        ·cases hq : prs L f .alt [] (i + 1) (d + 1) with
         | none => rw [hq] at e; cases e
         | some r =>
          rw [hq] at e
          cases r with
          | err a b => cases e
          | ok q k =>
           simp only [] at e
           split at e
           ·simp only [Option.some.injEq, Rs.ok.injEq] at e; rw [← e.1]; exact prs_lf f .alt [] (i + 1) (d + 1) q k hq lfL_nil
           ·cases e
      ·cases e
def LfN (N : List Rn) : Prop := ∀ x ∈ N, (x.kind = 3 ∨ x.kind = 4 ∨ x.kind = 5) → x.kids = []
theorem kidsAt_nil {n : Nat} : kidsAt n [] = [] := rfl
mutual
theorem flat_lf : ∀ (n : Nat) (p : Pt), LfP p → LfN (flat n p)
 | n, .mk k cl t lv a nm ks, h, x, hx => by
  unfold LfP at h
  simp only [flat, List.mem_cons] at hx
  rcases hx with rfl | hx
  ·intro hk; rw [h.1 hk]; rfl
  ·exact flatL_lf _ ks h.2 x hx
theorem flatL_lf : ∀ (n : Nat) (ks : List Pt), LfL ks → LfN (flatL n ks)
 | n, [], h, x, hx => by simp [flatL] at hx
 | n, p :: ks, h, x, hx => by
  unfold LfL at h
  simp only [flatL, List.mem_append] at hx
  rcases hx with hx | hx
  ·exact flat_lf n p h.1 x hx
  ·exact flatL_lf _ ks h.2 x hx
end
theorem rulP_lf {L : List Wd} {f i j : Nat} {w : Wd} {p : Pt} (e : rulP L f i = some (.ok (w, p) j)) : LfP p := by
 unfold rulP at e
 simp only [] at e
 split at e
 ·cases e
 ·split at e
  ·cases hq : prs L f .alt [] (i + 2) 0 with
   | none => rw [hq] at e; cases e
   | some r =>
    rw [hq] at e
    cases r with
    | err a b => cases e
    | ok q k =>
     simp only [] at e
     split at e
     ·simp only [Option.some.injEq, Rs.ok.injEq, Prod.mk.injEq] at e
      rw [← e.1.2]; exact prs_lf f .alt [] (i + 2) 0 q k hq lfL_nil
     ·cases e
  ·cases e
theorem rulsP_lf {L : List Wd} (f : Nat) : ∀ (g : Nat) (acc : List (Wd × Pt)) (i : Nat) (x : List (Wd × Pt)) (j : Nat), LfL (acc.map (·.2)) → rulsP L f g acc i = some (.ok x j) → LfL (x.map (·.2))
 | 0, acc, i, x, j, _, e => by cases e
 | g + 1, acc, i, x, j, ha, e => by
  simp only [rulsP] at e
  cases hq : rulP L f i with
  | none => rw [hq] at e; cases e
  | some r =>
   rw [hq] at e
   cases r with
   | err a b => cases e
   | ok y k =>
    obtain ⟨w, p⟩ := y
    have hl : LfL ((acc ++ [(w, p)]).map (·.2)) := by rw [List.map_append]; exact lfL_app _ _ ha (lfL_one (rulP_lf hq))
    simp only [] at e
    split at e
    ·simp only [Option.some.injEq, Rs.ok.injEq] at e
     rw [← e.1]; exact hl
    ·exact rulsP_lf f g _ k x j hl e
theorem readT_lf {l : List UInt8} {R : List Rr} {N : List Rn} {e a : Nat} (h : readT l = ((R, N), e, a)) : LfN N := by
 by_cases he : e = 0
 ·subst he
  unfold readT at h
  cases hw : (wordsOf l).2 with
  | some p => rw [hw] at h; simp at h
  | none =>
   rw [hw] at h
   have hA := words_at hw
   simp only [] at h
   cases hr : readW (wordsOf l).1 with
   | err b c =>
    rw [hr] at h
    simp only [Prod.mk.injEq] at h
    have := (readW_err hA.ok (n := l.length) (fun i => wdAt_le (fun i hi => (hA.at_ i hi).2.1) i) hr).1
    omega
   | ok x j =>
    rw [hr] at h
    simp only [Prod.mk.injEq] at h
    obtain ⟨ht, -, ha⟩ := h
    obtain ⟨t1, -⟩ := treeF_is 0 x
    rw [ht] at t1
    simp only at t1
    unfold readW at hr
    cases hq : rulsP (wordsOf l).1 (6 * (wordsOf l).1.length + 4) ((wordsOf l).1.length + 1) [] 0 with
    | none => rw [hq] at hr; cases hr
    | some r =>
     rw [hq] at hr
     simp only [] at hr
     subst hr
     rw [t1]
     exact flatL_lf 0 _ (rulsP_lf _ _ [] 0 x j lfL_nil hq)
 ·obtain ⟨hX, -, -⟩ := readT_err h he
  cases hX
  intro x hx; simp at hx
end Go.Proofs.YthfefbmkgebmkaaGreatDoor
namespace Go.Proofs.YthfefbmkgebmkaaGreatDoor
open Go.RowKit
set_option maxRecDepth 100000
set_option maxHeartbeats 60000000

theorem cls_sz4 : (Tryz.prog.info? 39).map (·.size) = some 4 := by decide +kernel
theorem cls_load {wx : World} {g : Nat} {x0 x1 x2 x3 : Value} (h0 : wx.cell? ⟨g, 1, none⟩ = some x0) (h1 : wx.cell? ⟨g, 2, none⟩ = some x1) (h2 : wx.cell? ⟨g, 3, none⟩ = some x2) (h3 : wx.cell? ⟨g, 4, none⟩ = some x3) : (loadVar 39 ⟨g, 1, none⟩).run Tryz.prog wx = .ok (.agg #[x0, x1, x2, x3]) wx :=
 run_loadVar_part wx ⟨g, 1, none⟩ _ _ _ (fun j v hj => by
  have e : (⟨g, 1, none⟩ : Addr).add j = ⟨g, 1 + j, none⟩ := by unfold Addr.add; split <;> simp_all
  rw [e]
  match j, hj with
  | 0, hj => rw [← hj]; exact h0
  | 1, hj => rw [← hj]; exact h1
  | 2, hj => rw [← hj]; exact h2
  | 3, hj => rw [← hj]; exact h3
  | j + 4, hj => simp at hj) Tryz.underlying39 rfl cls_sz4
/-- What the document asks of a call; of a text or a set. -/
def lngF (x : Rn) : Bool := decide (x.kind = 5) && (decide (32 < x.nm.length) || decide (99 < x.lv))
def wdF (x : Rn) : Bool := (decide (x.kind = 4) && (decide (x.tx = []) || decide (64 < x.tx.length))) || (decide (x.kind = 3) && ((clsW x.cl 0 : Int) == 0 && ((clsW x.cl 1 : Int) == 0 && ((clsW x.cl 2 : Int) == 0 && (clsW x.cl 3 : Int) == 0))))
theorem big_eq {x : Rn} {k : Nat} (h : (x.kind = 3 ∨ x.kind = 4 ∨ x.kind = 5) → x.kids = []) : bigN k x = (decide (2048 ≤ k) || (lngF x || wdF x || decide (64 < x.kids.length))) := by
 unfold bigN grtF lngF wdF
 congr 1
 show (if (x.kind : Int) = 5 then decide ((32 : Int) < ((tx x.nm).size : Int)) || decide (99 < x.lv)
  else if (x.kind : Int) = 4 then ((tx x.tx).toList == []) || decide ((64 : Int) < ((tx x.tx).size : Int))
  else if (x.kind : Int) = 3 then ((clsW x.cl 0 : Int) == 0 && ((clsW x.cl 1 : Int) == 0 && ((clsW x.cl 2 : Int) == 0 && (clsW x.cl 3 : Int) == 0)))
  else decide ((64 : Int) < ((x.kids.map fun (j : Nat) => (j : Int)).length : Int))) = _
 rw [tx_size, tx_size, ba_toList, tx_list, List.length_map]
 rw [show decide ((32 : Int) < (x.nm.length : Int)) = decide (32 < x.nm.length) from decide_eq_decide.2 (by omega), show decide ((64 : Int) < (x.tx.length : Int)) = decide (64 < x.tx.length) from decide_eq_decide.2 (by omega), show decide ((64 : Int) < (x.kids.length : Int)) = decide (64 < x.kids.length) from decide_eq_decide.2 (by omega), show (x.tx == []) = decide (x.tx = []) by cases x.tx <;> simp]
 by_cases h5 : x.kind = 5
 ·have hk := h (by omega)
  simp [h5, hk]
 ·by_cases h4 : x.kind = 4
  ·have hk := h (by omega)
   simp [h4, hk]
  ·by_cases h3 : x.kind = 3
   ·have hk := h (by omega)
    simp [h3, hk]
   ·have h5' : ¬ (x.kind : Int) = 5 := by omega
    have h4' : ¬ (x.kind : Int) = 4 := by omega
    have h3' : ¬ (x.kind : Int) = 3 := by omega
    simp [h5, h4, h3, h5', h4', h3']
theorem rlimits_any (w : World) (ro no ao bo co : Option Addr) (rc nc ac bc cc : Nat) (NK : List Nk) (R : List Rr) (N : List Rn) (hG : GrW w ro R.length rc no N.length nc NK ⟨R.map Rr.ru, N.map Rn.nd⟩)
  (hra : Sv w ao R.length ac 1 (inc (R.map fun r => (r.at_ : Int)))) (hna : Sv w bo N.length bc 1 (inc (N.map fun x => (x.at_ : Int)))) (hnm : Sv w co N.length cc 1 ((N.map fun x => tx x.nm).map Value.string))
  (hup : KidsUp N) (hlf : LfN N) (hbd : ∀ r ∈ R, r.body < N.length) (hn : N.length ≤ 40000) (hr : R.length ≤ 40000) :
  Calls Tryz.prog 31 #[.agg #[.slice ro R.length rc, .slice no N.length nc, .slice ao R.length ac, .slice bo N.length bc, .slice co N.length cc]] w fun e w' => e = .returned (.agg (limV (limA R N))) ∧ Below w.heap.size w w' := by
 have HUP := Lib.hid hup; have HBD := Lib.hid hbd; have HN := Lib.hid hn; have HRn := Lib.hid hr; have HLF := Lib.hid hlf
 have hbR := hG.rul.bound; have hbN := hG.nod.sv.bound; have hbA := hra.bound; have hbB := hna.bound; have hbC := hnm.bound
 obtain ⟨g, hg0⟩ : ∃ g, w.heap.size = g := ⟨_, rfl⟩
 obtain ⟨z, hz, z1, z2, zb⟩ := two_blocks w g hg0 #[.slice ro R.length rc, .slice no N.length nc, .slice ao R.length ac, .slice bo N.length bc, .slice co N.length cc] #[.int .i64 0, .int .i64 0] 78 33
 have HX2 : Hid (TrX 78 g ro no ao bo co rc nc ac bc cc NK R N z) := ⟨z1, hG.below zb, hra.below zb, hna.below zb, hnm.below zb⟩
 have HD2 := Lib.hid z2; have HB2 := Lib.hid zb
 have HZ := Lib.hid hz; have HG0 := Lib.hid hg0
 clear hG hra hna hnm hup hlf hbd hn hr hz z1 z2 zb hg0
 go_enter Tryz.func31, Tryz.ntmps31
 go_upto_region 3 with (fail)
 rw [HZ.out, HG0.out]
 go_loopw [3, 4, 5] (fun t3 t4 _ wr => ∃ (k : Nat) (v : Value), k ≤ R.length ∧ t4 = .int .i64 k ∧ t3 = v ∧ Hid (Own z wr 3 1 v (limF (bigR N) Rr.at_ 0 (R.take k)).length (incN (limF (bigR N) Rr.at_ 0 (R.take k))))) (fun _ t4 _ _ => R.length - (intOf t4).toNat)
 case atStart => exact ⟨0, .slice none 0 0, Nat.zero_le _, by go_num, rfl, Own.nil _ _ _⟩
 case round =>
  obtain ⟨k, v, hk, rfl, rfl, HO⟩ := hrel
  have HX3 := Lib.hid (HX2.out.below HO.out.2)
  by_cases hlt : k < R.length
  ·have hltI : (k : Int) < R.length := by omega
   have hst := limF_take (p := bigR N) (f := Rr.at_) R 0 k hlt
   rw [Nat.zero_add] at hst
   have hbody := HBD.out R[k] (List.getElem_mem _)
   obtain ⟨rr, rfl, r0, r1⟩ := HX3.out.rul hlt
   obtain ⟨Y, hY⟩ : ∃ Y, R[k] = Y := ⟨_, rfl⟩
   rw [hY] at hst hbody r0 r1
   have HY := Lib.hid hY
   have hll : (limF (bigR N) Rr.at_ 0 (R.take k)).length ≤ 1000000 := by
    have h1 := limF_len (p := bigR N) (f := Rr.at_) (R.take k) 0
    have h2 : (R.take k).length ≤ R.length := by rw [List.length_take]; omega
    have := HRn.out; omega
   have HLL := Lib.hid hll
   have HBO := Lib.hid hbody
   obtain ⟨H, hH⟩ : ∃ H, hg N Y.body = H := ⟨_, rfl⟩
   have hbig : bigR N k Y = (decide (32 ≤ k) || (decide (32 < Y.nm.length) || decide (16 < H))) := by unfold bigR; rw [hH]
   have HBIG := Lib.hid hbig; have HST0 := Lib.hid hst; have HHH := Lib.hid hH
   clear hst hbig hY hH hll hbody
   have u0 := HX3.out.tr.cell 0; have u2 := HX3.out.tr.cell 2
   go_upto_region 6 with (fail)
   have hbl := (Below.refl wr.heap.size wr).alloc (Nat.le_refl _) (.cells #[.string (tx Y.nm), .int .i64 Y.body] 48)
   have HX4 := Lib.hid (HX3.out.below hbl); have HO4 := Lib.hid (HO.out.below hbl)
   have HN6 := Lib.hid (hrow.new wr #[.string (tx Y.nm), .int .i64 Y.body] 48)
   clear hbl HX3 HO r0 r1 u0 u2
   generalize wr.alloc (.cells #[.string (tx Y.nm), .int .i64 Y.body] 48) = wx at *
   obtain ⟨g6, hg6⟩ : ∃ g, wr.heap.size = g := ⟨_, rfl⟩
   rw [hg6] at HN6 ⊢
   clear hg6
   have n0 : wx.cell? ⟨g6, 0, none⟩ = some (.string (tx Y.nm)) := HN6.out.cell 0
   have n1 : wx.cell? ⟨g6, 1, none⟩ = some (.int .i64 Y.body) := HN6.out.cell 1
   by_cases q1 : 32 ≤ k
   ·have HST : Hid (limF (bigR N) Rr.at_ 0 (R.take (k + 1)) = limF (bigR N) Rr.at_ 0 (R.take k) ++ [Y.at_]) := by
     have hb := HBIG.out
     unfold Hid; rw [HST0.out, hb]; simp [q1]
    have qI : (32 : Int) ≤ k := by omega
    clear q1
    obtain ⟨aa, rfl, ra0⟩ := HX4.out.rat hlt
    have t2 := HX4.out.tr.cell 2
    rw [HY.out] at ra0
    go_upto_region 7 with (fail)
    go_wp2_with (at_builtin; refine app_int1 rfl (.tmp 40) (.tmp 46) rfl _ _ rfl HO4.out Y.at_ rfl HLL.out ?_; intro v' w8 hO8; have HO8 := Lib.hid hO8; clear hO8)
    rw [← HST.out] at HO8
    go_roundw
    case rel => exact ⟨k + 1, _, hlt, by go_num, rfl, HO8.out⟩
    case measure => first | (simp [intOf]; done) | (simp [intOf]; omega)
   ·have qI : ¬ (32 : Int) ≤ k := by omega
    by_cases q2 : 32 < Y.nm.length
    ·have HST : Hid (limF (bigR N) Rr.at_ 0 (R.take (k + 1)) = limF (bigR N) Rr.at_ 0 (R.take k) ++ [Y.at_]) := by
      have hb := HBIG.out
      unfold Hid; rw [HST0.out, hb]; simp [q2]
     have qJ : (32 : Int) < ((tx Y.nm).size : Int) := by rw [tx_size]; omega
     clear q1 q2
     obtain ⟨aa, rfl, ra0⟩ := HX4.out.rat hlt
     have t2 := HX4.out.tr.cell 2
     rw [HY.out] at ra0
     go_upto_region 7 with (fail)
     go_wp2_with (at_builtin; refine app_int1 rfl (.tmp 40) (.tmp 46) rfl _ _ rfl HO4.out Y.at_ rfl HLL.out ?_; intro v' w8 hO8; have HO8 := Lib.hid hO8; clear hO8)
     rw [← HST.out] at HO8
     go_roundw
     case rel => exact ⟨k + 1, _, hlt, by go_num, rfl, HO8.out⟩
     case measure => first | (simp [intOf]; done) | (simp [intOf]; omega)
    ·have qJ : ¬ (32 : Int) < ((tx Y.nm).size : Int) := by rw [tx_size]; omega
     have HQ := Lib.hid (⟨q1, q2⟩ : ¬ 32 ≤ k ∧ ¬ 32 < Y.nm.length)
     have v0 := HX4.out.tr.cell 0; have v1 := HX4.out.tr.cell 1; have v2 := HX4.out.tr.cell 2; have v3 := HX4.out.tr.cell 3; have v4 := HX4.out.tr.cell 4
     have HHt := Lib.hid (rheight_any (some rr) no ao bo co rc nc ac bc cc NK R N HUP.out HN.out N.length Y.body HBO.out (by omega) wx HX4.out.gr)
     rw [HHH.out] at HHt
     clear q1 q2
     go_wp2_with fail
     refine HHt.out.mono ?_
     rintro e w7 ⟨rfl, hb⟩
     have HX5 := Lib.hid (HX4.out.below hb); have HO5 := Lib.hid (HO4.out.below hb)
     clear hb HX4 HO4 HHt v0 v1 v2 v3 v4 n0 n1
     by_cases q3 : 16 < H
     ·have HST : Hid (limF (bigR N) Rr.at_ 0 (R.take (k + 1)) = limF (bigR N) Rr.at_ 0 (R.take k) ++ [Y.at_]) := by
       have hb := HBIG.out
       unfold Hid; rw [HST0.out, hb]; simp [q3]
      have qK : (16 : Int) < H := by omega
      clear q3
      obtain ⟨aa, rfl, ra0⟩ := HX5.out.rat hlt
      have t2 := HX5.out.tr.cell 2
      rw [HY.out] at ra0
      go_upto_region 7 with (fail)
      go_wp2_with (at_builtin; refine app_int1 rfl (.tmp 40) (.tmp 46) rfl _ _ rfl HO5.out Y.at_ rfl HLL.out ?_; intro v' w8 hO8; have HO8 := Lib.hid hO8; clear hO8)
      rw [← HST.out] at HO8
      go_roundw
      case rel => exact ⟨k + 1, _, hlt, by go_num, rfl, HO8.out⟩
      case measure => first | (simp [intOf]; done) | (simp [intOf]; omega)
     ·have HST : Hid (limF (bigR N) Rr.at_ 0 (R.take (k + 1)) = limF (bigR N) Rr.at_ 0 (R.take k)) := by
       have hb := HBIG.out
       unfold Hid; rw [HST0.out, hb]; simp [HQ.out.1, HQ.out.2, q3]
      have qK : ¬ (16 : Int) < H := by omega
      clear q3
      go_wp2_with fail
      rw [← HST.out] at HO5
      go_roundw
      case rel => exact ⟨k + 1, _, hlt, by go_num, rfl, HO5.out⟩
      case measure => first | (simp [intOf]; done) | (simp [intOf]; omega)
  ·have hltI : ¬ (k : Int) < R.length := by omega
   obtain rfl : k = R.length := by omega
   have u2 := HX3.out.tr.cell 2
   have HO2 := Lib.hid HO.out
   rw [List.take_length] at HO2
   obtain ⟨lA, hlA⟩ : ∃ l, limF (bigR N) Rr.at_ 0 R = l := ⟨_, rfl⟩
   have hlAl : lA.length ≤ R.length := by rw [← hlA]; exact limF_len _ _
   rw [hlA] at HO2
   have HLA := Lib.hid hlA; have HLAL := Lib.hid hlAl
   clear hlA hlAl HO hk hlt
   go_upto_region 9 with (fail)
   clear u2 HX3
   go_loopw [3, 6, 7, 8, 9] (fun t3 t6 _ _ _ wr => ∃ (k : Nat) (v : Value), k ≤ N.length ∧ t6 = .int .i64 k ∧ t3 = v ∧ Hid (Own z wr 3 1 v (lA ++ limF bigN Rn.at_ 0 (N.take k)).length (incN (lA ++ limF bigN Rn.at_ 0 (N.take k))))) (fun _ t6 _ _ _ _ => N.length - (intOf t6).toNat)
   case atStart => exact ⟨0, _, Nat.zero_le _, by go_num, rfl, by have := HO2.out; unfold Hid; simpa [limF] using this⟩
   case round =>
    clear HO2
    obtain ⟨k, v, hk, rfl, rfl, HO⟩ := hrel
    have HX3 := Lib.hid (HX2.out.below HO.out.2)
    by_cases hlt : k < N.length
    ·have hltI : (k : Int) < N.length := by omega
     have hst := limF_take (p := bigN) (f := Rn.at_) N 0 k hlt
     rw [Nat.zero_add] at hst
     have hll : (lA ++ limF bigN Rn.at_ 0 (N.take k)).length ≤ 1000000 := by
      have h1 := limF_len (p := bigN) (f := Rn.at_) (N.take k) 0
      have h2 : (N.take k).length ≤ N.length := by rw [List.length_take]; omega
      have := HRn.out; have := HN.out; have := HLAL.out
      rw [List.length_append]; omega
     have HLL := Lib.hid hll
     have hlf := HLF.out N[k] (List.getElem_mem _)
     obtain ⟨a, ko, kc, rfl, hnd⟩ := HX3.out.nd hlt
     obtain ⟨Y, hY⟩ : ∃ Y, N[k] = Y := ⟨_, rfl⟩
     rw [hY] at hst hnd hlf
     have HY := Lib.hid hY
     have hbig : bigN k Y = (decide (2048 ≤ k) || (lngF Y || wdF Y || decide (64 < Y.kids.length))) := big_eq hlf
     have HBIG := Lib.hid hbig; have HST0 := Lib.hid hst; have HND := Lib.hid hnd
     clear hst hbig hY hll hnd hlf
     have t3 := HX3.out.tr.cell 3; have t1 := HX3.out.tr.cell 1
     go_upto_region 12 with (refine wpList_load_part rfl 41 (.tmp 59) rfl (a.add (k * 9)) rfl #[.int .i64 Y.kind, .int .u64 (clsW Y.cl 0), .int .u64 (clsW Y.cl 1), .int .u64 (clsW Y.cl 2), .int .u64 (clsW Y.cl 3), .string (tx Y.tx), .int .i64 0, .int .i64 Y.lv, .slice ko Y.kids.length kc] _ HND.out Tryz.underlying41 rfl nd_sz9 ?_)
     have hbl := (Below.refl wr.heap.size wr).alloc (Nat.le_refl _) (.cells #[.int .i64 Y.kind, .int .u64 (clsW Y.cl 0), .int .u64 (clsW Y.cl 1), .int .u64 (clsW Y.cl 2), .int .u64 (clsW Y.cl 3), .string (tx Y.tx), .int .i64 0, .int .i64 Y.lv, .slice ko Y.kids.length kc] 41)
     obtain ⟨g7, hg7⟩ : ∃ g, wr.heap.size = g := ⟨_, rfl⟩
     have hnr := hrow.new wr #[.int .i64 Y.kind, .int .u64 (clsW Y.cl 0), .int .u64 (clsW Y.cl 1), .int .u64 (clsW Y.cl 2), .int .u64 (clsW Y.cl 3), .string (tx Y.tx), .int .i64 0, .int .i64 Y.lv, .slice ko Y.kids.length kc] 41
     rw [hg7] at hnr ⊢
     have HI : Hid (TrX 78 g ro (some a) ao bo co rc nc ac bc cc NK R N (wr.alloc (.cells #[.int .i64 Y.kind, .int .u64 (clsW Y.cl 0), .int .u64 (clsW Y.cl 1), .int .u64 (clsW Y.cl 2), .int .u64 (clsW Y.cl 3), .string (tx Y.tx), .int .i64 0, .int .i64 Y.lv, .slice ko Y.kids.length kc] 41)) ∧ Own z (wr.alloc (.cells #[.int .i64 Y.kind, .int .u64 (clsW Y.cl 0), .int .u64 (clsW Y.cl 1), .int .u64 (clsW Y.cl 2), .int .u64 (clsW Y.cl 3), .string (tx Y.tx), .int .i64 0, .int .i64 Y.lv, .slice ko Y.kids.length kc] 41)) 3 1 u3 (lA ++ limF bigN Rn.at_ 0 (N.take k)).length (incN (lA ++ limF bigN Rn.at_ 0 (N.take k))) ∧ hrow (wr.alloc (.cells #[.int .i64 Y.kind, .int .u64 (clsW Y.cl 0), .int .u64 (clsW Y.cl 1), .int .u64 (clsW Y.cl 2), .int .u64 (clsW Y.cl 3), .string (tx Y.tx), .int .i64 0, .int .i64 Y.lv, .slice ko Y.kids.length kc] 41)) g7 #[.int .i64 Y.kind, .int .u64 (clsW Y.cl 0), .int .u64 (clsW Y.cl 1), .int .u64 (clsW Y.cl 2), .int .u64 (clsW Y.cl 3), .string (tx Y.tx), .int .i64 0, .int .i64 Y.lv, .slice ko Y.kids.length kc] 41) := ⟨HX3.out.below hbl, HO.out.below hbl, hnr⟩
     clear hbl HX3 HO t1 t3 hg7 hnr HND
     generalize wr.alloc (.cells #[.int .i64 Y.kind, .int .u64 (clsW Y.cl 0), .int .u64 (clsW Y.cl 1), .int .u64 (clsW Y.cl 2), .int .u64 (clsW Y.cl 3), .string (tx Y.tx), .int .i64 0, .int .i64 Y.lv, .slice ko Y.kids.length kc] 41) = wx at *
     go_cut [8] from 48 to 124 (fun t8 wz => ∃ b : Bool, t8 = .bool b ∧ Hid (lngF Y = b) ∧ Hid (TrX 78 g ro (some a) ao bo co rc nc ac bc cc NK R N wz ∧ Own z wz 3 1 u3 (lA ++ limF bigN Rn.at_ 0 (N.take k)).length (incN (lA ++ limF bigN Rn.at_ 0 (N.take k))) ∧ hrow wz g7 #[.int .i64 Y.kind, .int .u64 (clsW Y.cl 0), .int .u64 (clsW Y.cl 1), .int .u64 (clsW Y.cl 2), .int .u64 (clsW Y.cl 3), .string (tx Y.tx), .int .i64 0, .int .i64 Y.lv, .slice ko Y.kids.length kc] 41))
     case first =>
      have n0 : wx.cell? ⟨g7, 0, none⟩ = some (.int .i64 Y.kind) := HI.out.2.2.cell 0
      have n7 : wx.cell? ⟨g7, 7, none⟩ = some (.int .i64 Y.lv) := HI.out.2.2.cell 7
      obtain ⟨cn, rfl, nn⟩ := HI.out.1.nnm hlt
      rw [HY.out] at nn
      have t4 := HI.out.1.tr.cell 4
      by_cases hk5 : Y.kind = 5
      ·have q5 : ((Y.kind : Int) == 5) = true := by simp; omega
       by_cases h32 : 32 < Y.nm.length
       ·have qI : (32 : Int) < ((tx Y.nm).size : Int) := by rw [tx_size]; omega
        have HR : Hid (lngF Y = true) := by unfold Hid lngF; simp [hk5, h32]
        clear hk5 h32
        go_wp2_with fail
        go_meet
        exact ⟨_, rfl, HR, HI.out⟩
       ·have qI : ¬ (32 : Int) < ((tx Y.nm).size : Int) := by rw [tx_size]; omega
        by_cases h99 : 99 < Y.lv
        ·have HR : Hid (lngF Y = true) := by unfold Hid lngF; simp [hk5, h99]
         clear hk5 h32
         go_wp2_with fail
         go_meet
         exact ⟨_, rfl, HR, HI.out⟩
        ·have HR : Hid (lngF Y = false) := by unfold Hid lngF; simp [h32, h99]
         clear hk5 h32
         go_wp2_with fail
         go_meet
         exact ⟨_, rfl, HR, HI.out⟩
      ·have q5 : ((Y.kind : Int) == 5) = false := by simp; omega
       have HR : Hid (lngF Y = false) := by unfold Hid lngF; simp [hk5]
       clear hk5
       go_wp2_with fail
       go_meet
       exact ⟨_, rfl, HR, HI.out⟩
     case rest =>
      obtain ⟨b8, rfl, H8, HI2⟩ := hcut
      clear HI
      go_upto_region 13 with (fail)
      go_cut [9] from 48 to 124 (fun t9 wz => ∃ b : Bool, t9 = .bool b ∧ Hid (wdF Y = b) ∧ Hid (TrX 78 g ro (some a) ao bo co rc nc ac bc cc NK R N wz ∧ Own z wz 3 1 u3 (lA ++ limF bigN Rn.at_ 0 (N.take k)).length (incN (lA ++ limF bigN Rn.at_ 0 (N.take k))) ∧ hrow wz g7 #[.int .i64 Y.kind, .int .u64 (clsW Y.cl 0), .int .u64 (clsW Y.cl 1), .int .u64 (clsW Y.cl 2), .int .u64 (clsW Y.cl 3), .string (tx Y.tx), .int .i64 0, .int .i64 Y.lv, .slice ko Y.kids.length kc] 41))
      case first =>
       have n0 : wc.cell? ⟨g7, 0, none⟩ = some (.int .i64 Y.kind) := HI2.out.2.2.cell 0
       have n5 : wc.cell? ⟨g7, 5, none⟩ = some (.string (tx Y.tx)) := HI2.out.2.2.cell 5
       by_cases hk4 : Y.kind = 4
       ·have q4 : ((Y.kind : Int) == 4) = true := by simp; omega
        have q3 : ((Y.kind : Int) == 3) = false := by simp; omega
        by_cases ht : Y.tx = []
        ·rw [ht, show tx [] = (⟨#[]⟩ : ByteArray) from rfl] at n5
         have HR : Hid (wdF Y = true) := by unfold Hid wdF; simp [hk4, ht]
         clear hk4 ht
         go_wp2_with fail
         go_meet
         exact ⟨_, rfl, HR, HI2.out⟩
        ·have hn2 : ¬ (tx Y.tx).toList = [] := by rw [ba_toList, tx_list]; exact ht
         have hn1 : (tx Y.tx).toList.isEmpty = false := by simpa using hn2
         have hn3 : ((tx Y.tx).toList == []) = false := by simpa using hn2
         by_cases h64 : 64 < Y.tx.length
         ·have qI : (64 : Int) < ((tx Y.tx).size : Int) := by rw [tx_size]; omega
          have HR : Hid (wdF Y = true) := by unfold Hid wdF; simp [hk4, h64]
          clear hk4 ht h64
          go_wp2_with fail
          go_meet
          exact ⟨_, rfl, HR, HI2.out⟩
         ·have qI : ¬ (64 : Int) < ((tx Y.tx).size : Int) := by rw [tx_size]; omega
          have HR : Hid (wdF Y = false) := by unfold Hid wdF; simp [hk4, h64, ht]
          clear hk4 ht h64
          go_wp2_with fail
          go_meet
          exact ⟨_, rfl, HR, HI2.out⟩
       ·have q4 : ((Y.kind : Int) == 4) = false := by simp; omega
        by_cases hk3 : Y.kind = 3
        ·have q3 : ((Y.kind : Int) == 3) = true := by simp; omega
         have n1 : wc.cell? ⟨g7, 1, none⟩ = some (.int .u64 (clsW Y.cl 0)) := HI2.out.2.2.cell 1
         have n2 : wc.cell? ⟨g7, 2, none⟩ = some (.int .u64 (clsW Y.cl 1)) := HI2.out.2.2.cell 2
         have n3 : wc.cell? ⟨g7, 3, none⟩ = some (.int .u64 (clsW Y.cl 2)) := HI2.out.2.2.cell 3
         have n4 : wc.cell? ⟨g7, 4, none⟩ = some (.int .u64 (clsW Y.cl 3)) := HI2.out.2.2.cell 4
         have hce := cls_eq
         have HR : Hid (wdF Y = ((clsW Y.cl 0 : Int) == 0 && ((clsW Y.cl 1 : Int) == 0 && ((clsW Y.cl 2 : Int) == 0 && (clsW Y.cl 3 : Int) == 0)))) := by unfold Hid wdF; simp [hk3]
         clear hk4 hk3
         go_wp2_with fail
         go_meet
         refine ⟨_, rfl, ?_, HI2.out⟩
         have := HR.out
         unfold Hid
         rw [this]
         try simp [Bool.and_assoc]
        ·have q3 : ((Y.kind : Int) == 3) = false := by simp; omega
         have HR : Hid (wdF Y = false) := by unfold Hid wdF; simp [hk4, hk3]
         clear hk4 hk3
         go_wp2_with fail
         go_meet
         exact ⟨_, rfl, HR, HI2.out⟩
      case rest =>
       obtain ⟨b9, rfl, H9, HI3⟩ := hcut
       clear HI2
       have HX4 := Lib.hid HI3.out.1; have HO4 := Lib.hid HI3.out.2.1
       have n8 := HI3.out.2.2.cell 8
       have hkl : Y.kids.length ≤ 9223372036854775807 := by
        obtain ⟨a2, ko2, kc2, -, hkk⟩ := gr_kids HX4.out.gr hlt
        have := (hkk wc (Below.refl _ _)).2.bound
        rw [HY.out] at this; omega
       go_upto_region 14 with (fail)
       by_cases q1 : 2048 ≤ k
       ·have HST : Hid (lA ++ limF bigN Rn.at_ 0 (N.take (k + 1)) = lA ++ limF bigN Rn.at_ 0 (N.take k) ++ [Y.at_]) := by have hb := HBIG.out; have h8 := H8.out; have h9 := H9.out; unfold Hid; rw [HST0.out, hb]; simp [q1]
        have qI : (2048 : Int) ≤ k := by omega
        clear q1 HI3
        obtain ⟨aa, rfl, ra0⟩ := HX4.out.nat hlt
        have t2 := HX4.out.tr.cell 3
        rw [HY.out] at ra0
        go_upto_region 15 with (fail)
        go_wp2_with (at_builtin; refine app_int1 rfl (.tmp 117) (.tmp 123) rfl _ _ rfl HO4.out Y.at_ rfl HLL.out ?_; intro v' w8 hO8; have HO8 := Lib.hid hO8; clear hO8)
        rw [← HST.out] at HO8
        go_roundw
        case rel => exact ⟨k + 1, _, hlt, by go_num, rfl, HO8.out⟩
        case measure => first | (simp [intOf]; done) | (simp [intOf]; omega)
       ·have qI : ¬ (2048 : Int) ≤ k := by omega
        cases b8 with
        | true =>
         have HST : Hid (lA ++ limF bigN Rn.at_ 0 (N.take (k + 1)) = lA ++ limF bigN Rn.at_ 0 (N.take k) ++ [Y.at_]) := by have hb := HBIG.out; have h8 := H8.out; have h9 := H9.out; unfold Hid; rw [HST0.out, hb]; simp [h8]
         clear q1 HI3
         obtain ⟨aa, rfl, ra0⟩ := HX4.out.nat hlt
         have t2 := HX4.out.tr.cell 3
         rw [HY.out] at ra0
         go_upto_region 15 with (fail)
         go_wp2_with (at_builtin; refine app_int1 rfl (.tmp 117) (.tmp 123) rfl _ _ rfl HO4.out Y.at_ rfl HLL.out ?_; intro v' w8 hO8; have HO8 := Lib.hid hO8; clear hO8)
         rw [← HST.out] at HO8
         go_roundw
         case rel => exact ⟨k + 1, _, hlt, by go_num, rfl, HO8.out⟩
         case measure => first | (simp [intOf]; done) | (simp [intOf]; omega)
        | false =>
         cases b9 with
         | true =>
          have HST : Hid (lA ++ limF bigN Rn.at_ 0 (N.take (k + 1)) = lA ++ limF bigN Rn.at_ 0 (N.take k) ++ [Y.at_]) := by have hb := HBIG.out; have h8 := H8.out; have h9 := H9.out; unfold Hid; rw [HST0.out, hb]; simp [h9]
          clear q1 HI3
          obtain ⟨aa, rfl, ra0⟩ := HX4.out.nat hlt
          have t2 := HX4.out.tr.cell 3
          rw [HY.out] at ra0
          go_upto_region 15 with (fail)
          go_wp2_with (at_builtin; refine app_int1 rfl (.tmp 117) (.tmp 123) rfl _ _ rfl HO4.out Y.at_ rfl HLL.out ?_; intro v' w8 hO8; have HO8 := Lib.hid hO8; clear hO8)
          rw [← HST.out] at HO8
          go_roundw
          case rel => exact ⟨k + 1, _, hlt, by go_num, rfl, HO8.out⟩
          case measure => first | (simp [intOf]; done) | (simp [intOf]; omega)
         | false =>
          by_cases q6 : 64 < Y.kids.length
          ·have HST : Hid (lA ++ limF bigN Rn.at_ 0 (N.take (k + 1)) = lA ++ limF bigN Rn.at_ 0 (N.take k) ++ [Y.at_]) := by have hb := HBIG.out; have h8 := H8.out; have h9 := H9.out; unfold Hid; rw [HST0.out, hb]; simp [q6]
           have qJ : (64 : Int) < Y.kids.length := by omega
           clear q1 q6 HI3
           obtain ⟨aa, rfl, ra0⟩ := HX4.out.nat hlt
           have t2 := HX4.out.tr.cell 3
           rw [HY.out] at ra0
           go_upto_region 15 with (fail)
           go_wp2_with (at_builtin; refine app_int1 rfl (.tmp 117) (.tmp 123) rfl _ _ rfl HO4.out Y.at_ rfl HLL.out ?_; intro v' w8 hO8; have HO8 := Lib.hid hO8; clear hO8)
           rw [← HST.out] at HO8
           go_roundw
           case rel => exact ⟨k + 1, _, hlt, by go_num, rfl, HO8.out⟩
           case measure => first | (simp [intOf]; done) | (simp [intOf]; omega)
          ·have HST : Hid (lA ++ limF bigN Rn.at_ 0 (N.take (k + 1)) = lA ++ limF bigN Rn.at_ 0 (N.take k)) := by have hb := HBIG.out; have h8 := H8.out; have h9 := H9.out; unfold Hid; rw [HST0.out, hb]; simp [h8, h9, q1, q6]
           have qJ : ¬ (64 : Int) < Y.kids.length := by omega
           clear q1 q6 HI3
           go_wp2_with fail
           rw [← HST.out] at HO4
           go_roundw
           case rel => exact ⟨k + 1, _, hlt, by go_num, rfl, HO4.out⟩
           case measure => first | (simp [intOf]; done) | (simp [intOf]; omega)
    ·have hltI : ¬ (k : Int) < N.length := by omega
     obtain rfl : k = N.length := by omega
     have hO := HO.out
     rw [List.take_length] at hO
     obtain ⟨l, hl⟩ : ∃ l, lA ++ limF bigN Rn.at_ 0 N = l := ⟨_, rfl⟩
     rw [hl] at hO
     have HLM : Hid (limA R N = l) := by unfold Hid limA; rw [HLA.out, hl]
     obtain ⟨ao3, cap3, rfl, hsv⟩ := hO.sv
     have hbl3 := hsv.bound
     have HSV := Lib.hid hsv
     have HBF := Lib.hid (HB2.out.trans (hO.2.mono HB2.out.size))
     have HD3 := Lib.hid (HD2.out.below hO.2)
     have HGE : Hid (w.heap.size ≤ g + 1) := by have := HG0.out; unfold Hid; omega
     have t3 := HX3.out.tr.cell 3
     obtain ⟨n, hn⟩ : ∃ n, l.length = n := ⟨_, rfl⟩
     rw [hn] at HSV hbl3 ⊢
     have HNL := Lib.hid hn
     clear hl hO hsv HO hk hlt hn HX3
     by_cases hn0 : n = 0
     ·subst hn0
      have HL0 : Hid (l = []) := List.eq_nil_of_length_eq_zero HNL.out
      go_wp2_with (refine store_diag rfl (.tmp 2) (.tmp 128) rfl (g + 1) 0 0 0 0 rfl rfl HD3.out ?_)
      refine bodyPost_ret (results_diag rfl _ _ (g + 1) _ _ _ _ rfl HD3.out) rfl ?_
      exact ⟨by rw [HLM.out, HL0.out]; rfl, below_setRow HBF.out HGE.out _⟩
     ·have hnB : ((n : Int) == 0) = false := by simp; omega
      have hn1 : (0 : Int) < n := by omega
      have HN0 : Hid (0 < n) := by unfold Hid; omega
      obtain ⟨pa, rfl, c0⟩ := HSV.out.intc 0 (by rw [List.length_map, HNL.out]; omega)
      obtain ⟨x0, hx0⟩ : ∃ x0 : Int, bt (l.map fun (k : Nat) => (k : Int)) 0 = x0 := ⟨_, rfl⟩
      rw [hx0] at c0
      rw [show pa.add 0 = pa by unfold Addr.add; simp] at c0
      have HX0 := Lib.hid hx0
      clear hn0 hx0
      go_upto_region 20 with (fail)
      clear c0 t3
      go_loopw [10, 11] (fun t10 t11 wz => ∃ (k : Nat) (m : Int), k ≤ n ∧ t11 = .int .i64 k ∧ t10 = .int .i64 m ∧ Hid (m = (((l.map fun (k : Nat) => (k : Int)).take k).foldl min x0)) ∧ Hid (wz = wr)) (fun _ t11 _ => n - (intOf t11).toNat)
      case atStart => exact ⟨0, x0, Nat.zero_le _, by go_num, rfl, rfl, rfl⟩
      case round =>
       obtain ⟨k, m, hk, rfl, rfl, HM, HW⟩ := hrel
       have hw := HW.out
       subst hw
       clear HW
       by_cases hlt : k < n
       ·have hltI : (k : Int) < n := by omega
        obtain ⟨p2, hp2, ck⟩ := HSV.out.intc k (by rw [List.length_map, HNL.out]; exact hlt)
        cases hp2
        have hkl : k < (l.map fun (k : Nat) => (k : Int)).length := by rw [List.length_map, HNL.out]; exact hlt
        obtain ⟨xk, hxk⟩ : ∃ xk : Int, bt (l.map fun (k : Nat) => (k : Int)) k = xk := ⟨_, rfl⟩
        have hst : ((l.map fun (k : Nat) => (k : Int)).take (k + 1)).foldl min x0 = min m xk := by rw [← List.take_append_getElem hkl, List.foldl_append, ← HM.out, bt_get hkl, hxk]; rfl
        rw [hxk] at ck
        have HST := Lib.hid hst
        clear hst hxk hkl HM
        go_wp2_with fail
        go_roundw
        case rel => exact ⟨k + 1, min m xk, hlt, by go_num, rfl, HST.out.symm, by unfold Hid; trivial⟩
        case measure => first | (simp [intOf]; done) | (simp [intOf]; omega)
       ·have hltI : ¬ (k : Int) < n := by omega
        have hm : m = (l.map fun (k : Nat) => (k : Int)).foldl min x0 := by have := HM.out; rw [List.take_of_length_le (by rw [List.length_map, HNL.out]; omega)] at this; exact this
        have HMM := Lib.hid hm
        clear hm HM
        go_wp2_with (refine store_diag rfl (.tmp 2) (.tmp 145) rfl (g + 1) 3 m 0 0 rfl rfl HD3.out ?_)
        refine bodyPost_ret (results_diag rfl _ _ (g + 1) _ _ _ _ rfl HD3.out) rfl ?_
        refine ⟨?_, below_setRow HBF.out HGE.out _⟩
        rw [HLM.out, HMM.out]
        have hx := HX0.out; have hnl := HNL.out; have hn0 := HN0.out
        cases l with
        | nil => simp at hnl; omega
        | cons x l =>
         have e0 : x0 = (x : Int) := by rw [← hx]; rfl
         subst e0
         show Ending.returned (.agg #[.int .i64 3, .int .i64 (((x : Int) :: l.map fun (k : Nat) => (k : Int)).foldl min x)]) = Ending.returned (.agg #[.int .i64 3, .int .i64 ((l.map fun (k : Nat) => (k : Int)).foldl min x)])
         rw [List.foldl_cons, Int.min_self]
end Go.Proofs.YthfefbmkgebmkaaGreatDoor
