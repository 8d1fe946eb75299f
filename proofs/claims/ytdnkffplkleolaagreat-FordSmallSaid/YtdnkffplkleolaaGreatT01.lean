/- Walks and plain laws: Lm An Aq Ar As. -/
import Derived.Test.YtdnkffplkleolaaGreatM08
import Derived.Test.YtdnkffplkleolaaGreatM05
import Derived.Test.YtdnkffplkleolaaGreatM04
import Derived.Deep.RegionHeld3
import Derived.Deep.DeepCutAuto
import Derived.OwnWalk
namespace Go.Proofs.YtdnkffplkleolaaGreat
open Go.RowKit
set_option maxRecDepth 100000
set_option maxHeartbeats 2000000

section
variable (β : Int → Int → Int) (HMb : Hid (MiC β)) (HMr : Hid (MrC β)) (HMn : Hid (MnC β)) (w : World) (ro no : Option Addr) (rn rc nn nc g1 g2 : Nat) (NK NL : List (Nd × (Option Addr × Nat))) (G : Gr) (hg : GrW w ro rn rc no nn nc NK G) (hl : Lg β w g1 g2 NK NL G) (hr : rn ≤ 5000) (hn : nn ≤ 5000) (hkb : ∀ p ∈ NK, p.1.kids.length ≤ 5000)
include hg hl hr hn hkb
theorem sameGr_any : Calls Tryz.prog 33 #[.agg #[.slice (some ⟨g1, 0, none⟩) rn (rn + 12), .slice (some ⟨g2, 0, none⟩) nn (nn + 12)], .agg #[.slice ro rn rc, .slice no nn nc]] w fun r w' => r = .returned (.bool true) ∧ Below w.heap.size w w' := by
 have hgl := hl.gr hg (by omega) (by omega) (fun p hp => by have := hkb p hp; omega)
 have HR := Lib.hid (fun w' (hb : Below w.heap.size w w') => sameRu_any w' (some ⟨g1, 0, none⟩) ro rn (rn + 12) rc G.rules (hgl.below hb).rul (hg.below hb).rul)
 have HN := Lib.hid (fun w' (hb : Below w.heap.size w w') => sameNs_any w' (some ⟨g2, 0, none⟩) no nn (nn + 12) nc NL NK (hgl.below hb).nod (hg.below hb).nod (hgl.eq.trans hg.eq.symm))
 have HB0 := Lib.hid (al2 (Below.refl w.heap.size w) (.cells #[.slice (some ⟨g1, 0, none⟩) rn (rn + 12), .slice (some ⟨g2, 0, none⟩) nn (nn + 12)] 25) (.cells #[.slice ro rn rc, .slice no nn nc] 25))
 have HA0 := Lib.hid ((hrow.new w #[.slice (some ⟨g1, 0, none⟩) rn (rn + 12), .slice (some ⟨g2, 0, none⟩) nn (nn + 12)] 25).below ((Below.refl _ _).alloc (Nat.le_refl _) (.cells #[.slice ro rn rc, .slice no nn nc] 25)))
 have HZ0 : Hid (hrow ((w.alloc (.cells #[.slice (some ⟨g1, 0, none⟩) rn (rn + 12), .slice (some ⟨g2, 0, none⟩) nn (nn + 12)] 25)).alloc (.cells #[.slice ro rn rc, .slice no nn nc] 25)) (w.heap.size + 1) #[.slice ro rn rc, .slice no nn nc] 25) := by have h := hrow.new (w.alloc (.cells #[.slice (some ⟨g1, 0, none⟩) rn (rn + 12), .slice (some ⟨g2, 0, none⟩) nn (nn + 12)] 25)) #[.slice ro rn rc, .slice no nn nc] 25; rwa [World.size_alloc] at h
 go_enter Tryz.func33, Tryz.ntmps33
 go_upto_region 1 with (fail)
 revert HB0 HA0 HZ0
 generalize (w.alloc _).alloc _ = w1
 generalize hh1 : w.heap.size + 1 = h1
 generalize hh0 : w.heap.size = h0
 intro HB0 HA0 HZ0
 have HB1 : Hid (Below w.heap.size w w1) := by rw [hh0]; exact HB0.out
 have hne : h0 ≠ h1 := by omega
 clear HB0 hh0 hh1
 obtain ⟨a0, a1⟩ := (HA0.out).c2
 obtain ⟨z0, z1⟩ := (HZ0.out).c2
 go_wp2_with fail
 refine (HR.out w1 HB1.out).mono ?_
 rintro e w2 ⟨rfl, hb2⟩
 have HB2 := Lib.hid (HB1.out.trans (hb2.mono HB1.out.size))
 have a1 : w2.cell? ⟨h0, 1, none⟩ = some (.slice (some ⟨g2, 0, none⟩) nn (nn + 12)) := (HA0.out.below hb2).cell 1
 have z1 : w2.cell? ⟨h1, 1, none⟩ = some (.slice no nn nc) := (HZ0.out.below hb2).cell 1
 clear hb2 HA0 HZ0 a0 z0
 go_wp2_with fail
 refine (HN.out w2 HB2.out).mono ?_
 rintro e w3 ⟨rfl, hb3⟩
 have HB3 := Lib.hid (HB2.out.trans (hb3.mono HB2.out.size))
 clear hb3
 go_wp2_with fail
 go_ret
 exact ⟨rfl, HB3.out⟩
include HMb HMr HMn
theorem keptGr_any : Calls Tryz.prog 15 #[.agg #[.slice (some ⟨g1, 0, none⟩) rn (rn + 12), .slice (some ⟨g2, 0, none⟩) nn (nn + 12)], .agg #[.slice ro rn rc, .slice no nn nc]] w fun r w' => r = .returned (.bool true) ∧ Below w.heap.size w w' := by
 have HS := Lib.hid (fun w' (hb : Below w.heap.size w w') => sameGr_any β w' ro no rn rc nn nc g1 g2 NK NL G (hg.below hb) (hl.below hb) hr hn hkb)
 have HR := Lib.hid (fun w' (hb : Below w.heap.size w w') => keptRu_any β HMr w' g1 ro rn rc G.rules (hl.rul.below hb) (hg.rul.below hb) hr)
 have HN := Lib.hid (fun w' (hb : Below w.heap.size w w') => keptNs_any β HMb HMn w' g2 g2 no nn nc NK NL (hl.nod.below hb) (hl.lt.below hb) (hg.nod.below hb) hn hkb)
 have HB0 := Lib.hid (al2 (Below.refl w.heap.size w) (.cells #[.slice (some ⟨g1, 0, none⟩) rn (rn + 12), .slice (some ⟨g2, 0, none⟩) nn (nn + 12)] 25) (.cells #[.slice ro rn rc, .slice no nn nc] 25))
 have HA0 := Lib.hid ((hrow.new w #[.slice (some ⟨g1, 0, none⟩) rn (rn + 12), .slice (some ⟨g2, 0, none⟩) nn (nn + 12)] 25).below ((Below.refl _ _).alloc (Nat.le_refl _) (.cells #[.slice ro rn rc, .slice no nn nc] 25)))
 have HZ0 : Hid (hrow ((w.alloc (.cells #[.slice (some ⟨g1, 0, none⟩) rn (rn + 12), .slice (some ⟨g2, 0, none⟩) nn (nn + 12)] 25)).alloc (.cells #[.slice ro rn rc, .slice no nn nc] 25)) (w.heap.size + 1) #[.slice ro rn rc, .slice no nn nc] 25) := by have h := hrow.new (w.alloc (.cells #[.slice (some ⟨g1, 0, none⟩) rn (rn + 12), .slice (some ⟨g2, 0, none⟩) nn (nn + 12)] 25)) #[.slice ro rn rc, .slice no nn nc] 25; rwa [World.size_alloc] at h
 go_enter Tryz.func15, Tryz.ntmps15
 go_upto_region 1 with (fail)
 revert HB0 HA0 HZ0
 generalize (w.alloc _).alloc _ = w1
 generalize hh1 : w.heap.size + 1 = h1
 generalize hh0 : w.heap.size = h0
 intro HB0 HA0 HZ0
 have HB1 : Hid (Below w.heap.size w w1) := by rw [hh0]; exact HB0.out
 have hne : h0 ≠ h1 := by omega
 clear HB0 hh0 hh1
 obtain ⟨a0, a1⟩ := (HA0.out).c2
 obtain ⟨z0, z1⟩ := (HZ0.out).c2
 go_wp2_with fail
 refine (HS.out w1 HB1.out).mono ?_
 rintro e w2 ⟨rfl, hb2⟩
 have HB2 := Lib.hid (HB1.out.trans (hb2.mono HB1.out.size))
 have HA2 := Lib.hid (HA0.out.below hb2)
 have HZ2 := Lib.hid (HZ0.out.below hb2)
 have a0 : w2.cell? ⟨h0, 0, none⟩ = some (.slice (some ⟨g1, 0, none⟩) rn (rn + 12)) := HA2.out.cell 0
 have z0 : w2.cell? ⟨h1, 0, none⟩ = some (.slice ro rn rc) := HZ2.out.cell 0
 clear hb2 HA0 HZ0 a1 z1
 go_wp2_with fail
 refine (HR.out w2 HB2.out).mono ?_
 rintro e w3 ⟨rfl, hb3⟩
 have HB3 := Lib.hid (HB2.out.trans (hb3.mono HB2.out.size))
 have a1 : w3.cell? ⟨h0, 1, none⟩ = some (.slice (some ⟨g2, 0, none⟩) nn (nn + 12)) := (HA2.out.below hb3).cell 1
 have z1 : w3.cell? ⟨h1, 1, none⟩ = some (.slice no nn nc) := (HZ2.out.below hb3).cell 1
 clear hb3 HA2 HZ2 a0 z0
 go_wp2_with fail
 refine (HN.out w3 HB3.out).mono ?_
 rintro e w4 ⟨rfl, hb4⟩
 have HB4 := Lib.hid (HB3.out.trans (hb4.mono HB3.out.size))
 clear hb4
 go_wp2_with fail
 go_ret
 exact ⟨rfl, HB4.out⟩
end
end Go.Proofs.YtdnkffplkleolaaGreat
namespace Go.Proofs.YtdnkffplkleolaaGreat
open Go.RowKit

section
variable (μ : Int → Int → Int)
def mrow (k n : Nat) : List Tw := (List.range n).map fun j : Nat => mkT μ k (j : Int)
theorem mrow_len (k n : Nat) : (mrow μ k n).length = n := by simp [mrow]
theorem mrow_get (k n j : Nat) (h : j < n) : (mrow μ k n)[j]? = some (mkT μ k j) := by simp [mrow, h]
end
theorem mrow_of {μ : Int → Int → Int} {l : List Tw} {k n : Nat} (hl : l.length = n) (h : ∀ j, j < n → l[j]? = some (mkT μ k j)) : l = mrow μ k n := by
 apply List.ext_getElem?
 intro j
 by_cases hj : j < n
 ·rw [h j hj, mrow_get μ k n j hj]
 ·rw [List.getElem?_eq_none (by omega), List.getElem?_eq_none (by rw [mrow_len]; omega)]

/-- The row of the lists, and the lists. -/
structure Fl (w0 w : World) (B : Nat) (K : Nat) (lg lc : Nat) (R : Nat → Value) (n : Nat → Nat) (Y : Nat → List Tw) (m : Nat) (G : Nat → Value) (Z : Nat → List Tw) : Prop where
 two : Two twc B 74 5 w K R Y m G Z
 ls : w.ownsRow B 32 1 (.slice (some ⟨lg, 0, none⟩) K lc) K ((List.range K).map R)
 len : ∀ k, k < K → (Y k).length = n k
 fr : Fr (fun b => ∃ i, i < K ∧ (R i).ownBlock = some b) w0 w
 gb : ∀ i g, i < m → (G i).ownBlock = some g → g < w0.heap.size → (R i).ownBlock = some g
theorem Fl.below {w0 w w' : World} {B K lg lc m : Nat} {R G : Nat → Value} {n : Nat → Nat} {Y Z : Nat → List Tw} (h : Fl w0 w B K lg lc R n Y m G Z) (hm : m ≤ K) (_hB : B ≤ w.heap.size) (hb : Below w.heap.size w w') : Fl w0 w' B K lg lc R n Y m G Z :=
 ⟨h.two.below hm hb, owns_fr h.ls (Fr.of_below (F := fun _ => False) hb) (fun _ _ h => h), h.len, h.fr.trans (Fr.of_below (F := fun _ => False) hb) (fun _ _ h => h.elim), h.gb⟩
theorem Fl.size {w0 w : World} {B K lg lc m : Nat} {R G : Nat → Value} {n : Nat → Nat} {Y Z : Nat → List Tw} (h : Fl w0 w B K lg lc R n Y m G Z) : B ≤ w.heap.size := by
 have := h.ls.lt lg rfl; omega
/-- The k-th list, where it stands. -/
theorem Fl.row {w0 w : World} {B K lg lc m : Nat} {R G : Nat → Value} {n : Nat → Nat} {Y Z : Nat → List Tw} (h : Fl w0 w B K lg lc R n Y m G Z) {k : Nat} (hk : k < K) :
  ∃ ao cap, R k = .slice ao (n k) cap ∧ w.cell? ⟨lg, k, none⟩ = some (.slice ao (n k) cap) ∧ n k ≤ cap ∧ cap ≤ 9223372036854775807 := by
 obtain ⟨ao, cap, hv, hs⟩ := Sv.of_owns (h.two.own1 k hk)
 have hb := hs.bound
 rw [h.len k hk] at hv hb
 refine ⟨ao, cap, hv, ?_, hb⟩
 rw [h.ls.cellAt k (by omega)]
 simp [hk, hv]
/-- An element of the k-th list, where it stands. -/
theorem Fl.elem {w0 w : World} {B K lg lc m : Nat} {R G : Nat → Value} {n : Nat → Nat} {Y Z : Nat → List Tw} (h : Fl w0 w B K lg lc R n Y m G Z) {k i : Nat} (hk : k < K) (hi : i < n k) :
  ∃ g cap, R k = .slice (some ⟨g, 0, none⟩) (n k) cap ∧ (∀ j, j < 5 → w.cell? ⟨g, i * 5 + j, none⟩ = (twv ((Y k).getD i (tw 0 0 0 0)))[j]? ∧ w.frozen? ⟨g, i * 5 + j, none⟩ = false) ∧ B ≤ g ∧ g < w.heap.size := by
 have ho := h.two.own1 k hk
 rw [h.len k hk] at ho
 obtain ⟨g, cap, hv, hb, hg⟩ := World.ownsRow.form ho (by omega)
 refine ⟨g, cap, hv, fun j hj => ?_, hb, hg⟩
 rw [hv] at ho
 refine ⟨?_, ho.frozenAt _⟩
 have hlk := h.len k hk
 rw [ho.cellAt (i * 5 + j) (by omega), fl_get twc_len (Y k) i j (by omega) hj]
 simp [twc, List.getD_eq_getElem?_getD, show i < (Y k).length by omega]
theorem setT5 (Y : List Tw) (i : Nat) (x : Tw) (hi : i < Y.length) : (((((Y.flatMap twc).set (i * 5) (.int .i64 x.rule)).set (i * 5 + 1) (.int .i64 x.lev)).set (i * 5 + 2) (.int .i64 x.fr)).set (i * 5 + 3) (.int .i64 x.to)).set (i * 5 + 4) (.int .i64 x.kids) = (Y.set i x).flatMap twc := by
 induction Y generalizing i with
 | nil => simp at hi
 | cons y Y ih =>
  cases i with
  | zero => simp [twc, twv]
  | succ i =>
   have := ih i (by simpa using hi)
   simp only [List.set_cons_succ, List.flatMap_cons]
   rw [← this]
   have e : ∀ (l : List Value) (q : Nat) (u : Value), (twc y ++ l).set (q + 5) u = twc y ++ l.set q u := fun l q u => by
    rw [List.set_append_right _ _ (by rw [twc_len]; omega), twc_len, Nat.add_sub_cancel]
   have e0 : (i + 1) * 5 = i * 5 + 5 := by omega
   rw [e0, show i * 5 + 5 + 1 = (i * 5 + 1) + 5 by omega, show i * 5 + 5 + 2 = (i * 5 + 2) + 5 by omega, show i * 5 + 5 + 3 = (i * 5 + 3) + 5 by omega, show i * 5 + 5 + 4 = (i * 5 + 4) + 5 by omega, e, e, e, e, e]
theorem Fl.put {w0 w : World} {B K lg lc : Nat} {R G : Nat → Value} {n : Nat → Nat} {Y Z : Nat → List Tw} (h : Fl w0 w B K lg lc R n Y 0 G Z) {k i : Nat} (hk : k < K) (hi : i < n k) {g cap : Nat} (hR : R k = .slice (some ⟨g, 0, none⟩) (n k) cap) (x : Tw) :
  Fl w0 (((((w.setCell ⟨g, i * 5, none⟩ (.int .i64 x.rule)).setCell ⟨g, i * 5 + 1, none⟩ (.int .i64 x.lev)).setCell ⟨g, i * 5 + 2, none⟩ (.int .i64 x.fr)).setCell ⟨g, i * 5 + 3, none⟩ (.int .i64 x.to)).setCell ⟨g, i * 5 + 4, none⟩ (.int .i64 x.kids)) B K lg lc R n (upd Y k ((Y k).set i x)) 0 G Z := by
 have ho := h.two.own1 k hk
 have hlk := h.len k hk
 have hgr : Fr (fun b => b = g) w (((((w.setCell ⟨g, i * 5, none⟩ (.int .i64 x.rule)).setCell ⟨g, i * 5 + 1, none⟩ (.int .i64 x.lev)).setCell ⟨g, i * 5 + 2, none⟩ (.int .i64 x.fr)).setCell ⟨g, i * 5 + 3, none⟩ (.int .i64 x.to)).setCell ⟨g, i * 5 + 4, none⟩ (.int .i64 x.kids)) :=
  ((((Fr.setCell w ⟨g, i * 5, none⟩ _).trans (Fr.setCell _ ⟨g, i * 5 + 1, none⟩ _) (fun _ _ h => h)).trans (Fr.setCell _ ⟨g, i * 5 + 2, none⟩ _) (fun _ _ h => h)).trans (Fr.setCell _ ⟨g, i * 5 + 3, none⟩ _) (fun _ _ h => h)).trans (Fr.setCell _ ⟨g, i * 5 + 4, none⟩ _) (fun _ _ h => h)
 have hst := ho
 rw [hR, hlk] at hst
 have h5 := (((((hst.stored (i * 5) (.int .i64 x.rule)).1.stored (i * 5 + 1) (.int .i64 x.lev)).1.stored (i * 5 + 2) (.int .i64 x.fr)).1.stored (i * 5 + 3) (.int .i64 x.to)).1.stored (i * 5 + 4) (.int .i64 x.kids)).1
 rw [setT5 (Y k) i x (by omega), ← hR, ← hlk] at h5
 refine ⟨h.two.put hk (by rw [hR]; rfl) hgr h5, owns_fr h.ls hgr ?_, fun j hj => ?_, h.fr.trans hgr (fun q _ hq => ⟨k, hk, by rw [hR, hq]; rfl⟩), fun i g hi => absurd hi (by omega)⟩
 ·rintro b hb rfl
  have := owns_type ho h.ls (by rw [hR]; rfl) hb
  cases this
 ·by_cases e : j = k
  ·subst e; rw [upd_same, List.length_set]; exact h.len _ hj
  ·rw [upd_other _ _ e]; exact h.len j hj
end Go.Proofs.YtdnkffplkleolaaGreat
namespace Go.Proofs.YtdnkffplkleolaaGreat
open Go.RowKit

section
variable {w0 w w' : World} {B K lg lc gg m : Nat} {R G : Nat → Value} {n : Nat → Nat} {Y Z : Nat → List Tw} {L : List Value}

theorem Two.congr (h : Two twc B 74 5 w K R Y 0 R Z) {Y' : Nat → List Tw} (hy : ∀ k, k < K → Y k = Y' k) (G : Nat → Value) (Z' : Nat → List Tw) : Two twc B 74 5 w K R Y' 0 G Z' :=
 Two.start (fun i hi => by rw [← hy i hi]; exact h.own1 i hi) (fun i j g hi hj h1 h2 => h.ap i j g hi hj (.inl h1) (.inl h2)) G Z'
theorem Fl.congr (h : Fl w0 w B K lg lc R n Y 0 R Z) {Y' : Nat → List Tw} (hy : ∀ k, k < K → Y k = Y' k) (G : Nat → Value) (Z' : Nat → List Tw) : Fl w0 w B K lg lc R n Y' 0 G Z' :=
 ⟨h.two.congr hy G Z', h.ls, fun k hk => by rw [← hy k hk]; exact h.len k hk, h.fr, fun i g hi => absurd hi (by omega)⟩

/-- The row of the lists that have grown, beside the lists. -/
structure Fg (w0 w : World) (B K lg lc gg : Nat) (R : Nat → Value) (n : Nat → Nat) (Y : Nat → List Tw) (m : Nat) (G : Nat → Value) (Z : Nat → List Tw) (q : Nat) (L : List Value) : Prop where
 fl : Fl w0 w B K lg lc R n Y m G Z
 gs : w.ownsRow B 32 1 (.slice (some ⟨gg, 0, none⟩) K K) K L
 tab : ∀ i, i < q → L[i]? = some (G i)
 ne : gg ≠ lg
 mle : m ≤ K
 gn : w0.heap.size ≤ gg
variable {q : Nat}
theorem Fg.size (h : Fg w0 w B K lg lc gg R n Y m G Z q L) : B ≤ w.heap.size := h.fl.size
theorem Fg.below (h : Fg w0 w B K lg lc gg R n Y m G Z q L) (hb : Below w.heap.size w w') : Fg w0 w' B K lg lc gg R n Y m G Z q L :=
 ⟨h.fl.below h.mle h.size hb, owns_fr h.gs (Fr.of_below (F := fun _ => False) hb) (fun _ _ h => h), h.tab, h.ne, h.mle, h.gn⟩
theorem Fg.next (h : Fg w0 w B K lg lc gg R n Y m G Z m L) (hm : m < K) : Fg w0 w B K lg lc gg R n Y (m + 1) (upd G m (R m)) (upd Z m (Y m)) m L :=
 ⟨⟨h.fl.two.next hm, h.fl.ls, h.fl.len, h.fl.fr, fun i g hi hg hlt => by
   by_cases e : i = m
   ·subst e; rw [upd_same] at hg; exact hg
   ·rw [upd_other _ _ e] at hg; exact h.fl.gb i g (by omega) hg hlt⟩, h.gs, fun i hi => by rw [upd_other _ _ (by omega)]; exact h.tab i hi, h.ne, hm, h.gn⟩
theorem Fg.app (h : Fg w0 w B K lg lc gg R n Y (m + 1) G Z m L) {ys : List Tw} {v' : Value} (hA : AppTo w B 74 5 (G m) (Z m).length ((Z m).flatMap twc) ys.length (ys.flatMap twc) v' w') :
  Fg w0 w' B K lg lc gg R n Y (m + 1) (upd G m v') (upd Z m (Z m ++ ys)) m L := by
 have hm : m < K := h.mle
 have hB := h.size
 have h2 := h.fl.two.app (by decide) twc_len hm hB hA
 have ho := h.fl.two.own2 m (by omega)
 have keep : ∀ {b : Nat} {c : Nat} {xs : List Value}, w.ownsRow B 32 1 (.slice (some ⟨b, 0, none⟩) K c) K xs → w'.ownsRow B 32 1 (.slice (some ⟨b, 0, none⟩) K c) K xs := by
  intro b c xs hb
  rcases hA with ⟨g, cap, e1, e2, hf, _, _⟩ | hw
  ·refine owns_fr hb hf ?_
   rintro b' hb' rfl
   have := owns_type ho hb (by rw [e1]; rfl) hb'
   cases this
  ·exact owns_fr hb (Fr.of_below (F := fun _ => False) hw.2) (fun _ _ h => h)
 have hfr : Fr (fun b => ∃ i, i < K ∧ (R i).ownBlock = some b) w0 w' := by
  rcases hA with ⟨g, cap, e1, e2, hf, _, _⟩ | hw
  ·exact h.fl.fr.trans hf (fun q hq hqg => ⟨m, hm, by rw [hqg] at hq ⊢; exact h.fl.gb m g (by omega) (by rw [e1]; rfl) hq⟩)
  ·exact h.fl.fr.trans (Fr.of_below (F := fun _ => False) hw.2) (fun _ _ h => h.elim)
 have hgb : ∀ i g, i < m + 1 → (upd G m v' i).ownBlock = some g → g < w0.heap.size → (R i).ownBlock = some g := by
  intro i g hi hg hlt
  by_cases e : i = m
  ·subst e
   rw [upd_same] at hg
   rcases hA with ⟨g', cap, e1, e2, hf, _, _⟩ | hw
   ·rw [e2] at hg; exact h.fl.gb i g (by omega) (by rw [e1]; exact hg) hlt
   ·have := (hw.1.lt g hg).1; have := h.fl.fr.size; omega
  ·rw [upd_other _ _ e] at hg; exact h.fl.gb i g hi hg hlt
 exact ⟨⟨h2, keep h.fl.ls, h.fl.len, hfr, hgb⟩, keep h.gs, fun i hi => by rw [upd_other _ _ (by omega)]; exact h.tab i hi, h.ne, h.mle, h.gn⟩
theorem Fg.set (h : Fg w0 w B K lg lc gg R n Y (m + 1) G Z m L) : Fg w0 (w.setCell ⟨gg, m, none⟩ (G m)) B K lg lc gg R n Y (m + 1) G Z (m + 1) (L.set m (G m)) := by
 have hm : m < K := h.mle
 have hst := h.gs.stored m (G m)
 have hf := Fr.setCell w ⟨gg, m, none⟩ (G m)
 have hL : L.length = K := by have := h.gs.1; omega
 refine ⟨⟨h.fl.two.far h.gs rfl (by decide) h.mle hf, owns_fr h.fl.ls hf ?_, h.fl.len, h.fl.fr.trans hf (fun q hq hqg => by have h3 : q = gg := hqg; have := h.gn; omega), h.fl.gb⟩, hst.1, fun i hi => ?_, h.ne, h.mle, h.gn⟩
 ·rintro b hb hb'
  have h1 : lg = b := by simpa [Value.ownBlock] using hb
  have h2 : b = gg := hb'
  exact h.ne (by omega)
 ·rw [List.getElem?_set]
  by_cases e : m = i
  ·subst e; rw [if_pos rfl, if_pos (by omega)]
  ·rw [if_neg e]; exact h.tab i (by omega)
/-- The k-th list that has grown, where it stands. -/
theorem Fg.grow (h : Fg w0 w B K lg lc gg R n Y m G Z m L) {k : Nat} (hk : k < m) :
  ∃ ao cap, G k = .slice ao (Z k).length cap ∧ w.cell? ⟨gg, k, none⟩ = some (.slice ao (Z k).length cap) ∧ (Z k).length ≤ cap ∧ cap ≤ 9223372036854775807 := by
 obtain ⟨ao, cap, hv, hs⟩ := Sv.of_owns (h.fl.two.own2 k hk)
 have hb := hs.bound
 have hm := h.mle
 refine ⟨ao, cap, hv, ?_, hb⟩
 rw [h.gs.cellAt k (by omega), h.tab k hk, hv]
theorem Fg.val (h : Fg w0 w B K lg lc gg R n Y m G Z q L) {k : Nat} (hk : k < m) : ∃ ao cap, G k = .slice ao (Z k).length cap ∧ (Z k).length ≤ cap ∧ cap ≤ 9223372036854775807 := by
 obtain ⟨ao, cap, hv, hs⟩ := Sv.of_owns (h.fl.two.own2 k hk)
 exact ⟨ao, cap, hv, hs.bound⟩
theorem Fg.growElem (h : Fg w0 w B K lg lc gg R n Y m G Z m L) {k i : Nat} (hk : k < m) (hi : i < (Z k).length) {x : Tw} (hx : (Z k)[i]? = some x) :
  ∃ g cap, G k = .slice (some ⟨g, 0, none⟩) (Z k).length cap ∧ (∀ j, j < 5 → w.cell? ⟨g, i * 5 + j, none⟩ = (twv x)[j]?) ∧ g < w.heap.size := by
 have ho := h.fl.two.own2 k hk
 obtain ⟨g, cap, hv, hb, hg⟩ := World.ownsRow.form ho (by omega)
 refine ⟨g, cap, hv, fun j hj => ?_, hg⟩
 rw [hv] at ho
 rw [ho.cellAt (i * 5 + j) (by omega), fl_get twc_len (Z k) i j hi hj]
 have := (List.getElem?_eq_some_iff.1 hx).2
 rw [this]
 simp [twc]
theorem Fl.elemX {k i : Nat} (h : Fl w0 w B K lg lc R n Y m G Z) (hk : k < K) (hi : i < n k) {x : Tw} (hx : (Y k)[i]? = some x) :
  ∃ g cap, R k = .slice (some ⟨g, 0, none⟩) (n k) cap ∧ (∀ j, j < 5 → w.cell? ⟨g, i * 5 + j, none⟩ = (twv x)[j]?) ∧ g < w.heap.size := by
 have ho := h.two.own1 k hk
 rw [h.len k hk] at ho
 obtain ⟨g, cap, hv, hb, hg⟩ := World.ownsRow.form ho (by omega)
 refine ⟨g, cap, hv, fun j hj => ?_, hg⟩
 rw [hv] at ho
 have hlk := h.len k hk
 rw [ho.cellAt (i * 5 + j) (by omega), fl_get twc_len (Y k) i j (by omega) hj]
 have := (List.getElem?_eq_some_iff.1 hx).2
 rw [this]
 simp [twc]
theorem Fg.none (h : Fg w0 w B K lg lc gg R n Y m G Z q L) : Fg w0 w B K lg lc gg R n Y 0 G Z 0 L :=
 ⟨⟨h.fl.two.none, h.fl.ls, h.fl.len, h.fl.fr, fun i g hi => absurd hi (by omega)⟩, h.gs, fun i hi => absurd hi (by omega), h.ne, Nat.zero_le _, h.gn⟩
end
theorem mrow_snoc (μ : Int → Int → Int) (k n i : Nat) : mrow μ k (n + i) ++ [mkT μ k ((n : Int) + i)] = mrow μ k (n + (i + 1)) := by
 unfold mrow
 rw [show n + (i + 1) = (n + i) + 1 by omega, List.range_succ, List.map_append]
 simp
end Go.Proofs.YtdnkffplkleolaaGreat
namespace Go.Proofs.YtdnkffplkleolaaGreat
open Go.RowKit
set_option maxRecDepth 100000
set_option maxHeartbeats 4000000

/-- The block of a number. -/
def findBlock (n : Nat) : Code → Option Code
 | .seq a b => match findBlock n a with
  | some c => some c
  | none => findBlock n b
 | .block k c => if k = n then some (.block k c) else findBlock n c
 | .scope c => findBlock n c
 | .loop c => findBlock n c
 | .cond _ a b => match findBlock n a with
  | some c => some c
  | none => findBlock n b
 | _ => none
noncomputable def blk57 (n : Nat) : Code := ((Tryz.f70.body.bind (findBlock n)).getD .skip)

theorem blk5 (Q0 : Exit → Act → World → Prop) (w : World) (B k lg lc gg : Nat) (hK : k ≤ 100) (hlc1 : k ≤ lc) (hlc2 : lc ≤ 9223372036854775807) (R G : Nat → Value) (n : Nat → Nat) (Z : Nat → List Tw) (L : List Value) {c1 c2 c3 c4 c6 c7 c8 c10 c11 c12 c13 c14 c15 c16 c17 c18 c19 c20 c21 c22 c23 c24 c25 c26 c27 c28 c29 c30 c31 c32 c33 c34 c35 c36 c37 c38 c39 c40 c41 c42 c43 c44 c45 c46 c47 c48 c49 c50 c51 c52 c53 c54 c55 c56 c57 c58 c59 c60 c61 c62 c63 c64 c65 c66 c67 c68 c69 c70 c71 c72 c73 c74 c75 c76 c77 c78 c79 c80 c81 c82 c83 c84 c85 c86 c87 c88 c89 c90 c91 c92 c93 c94 c95 c96 c97 c98 c99 c100 c101 c102 c103 c104 c105 c106 c107 c108 c109 c110 c111 c112 c113 c114 c115 c116 c117 c118 c119 c120 c121 c122 c123 c124 c125 c126 c127 c128 c129 c130 c131 c132 c133 c134 c135 c136 c137 c138 c139 c140 c141 c142 c143 c144 c145 c146 c147 c148 c149 c150 c151 c152 c153 c154 c155 c156 c157 c158 c159 c160 c161 c162 c163 c164 c165 c166 c167 c168 c169 c170 c171 c172 c173 c174 c175 c176 c177 c178 c179 c180 c181 c182 c183 c184 c185 c186 c187 c188 c189 c190 c191 c192 : Value} (wo : World) (μ : Int → Int → Int) (HMk : Hid (MkC μ)) (HN : Hid (∀ k', k' < k → n k' ≤ 2000)) (HS : Hid (Fg w wo B k lg lc gg R n (fun k' => mrow μ k' (n k')) k G Z k L ∧ ∀ j', j' < k → Z j' = mrow μ j' (n j' + 64)))
  (hexit : ∀ (u2 u9 u10 u73 u74 u75 u76 u77 u78 u79 u80 u81 u82 u83 u84 u85 u86 u87 u88 u89 u90 u91 u92 u93 u94 u95 u96 u97 u98 u99 u100 u101 u102 u103 u104 u105 u106 u107 u108 u109 u110 u111 u112 u113 u114 u115 u116 u117 u118 u119 u120 u121 u122 : Value) (w' : World), Hid (Below wo.heap.size wo w') → Q0 .normal ⟨#[.slice (some ⟨lg, 0, none⟩) k lc, c1, u2, c3, c4, .slice (some ⟨gg, 0, none⟩) k k, c6, c7, c8, u9, u10, c11, c12, c13, c14, c15, c16, c17, c18, c19, c20, c21, c22, c23, c24, c25, c26, c27, c28, c29, c30, c31, c32, c33, c34, c35, c36, c37, c38, c39, c40, c41, c42, c43, c44, c45, c46, c47, c48, c49, c50, c51, c52, c53, c54, c55, c56, c57, c58, c59, c60, c61, c62, c63, c64, c65, c66, c67, c68, c69, c70, c71, c72, u73, u74, u75, u76, u77, u78, u79, u80, u81, u82, u83, u84, u85, u86, u87, u88, u89, u90, u91, u92, u93, u94, u95, u96, u97, u98, u99, u100, u101, u102, u103, u104, u105, u106, u107, u108, u109, u110, u111, u112, u113, u114, u115, u116, u117, u118, u119, u120, u121, u122, c123, c124, c125, c126, c127, c128, c129, c130, c131, c132, c133, c134, c135, c136, c137, c138, c139, c140, c141, c142, c143, c144, c145, c146, c147, c148, c149, c150, c151, c152, c153, c154, c155, c156, c157, c158, c159, c160, c161, c162, c163, c164, c165, c166, c167, c168, c169, c170, c171, c172, c173, c174, c175, c176, c177, c178, c179, c180, c181, c182, c183, c184, c185, c186, c187, c188, c189, c190, c191, c192], []⟩ w') :
  Code.wp Tryz.prog (blk57 8) Q0 ⟨#[.slice (some ⟨lg, 0, none⟩) k lc, c1, c2, c3, c4, .slice (some ⟨gg, 0, none⟩) k k, c6, c7, c8, .int .i64 0, c10, c11, c12, c13, c14, c15, c16, c17, c18, c19, c20, c21, c22, c23, c24, c25, c26, c27, c28, c29, c30, c31, c32, c33, c34, c35, c36, c37, c38, c39, c40, c41, c42, c43, c44, c45, c46, c47, c48, c49, c50, c51, c52, c53, c54, c55, c56, c57, c58, c59, c60, c61, c62, c63, c64, c65, c66, c67, c68, c69, c70, c71, c72, c73, c74, c75, c76, c77, c78, c79, c80, c81, c82, c83, c84, c85, c86, c87, c88, c89, c90, c91, c92, c93, c94, c95, c96, c97, c98, c99, c100, c101, c102, c103, c104, c105, c106, c107, c108, c109, c110, c111, c112, c113, c114, c115, c116, c117, c118, c119, c120, c121, c122, c123, c124, c125, c126, c127, c128, c129, c130, c131, c132, c133, c134, c135, c136, c137, c138, c139, c140, c141, c142, c143, c144, c145, c146, c147, c148, c149, c150, c151, c152, c153, c154, c155, c156, c157, c158, c159, c160, c161, c162, c163, c164, c165, c166, c167, c168, c169, c170, c171, c172, c173, c174, c175, c176, c177, c178, c179, c180, c181, c182, c183, c184, c185, c186, c187, c188, c189, c190, c191, c192], []⟩ wo := by
 conv => arg 2; whnf
 have HSB := Lib.hid (fun w' (hb : Below wo.heap.size wo w') => HS.out.1.below hb)
 have HZ := Lib.hid HS.out.2
 clear HS
 go_wp2_with fail
 go_loopw [9] (fun i wr => ∃ a : Nat, a ≤ k ∧ i = .int .i64 a ∧ Hid (Below wo.heap.size wo wr)) (fun i _ => k - (intOf i).toNat)
 case atStart => exact ⟨0, by omega, rfl, Below.refl _ _⟩
 case round =>
  obtain ⟨a, ha, rfl, HBa⟩ := hrel
  obtain ⟨wo3, rfl⟩ : ∃ wo3 : World, wo3 = wr := ⟨_, rfl⟩
  by_cases hat : a < k
  ·have hat' : (a : Int) < k := by omega
   have hna := HN.out a hat
   have hZl : (Z a).length = n a + 64 := by rw [HZ.out a hat, mrow_len]
   obtain ⟨go, gcap, hGv, hgb1, hgb2⟩ := (HSB.out wo3 HBa.out).val (k := a) hat
   rw [hZl] at hGv hgb1
   have HGv := Lib.hid hGv; clear hGv
   have HZa := Lib.hid (HZ.out a hat)
   have HZl := Lib.hid hZl; clear hZl
   obtain ⟨ra, rcap, hRv, _, hrb1, hrb2⟩ := (HSB.out wo3 HBa.out).fl.row hat
   have HRv := Lib.hid hRv; clear hRv
   generalize hnn : n a = na at *
   have HNN := Lib.hid hnn; clear hnn
   have HCg : Hid (∀ w', Below wo.heap.size wo w' → w'.cell? ⟨gg, a, none⟩ = some (.slice go (na + 64) gcap)) := fun w' hb => by
    obtain ⟨go', gcap', h1, h2, _⟩ := (HSB.out w' hb).grow (k := a) hat
    rw [h2, ← h1, HGv.out]
   have HCl : Hid (∀ w', Below wo.heap.size wo w' → w'.cell? ⟨lg, a, none⟩ = some (.slice ra na rcap)) := fun w' hb => by
    obtain ⟨ra', rcap', h1, h2, _⟩ := (HSB.out w' hb).fl.row hat
    rw [h2, ← h1, HRv.out]
   go_wp2_with fail
   go_loopw [10] (fun c wi => ∃ i : Nat, i ≤ na + 64 ∧ c = .int .i64 i ∧ Hid (Below wo.heap.size wo wi)) (fun c _ => na + 64 - (intOf c).toNat)
   case atStart => exact ⟨0, by omega, rfl, HBa⟩
   case round =>
    obtain ⟨i, hi, rfl, HBi⟩ := hrel
    have hcg := HCg.out wr HBi.out
    by_cases hit : i < na + 64
    ·have hit' : (i : Int) < (na : Int) + 64 := by omega
     obtain ⟨g1, c1, hG1, hE1, _⟩ := (HSB.out wr HBi.out).growElem (k := a) (i := i) hat (by rw [HZl.out]; exact hit) (x := mkT μ a i) (by rw [HZa.out]; exact mrow_get μ a _ i hit)
     rw [HZl.out, HGv.out] at hG1
     simp only [Value.slice.injEq] at hG1
     obtain ⟨rfl, _, rfl⟩ := hG1
     have HE1 := Lib.hid hE1; clear hE1
     have later : ∀ (p : Addr) (v : Value), wr.cell? p = some v → ∀ y : Later wr, y.val.cell? p = some v := fun p v h y => (y.ok.cell (World.block_lt_of_cell? wr _ h)).trans h
     have y0 := later _ _ hcg
     have e0 : ∀ y : Later wr, y.val.cell? ⟨g1, i * 5, none⟩ = some (.int .i64 (μ a i)) := later _ _ (HE1.out 0 (by decide))
     have e1 : ∀ y : Later wr, y.val.cell? ⟨g1, i * 5 + 1, none⟩ = some (.int .i64 0) := later _ _ (HE1.out 1 (by decide))
     have e2 : ∀ y : Later wr, y.val.cell? ⟨g1, i * 5 + 2, none⟩ = some (.int .i64 0) := later _ _ (HE1.out 2 (by decide))
     have e3 : ∀ y : Later wr, y.val.cell? ⟨g1, i * 5 + 3, none⟩ = some (.int .i64 0) := later _ _ (HE1.out 3 (by decide))
     have e4 : ∀ y : Later wr, y.val.cell? ⟨g1, i * 5 + 4, none⟩ = some (.int .i64 0) := later _ _ (HE1.out 4 (by decide))
     have HM := Lib.hid (fun y : Later wr => HMk.out y.val a i (by omega) (by omega) (by omega) (by omega))
     have hcl := HCl.out wr HBi.out
     have y1 := later _ _ hcl
     by_cases hin : i < na
     ·as_aux_lemma =>
      have hin' : (i : Int) < na := by omega
      have t1 : decide (i < na) = true := decide_eq_true hin
      obtain ⟨g2, c2, hR2, hE2, _⟩ := (HSB.out wr HBi.out).fl.elemX hat (i := i) (by rw [HNN.out]; exact hin) (x := mkT μ a i) (mrow_get μ a _ i (by rw [HNN.out]; exact hin))
      rw [HNN.out, HRv.out] at hR2
      simp only [Value.slice.injEq] at hR2
      obtain ⟨rfl, _, rfl⟩ := hR2
      have HE2 := Lib.hid hE2; clear hE2
      have k0 : ∀ y : Later wr, y.val.cell? ⟨g2, i * 5, none⟩ = some (.int .i64 (μ a i)) := later _ _ (HE2.out 0 (by decide))
      have k1 : ∀ y : Later wr, y.val.cell? ⟨g2, i * 5 + 1, none⟩ = some (.int .i64 0) := later _ _ (HE2.out 1 (by decide))
      have k2 : ∀ y : Later wr, y.val.cell? ⟨g2, i * 5 + 2, none⟩ = some (.int .i64 0) := later _ _ (HE2.out 2 (by decide))
      have k3 : ∀ y : Later wr, y.val.cell? ⟨g2, i * 5 + 3, none⟩ = some (.int .i64 0) := later _ _ (HE2.out 3 (by decide))
      have k4 : ∀ y : Later wr, y.val.cell? ⟨g2, i * 5 + 4, none⟩ = some (.int .i64 0) := later _ _ (HE2.out 4 (by decide))
      clear later
      go_wp2_with fail
      refine wp_region_later (by kernel_rfl) (by kernel_rfl) ?_
      repeat (go_big_quiet_step ((go_at_call 94; exact Calls.later (HM.out _))))
      refine wpQuiet_nil ?_
      intro w5 hw5
      obtain ⟨y, rfl⟩ := hw5
      have HB5 := Lib.hid (HBi.out.trans (y.ok.mono HBi.out.size))
      clear y0 y1 e0 e1 e2 e3 e4 k0 k1 k2 k3 k4 HM
      generalize y.val = w5 at *
      go_wp2_with fail
      go_roundw
      case rel => exact ⟨i + 1, by omega, by go_num, HB5⟩
      case measure => simp [intOf]; omega
     ·as_aux_lemma =>
      have t1 : decide (i < na) = false := decide_eq_false hin
      clear later
      go_wp2_with fail
      refine wp_region_later (by kernel_rfl) (by kernel_rfl) ?_
      repeat (go_big_quiet_step ((go_at_call 94; exact Calls.later (HM.out _))))
      refine wpQuiet_nil ?_
      intro w5 hw5
      obtain ⟨y, rfl⟩ := hw5
      have HB5 := Lib.hid (HBi.out.trans (y.ok.mono HBi.out.size))
      clear y0 y1 e0 e1 e2 e3 e4 HM
      generalize y.val = w5 at *
      go_wp2_with fail
      go_roundw
      case rel => exact ⟨i + 1, by omega, by go_num, HB5⟩
      case measure => simp [intOf]; omega
    ·have hge : (na : Int) + 64 ≤ i := by omega
     go_wp2_with fail
     go_roundw
     case rel => exact ⟨a + 1, by omega, by go_num, HBi⟩
     case measure => simp [intOf]; omega
  ·obtain rfl : k = a := by omega
   clear HSB HZ
   go_wp2_with fail
   exact HBa
end Go.Proofs.YtdnkffplkleolaaGreat
namespace Go.Proofs.YtdnkffplkleolaaGreat
open Go.RowKit
set_option maxRecDepth 100000
set_option maxHeartbeats 4000000

theorem infoTw : (Tryz.prog.info? 74).map (fun i => (i.zero, i.size, i.bytes)) = some (some (.agg #[.int .i64 0, .int .i64 0, .int .i64 0, .int .i64 0, .int .i64 0]), 5, 40) := by kernel_rfl

/-- One element of an own row is written. -/
theorem Own.put5 {w0 w : World} {g n cap : Nat} {M : List Tw} (h : Own w0 w 74 5 (.slice (some ⟨g, 0, none⟩) n cap) n (M.flatMap twc)) (hM : M.length = n) {i : Nat} (hi : i < n) (x : Tw) :
  Own w0 (((((w.setCell ⟨g, i * 5, none⟩ (.int .i64 x.rule)).setCell ⟨g, i * 5 + 1, none⟩ (.int .i64 x.lev)).setCell ⟨g, i * 5 + 2, none⟩ (.int .i64 x.fr)).setCell ⟨g, i * 5 + 3, none⟩ (.int .i64 x.to)).setCell ⟨g, i * 5 + 4, none⟩ (.int .i64 x.kids)) 74 5 (.slice (some ⟨g, 0, none⟩) n cap) n ((M.set i x).flatMap twc) := by
 have hg := h.1.lt g rfl
 have h5 := (((((h.1.stored (i * 5) (.int .i64 x.rule)).1.stored (i * 5 + 1) (.int .i64 x.lev)).1.stored (i * 5 + 2) (.int .i64 x.fr)).1.stored (i * 5 + 3) (.int .i64 x.to)).1.stored (i * 5 + 4) (.int .i64 x.kids)).1
 rw [setT5 M i x (by omega)] at h5
 exact ⟨h5, ((((h.2.setCell hg.1 _).setCell hg.1 _).setCell hg.1 _).setCell hg.1 _).setCell hg.1 _⟩
theorem zeros64 : (madeCells (Value.agg #[.int .i64 0, .int .i64 0, .int .i64 0, .int .i64 0, .int .i64 0]).cells (64 * 5)).toList = (List.replicate 64 (⟨0, 0, 0, 0, 0⟩ : Tw)).flatMap twc := by kernel_rfl

theorem blk12 (Q0 : Exit → Act → World → Prop) (w : World) (B k lg lc gg : Nat) (hK : k ≤ 100) (hlc1 : k ≤ lc) (hlc2 : lc ≤ 9223372036854775807) (R G0 : Nat → Value) (n : Nat → Nat) (Z0 : Nat → List Tw) (L0 : List Value) {c1 c2 c3 c4 c6 c7 c8 c9 c10 c12 c13 c14 c15 c16 c17 c18 c19 c20 c21 c22 c23 c24 c25 c26 c27 c28 c29 c30 c31 c32 c33 c34 c35 c36 c37 c38 c39 c40 c41 c42 c43 c44 c45 c46 c47 c48 c49 c50 c51 c52 c53 c54 c55 c56 c57 c58 c59 c60 c61 c62 c63 c64 c65 c66 c67 c68 c69 c70 c71 c72 c73 c74 c75 c76 c77 c78 c79 c80 c81 c82 c83 c84 c85 c86 c87 c88 c89 c90 c91 c92 c93 c94 c95 c96 c97 c98 c99 c100 c101 c102 c103 c104 c105 c106 c107 c108 c109 c110 c111 c112 c113 c114 c115 c116 c117 c118 c119 c120 c121 c122 c123 c124 c125 c126 c127 c128 c129 c130 c131 c132 c133 c134 c135 c136 c137 c138 c139 c140 c141 c142 c143 c144 c145 c146 c147 c148 c149 c150 c151 c152 c153 c154 c155 c156 c157 c158 c159 c160 c161 c162 c163 c164 c165 c166 c167 c168 c169 c170 c171 c172 c173 c174 c175 c176 c177 c178 c179 c180 c181 c182 c183 c184 c185 c186 c187 c188 c189 c190 c191 c192 : Value} (wo : World) (μ : Int → Int → Int) (HMk : Hid (MkC μ)) (HN : Hid (∀ k', k' < k → n k' ≤ 2000)) (HS0 : Hid (Fg w wo B k lg lc gg R n (fun k' => mrow μ k' (n k')) 0 G0 Z0 0 L0))
  (hexit : ∀ (u11 u12 u13 u123 u124 u125 u126 u127 u128 u129 u130 u131 u132 u133 u134 u135 u136 u137 u138 u139 u140 u141 u142 u143 u144 u145 u146 u147 u148 u149 u150 u151 : Value) (w' : World), Hid (∃ (G : Nat → Value) (Z : Nat → List Tw) (L : List Value), Fg w w' B k lg lc gg R n (fun k' => mrow μ k' (n k')) k G Z k L ∧ ∀ a, a < k → Z a = mrow μ a (n a) ++ mrow μ (a + k) 64) → Q0 .normal ⟨#[.slice (some ⟨lg, 0, none⟩) k lc, c1, c2, c3, c4, .slice (some ⟨gg, 0, none⟩) k k, c6, c7, c8, c9, c10, u11, u12, u13, c14, c15, c16, c17, c18, c19, c20, c21, c22, c23, c24, c25, c26, c27, c28, c29, c30, c31, c32, c33, c34, c35, c36, c37, c38, c39, c40, c41, c42, c43, c44, c45, c46, c47, c48, c49, c50, c51, c52, c53, c54, c55, c56, c57, c58, c59, c60, c61, c62, c63, c64, c65, c66, c67, c68, c69, c70, c71, c72, c73, c74, c75, c76, c77, c78, c79, c80, c81, c82, c83, c84, c85, c86, c87, c88, c89, c90, c91, c92, c93, c94, c95, c96, c97, c98, c99, c100, c101, c102, c103, c104, c105, c106, c107, c108, c109, c110, c111, c112, c113, c114, c115, c116, c117, c118, c119, c120, c121, c122, u123, u124, u125, u126, u127, u128, u129, u130, u131, u132, u133, u134, u135, u136, u137, u138, u139, u140, u141, u142, u143, u144, u145, u146, u147, u148, u149, u150, u151, c152, c153, c154, c155, c156, c157, c158, c159, c160, c161, c162, c163, c164, c165, c166, c167, c168, c169, c170, c171, c172, c173, c174, c175, c176, c177, c178, c179, c180, c181, c182, c183, c184, c185, c186, c187, c188, c189, c190, c191, c192], []⟩ w') :
  Code.wp Tryz.prog (blk57 12) Q0 ⟨#[.slice (some ⟨lg, 0, none⟩) k lc, c1, c2, c3, c4, .slice (some ⟨gg, 0, none⟩) k k, c6, c7, c8, c9, c10, .int .i64 0, c12, c13, c14, c15, c16, c17, c18, c19, c20, c21, c22, c23, c24, c25, c26, c27, c28, c29, c30, c31, c32, c33, c34, c35, c36, c37, c38, c39, c40, c41, c42, c43, c44, c45, c46, c47, c48, c49, c50, c51, c52, c53, c54, c55, c56, c57, c58, c59, c60, c61, c62, c63, c64, c65, c66, c67, c68, c69, c70, c71, c72, c73, c74, c75, c76, c77, c78, c79, c80, c81, c82, c83, c84, c85, c86, c87, c88, c89, c90, c91, c92, c93, c94, c95, c96, c97, c98, c99, c100, c101, c102, c103, c104, c105, c106, c107, c108, c109, c110, c111, c112, c113, c114, c115, c116, c117, c118, c119, c120, c121, c122, c123, c124, c125, c126, c127, c128, c129, c130, c131, c132, c133, c134, c135, c136, c137, c138, c139, c140, c141, c142, c143, c144, c145, c146, c147, c148, c149, c150, c151, c152, c153, c154, c155, c156, c157, c158, c159, c160, c161, c162, c163, c164, c165, c166, c167, c168, c169, c170, c171, c172, c173, c174, c175, c176, c177, c178, c179, c180, c181, c182, c183, c184, c185, c186, c187, c188, c189, c190, c191, c192], []⟩ wo := by
 conv => arg 2; whnf
 go_wp2_with fail
 go_loopw [11] (fun i wr => ∃ (a : Nat) (G : Nat → Value) (Z : Nat → List Tw) (L : List Value), a ≤ k ∧ i = .int .i64 a ∧ Hid (Fg w wr B k lg lc gg R n (fun k' => mrow μ k' (n k')) a G Z a L ∧ ∀ a', a' < a → Z a' = mrow μ a' (n a') ++ mrow μ (a' + k) 64)) (fun i _ => k - (intOf i).toNat)
 case atStart => exact ⟨0, G0, Z0, L0, by omega, rfl, HS0.out, fun a' ha' => absurd ha' (by omega)⟩
 case round =>
  clear HS0
  obtain ⟨a, G, Z, L, ha, rfl, HS⟩ := hrel
  by_cases hat : a < k
  ·have hat' : (a : Int) < k := by omega
   obtain ⟨i0, hi, hz0, hz1, hz2⟩ := info_parts infoTw
   have Hi := Lib.hid hi; have Hz0 := Lib.hid hz0; have Hz1 := Lib.hid hz1; have HBy : Hid (i0.bytes * 64 ≤ 281474976710656) := by unfold Hid; rw [hz2]; omega
   clear hi hz0 hz1 hz2
   go_wp2_with (first
    | (at_make; refine wpList_make_full _ rfl _ _ 32 rfl wr.heap.size 74 i0 _ 5 Tryz.underlying32 Hi.out Hz0.out Hz1.out _ _ _ _ 64 rfl rfl rfl rfl HBy.out (by decide) (Nat.le_refl _) ?_; intro w6 hown6 hg6; have HO6 : Hid (Own wr w6 74 5 (.slice (some ⟨wr.heap.size, 0, none⟩) 64 64) 64 ((List.replicate 64 (⟨0, 0, 0, 0, 0⟩ : Tw)).flatMap twc)) := ⟨zeros64 ▸ hown6, ((Below.refl wr.heap.size wr).grown hg6 (Nat.le_refl _) (by simp))⟩; clear hown6 hg6))
   clear Hi Hz0 Hz1 HBy
   obtain ⟨wa, rfl⟩ : ∃ wa : World, wa = wr := ⟨_, rfl⟩
   generalize wa.heap.size = gm at HO6
   go_loopw [13] (fun c wi => ∃ (i : Nat) (M : List Tw), i ≤ 64 ∧ c = .int .i64 i ∧ Hid (Own wa wi 74 5 (.slice (some ⟨gm, 0, none⟩) 64 64) 64 (M.flatMap twc) ∧ M.length = 64 ∧ ∀ i', i' < i → M[i']? = some (mkT μ ((a : Int) + k) i'))) (fun c _ => 64 - (intOf c).toNat)
   case atStart => exact ⟨0, _, by omega, rfl, HO6.out, by simp, fun i' hi' => absurd hi' (by omega)⟩
   case round =>
    clear HO6
    obtain ⟨i, M, hi, rfl, HI⟩ := hrel
    by_cases hit : i < 64
    ·have hit' : (i : Int) < 64 := by omega
     have HM := Lib.hid (HMk.out wr ((a : Int) + k) i (by omega) (by omega) (by omega) (by omega))
     go_wp2_with fail
     refine HM.out.mono ?_
     rintro e w7 ⟨rfl, hb7⟩
     have HI7 := Lib.hid (HI.out.1.below hb7)
     clear HM hb7
     obtain ⟨x0, hx0⟩ : ∃ x, M[i]? = some x := ⟨M[i]'(by have := HI.out.2.1; omega), List.getElem?_eq_getElem _⟩
     have hce : ∀ j, j < 5 → w7.cell? ⟨gm, i * 5 + j, none⟩ = (twv x0)[j]? ∧ w7.frozen? ⟨gm, i * 5 + j, none⟩ = false := fun j hj => by
      refine ⟨?_, HI7.out.1.frozenAt _⟩
      rw [HI7.out.1.cellAt (i * 5 + j) (by omega), fl_get twc_len M i j (by have := HI.out.2.1; omega) hj]
      have := (List.getElem?_eq_some_iff.1 hx0).2
      rw [this]
      simp [twc]
     have HCe := Lib.hid hce; clear hce
     have e0 : w7.cell? ⟨gm, i * 5, none⟩ = some (.int .i64 x0.rule) := (HCe.out 0 (by decide)).1
     have e1 : w7.cell? ⟨gm, i * 5 + 1, none⟩ = some (.int .i64 x0.lev) := (HCe.out 1 (by decide)).1
     have e2 : w7.cell? ⟨gm, i * 5 + 2, none⟩ = some (.int .i64 x0.fr) := (HCe.out 2 (by decide)).1
     have e3 : w7.cell? ⟨gm, i * 5 + 3, none⟩ = some (.int .i64 x0.to) := (HCe.out 3 (by decide)).1
     have e4 : w7.cell? ⟨gm, i * 5 + 4, none⟩ = some (.int .i64 x0.kids) := (HCe.out 4 (by decide)).1
     have f0 : w7.frozen? ⟨gm, i * 5, none⟩ = false := (HCe.out 0 (by decide)).2
     have f1 : w7.frozen? ⟨gm, i * 5 + 1, none⟩ = false := (HCe.out 1 (by decide)).2
     have f2 : w7.frozen? ⟨gm, i * 5 + 2, none⟩ = false := (HCe.out 2 (by decide)).2
     have f3 : w7.frozen? ⟨gm, i * 5 + 3, none⟩ = false := (HCe.out 3 (by decide)).2
     have f4 : w7.frozen? ⟨gm, i * 5 + 4, none⟩ = false := (HCe.out 4 (by decide)).2
     have HP := Lib.hid (HI7.out.put5 HI.out.2.1 hit (mkT μ ((a : Int) + k) i))
     clear HCe HI7 hx0
     go_wp2_with fail
     go_roundw
     case rel =>
      refine ⟨i + 1, M.set i (mkT μ ((a : Int) + k) i), by omega, by go_num, HP.out, by rw [List.length_set]; exact HI.out.2.1, fun i' hi' => ?_⟩
      rw [List.getElem?_set]
      by_cases e : i = i'
      ·subst e; rw [if_pos rfl, if_pos (by have := HI.out.2.1; omega)]
      ·rw [if_neg e]; exact HI.out.2.2 i' (by omega)
     case measure => simp [intOf]; omega
    ·have hie : i = 64 := by omega
     have hMe : M = mrow μ (a + k) 64 := mrow_of HI.out.2.1 (fun j hj => by have := HI.out.2.2 j (by omega); rw [this]; simp)
     have HO7 := Lib.hid (hMe ▸ HI.out.1)
     have HG7 := Lib.hid ((HS.out.1.below HI.out.1.2).next hat)
     have HZ := Lib.hid HS.out.2
     clear hie hMe
     obtain ⟨ra, rcap, hR, hc0, hrc1, hrc2⟩ := HG7.out.fl.row hat
     have hna := HN.out a hat
     have HSv : Hid (Sv wr (some ⟨gm, 0, none⟩) 64 64 5 ((mrow μ (a + k) 64).flatMap twc)) := by
      obtain ⟨ao, cap, hv, hs⟩ := HO7.out.sv
      cases hv; exact hs
     have HOc := Lib.hid (twc_one (mrow μ (a + k) 64))
     have HOw : Hid (wr.ownsRow B 74 5 (.slice ra (n a) rcap) (mrow μ a (n a)).length ((mrow μ a (n a)).flatMap twc)) := by
      have := HG7.out.fl.two.own1 a hat
      rw [hR] at this; exact this
     have HLn : Hid (((mrow μ a (n a)).length + 64) * 40 ≤ 140737488355328 ∧ (mrow μ a (n a)).length + 64 ≤ maxLen) := by unfold Hid maxLen; rw [mrow_len]; omega
     have HR := Lib.hid hR; clear hR
     have HAp : Hid (∀ v8 w8, AppTo wr B 74 5 (.slice ra (n a) rcap) (mrow μ a (n a)).length ((mrow μ a (n a)).flatMap twc) 64 ((mrow μ (a + k) 64).flatMap twc) v8 w8 →
       ∃ go gcap, v8 = .slice go (n a + 64) gcap ∧ Fg w w8 B k lg lc gg R n (fun k' => mrow μ k' (n k')) (a + 1) (upd G a v8) (upd Z a (mrow μ a (n a) ++ mrow μ (a + k) 64)) a L ∧ (∃ u, w8.cell? ⟨gg, a, none⟩ = some u) ∧ w8.frozen? ⟨gg, a, none⟩ = false) := fun v8 w8 hA => by
      have h1 := HG7.out.app (ys := mrow μ (a + k) 64) (v' := v8) (w' := w8) (by rw [upd_same, upd_same, HR.out, mrow_len μ (a + k)]; exact hA)
      rw [upd_upd, upd_upd, upd_same] at h1
      obtain ⟨go, gcap, hv, _⟩ := h1.val (k := a) (by omega)
      rw [upd_same, upd_same, List.length_append, mrow_len, mrow_len] at hv
      refine ⟨go, gcap, hv, h1, ⟨L[a]'(by have := h1.gs.1; omega), ?_⟩, h1.gs.frozenAt a⟩
      rw [h1.gs.cellAt a (by omega), List.getElem?_eq_getElem]
     clear HG7
     generalize hnn : n a = na at *
     have HNN := Lib.hid hnn; clear hnn
     go_wp2_with (first
      | (at_builtin; refine wpList_appf _ B rfl (.tmp 148) (.tmp 149) 32 74 rfl elemTw _ _ _ rfl HOw.out _ 64 64 _ rfl HSv.out HOc.out (by decide) HLn.out ?_; intro v8 w8 hA; obtain ⟨go, gcap, hv8, hfg, ⟨u0, hu0⟩, hf0⟩ := HAp.out v8 w8 hA; have HF := Lib.hid hfg; subst hv8; clear hA hfg))
     have HSt := Lib.hid HF.out.set
     rw [upd_same] at HSt
     go_roundw
     case rel =>
      refine ⟨a + 1, _, _, _, by omega, by go_num, HSt.out, fun a' ha' => ?_⟩
      by_cases e : a' = a
      ·subst e; rw [upd_same, HNN.out]
      ·rw [upd_other _ _ e]; exact HZ.out a' (by omega)
     case measure => simp [intOf]; omega
  ·obtain rfl : k = a := by omega
   have HE : Hid (∃ (G : Nat → Value) (Z : Nat → List Tw) (L : List Value), Fg w wr B k lg lc gg R n (fun k' => mrow μ k' (n k')) k G Z k L ∧ ∀ a, a < k → Z a = mrow μ a (n a) ++ mrow μ (a + k) 64) := ⟨G, Z, L, HS.out⟩
   clear HS
   go_wp2_with fail
   exact HE
end Go.Proofs.YtdnkffplkleolaaGreat
