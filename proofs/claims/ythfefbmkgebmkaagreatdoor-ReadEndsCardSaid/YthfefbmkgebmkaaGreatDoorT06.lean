/- Walks and plain laws: Qk Qn Qm R1 R2. -/
import Derived.Test.YthfefbmkgebmkaaGreatDoorM15
import Derived.Test.YthfefbmkgebmkaaGreatDoorT02
import Derived.Deep.RegionHeld3
import Derived.Test.YthfefbmkgebmkaaGreatDoorT05
import Derived.Test.YthfefbmkgebmkaaGreatDoorM16
import Derived.Test.YthfefbmkgebmkaaGreatDoorM05
import Derived.Test.YthfefbmkgebmkaaGreatDoorM06
namespace Go.Proofs.YthfefbmkgebmkaaGreatDoor
open Go.RowKit
set_option maxRecDepth 100000
set_option maxHeartbeats 4000000

section
variable {w w' wr : World} {gt : Nat} {τ τ' : Nat → Nat} {cs : Array Value} {v1 v2 v3 v4 v5 v v' : Value} {R : List Ru} {NK NL : List Nk} {RA NA : List Int} {NM : List ByteArray}
theorem ndc_laid (x y : Nk) (h : { x.1 with kids := y.1.kids } = y.1) : (ndc x).set 8 (.slice y.2.1 y.1.kids.length y.2.2) = ndc y := by
 obtain ⟨y1, y2⟩ := y
 simp only [] at h ⊢
 rw [← h]
 simp [ndc]
theorem flat_laid : ∀ (NK : List Nk) (n : Nat) (hn : n < NK.length) (y : Nk), { NK[n].1 with kids := y.1.kids } = y.1 → (NK.flatMap ndc).set (n * 9 + 8) (.slice y.2.1 y.1.kids.length y.2.2) = (NK.set n y).flatMap ndc
 | x :: NK, 0, _, y, h => by
  simp only [List.flatMap_cons, Nat.zero_mul, Nat.zero_add, List.getElem_cons_zero, List.set_cons_zero] at h ⊢
  rw [set9_8 _ _ (ndc_len x), ndc_laid x y h]
 | x :: NK, n + 1, hn, y, h => by
  simp only [List.flatMap_cons, List.getElem_cons_succ, List.set_cons_succ] at h ⊢
  rw [List.set_append_right _ _ (by rw [ndc_len]; omega), ndc_len, show (n + 1) * 9 + 8 - 9 = n * 9 + 8 by omega, flat_laid NK n (by simpa using hn) y h]
/-- The row of the kids is laid into its node. -/
theorem TrR.laid (h : TrR w τ v1 v2 v3 v4 v5 R NK NL RA NA NM) {g c n : Nat} (hv : v2 = .slice (some ⟨g, 0, none⟩) NK.length c) (hn : n < NK.length) (y : Nk) (hy : { NK[n].1 with kids := y.1.kids } = y.1) :
  TrR (w.setCell ⟨g, n * 9 + 8, none⟩ (.slice y.2.1 y.1.kids.length y.2.2)) τ v1 v2 v3 v4 v5 R (NK.set n y) NL RA NA NM := by
 subst hv
 have htg : τ g = 3 := h.t3.2 g rfl
 have hf := Fr.setCell w ⟨g, n * 9 + 8, none⟩ (.slice y.2.1 y.1.kids.length y.2.2)
 have hs := (h.t3.1.stored (n * 9 + 8) (.slice y.2.1 y.1.kids.length y.2.2)).1
 exact {
  new := fun b hb => h.new b (Nat.le_trans hf.size hb)
  t2 := h.t2.keep hf (fun b _ e hg => by have hg' : b = g := hg; subst hg'; omega) (fun _ _ => rfl)
  t3 := ⟨by rw [List.length_set, ← flat_laid NK n hn y hy]; exact hs, h.t3.2⟩
  t4 := h.t4.keep hf (fun b _ e hg => by have hg' : b = g := hg; subst hg'; omega) (fun _ _ => rfl)
  t5 := h.t5.keep hf (fun b _ e hg => by have hg' : b = g := hg; subst hg'; omega) (fun _ _ => rfl)
  t6 := h.t6.keep hf (fun b _ e hg => by have hg' : b = g := hg; subst hg'; omega) (fun _ _ => rfl)
  kid := fun i hi => (h.kid i hi).keep hf (fun b _ e hg => by have hg' : b = g := hg; subst hg'; omega) (fun _ _ => rfl) }
/-- The tree's object and its rows, while they grow: as known from outside at the world w. -/
structure QuI (w : World) (gt : Nat) (τ : Nat → Nat) (wr : World) (τ' : Nat → Nat) (cs : Array Value) (v1 v2 v3 v4 v5 : Value) (R : List Ru) (NK NL : List Nk) (RA NA : List Int) (NM : List ByteArray) : Prop where
 obj : hrow wr gt cs 78
 tr : TrR wr τ' v1 v2 v3 v4 v5 R NK NL RA NA NM
 tg : τ' gt = 1
 fr : Fr (fun k => τ k ≠ 0) w wr
 old : ∀ k, k < w.heap.size → τ' k = τ k
theorem QuI.below (h : QuI w gt τ wr τ' cs v1 v2 v3 v4 v5 R NK NL RA NA NM) (hb : Below wr.heap.size wr w') : QuI w gt τ w' τ' cs v1 v2 v3 v4 v5 R NK NL RA NA NM where
 obj := h.obj.below hb
 tr := h.tr.below hb
 tg := h.tg
 fr := h.fr.trans (Fr.of_below (F := fun _ => False) hb) (fun _ _ e => e.elim)
 old := h.old
theorem QuI.step {g : Nat} {w1 w2 w3 w4 w5 : Value} {R' : List Ru} {NK' NL' : List Nk} {RA' NA' : List Int} {NM' : List ByteArray} (h : QuI w gt τ wr τ' cs v1 v2 v3 v4 v5 R NK NL RA NA NM) (hg : wr.grownBy w' v.ownBlock) (hv : ∀ k, v.ownBlock = some k → τ' k = g) (hg2 : 2 ≤ g)
  (ht : TrR w' (tagN τ' wr.heap.size w'.heap.size g) w1 w2 w3 w4 w5 R' NK' NL' RA' NA' NM') : QuI w gt τ w' (tagN τ' wr.heap.size w'.heap.size g) cs w1 w2 w3 w4 w5 R' NK' NL' RA' NA' NM' where
 obj := h.obj.fr (Fr.grown hg) (fun e => by have := hv _ e; have := h.tg; omega)
 tr := ht
 tg := by rw [tagN_old h.obj.lt]; exact h.tg
 fr := h.fr.trans (Fr.grown hg) (fun k hk e => by have h1 := hv _ e; have h2 := h.old k hk; omega)
 old := fun k hk => by rw [tagN_old (Nat.lt_of_lt_of_le hk h.fr.size)]; exact h.old k hk
theorem QuI.put (h : QuI w gt τ wr τ' cs v1 v2 v3 v4 v5 R NK NL RA NA NM) (hτ : τ gt ≠ 0) (j : Nat) (u : Value) : QuI w gt τ (wr.setCell ⟨gt, j, none⟩ u) τ' (cs.setIfInBounds j u) v1 v2 v3 v4 v5 R NK NL RA NA NM where
 obj := h.obj.setCell j u
 tr := h.tr.fr (Fr.setCell wr ⟨gt, j, none⟩ u) (fun k _ hk e => by have e' : k = gt := e; have := h.tg; subst e'; omega)
 tg := h.tg
 fr := h.fr.trans (Fr.setCell wr ⟨gt, j, none⟩ u) (fun k _ e => by have e' : k = gt := e; rw [e']; exact hτ)
 old := h.old
theorem QuI.laid {g2 n3 e2 n : Nat} (h : QuI w gt τ wr τ' cs v1 (.slice (some ⟨g2, 0, none⟩) n3 e2) v3 v4 v5 R NK NL RA NA NM) (hl : NK.length = n3) (hn : n < NK.length) (y : Nk) (hy : { NK[n].1 with kids := y.1.kids } = y.1) :
  QuI w gt τ (wr.setCell ⟨g2, n * 9 + 8, none⟩ (.slice y.2.1 y.1.kids.length y.2.2)) τ' cs v1 (.slice (some ⟨g2, 0, none⟩) n3 e2) v3 v4 v5 R (NK.set n y) NL RA NA NM := by
 have h3 : τ' g2 = 3 := h.tr.t3.2 g2 rfl
 have hf := Fr.setCell wr ⟨g2, n * 9 + 8, none⟩ (.slice y.2.1 y.1.kids.length y.2.2)
 refine ⟨h.obj.fr hf (fun e => ?_), h.tr.laid (by rw [hl]) hn y hy, h.tg, h.fr.trans hf (fun j hj e => ?_), h.old⟩
 ·have e' : gt = g2 := e
  have := h.tg
  rw [e', h3] at this; cases this
 ·have e' : j = g2 := e
  have h4 := h.old j hj
  rw [e', h3] at h4
  rw [e']; omega
/-- A part that lies elsewhere is as it was. -/
theorem QuI.part {F : Nat → Prop} (h : QuI w gt τ wr τ' cs v1 v2 v3 v4 v5 R NK NL RA NA NM) {p : Pt} {xs : Array Value} (hp : PvW w (fun k => τ k = 0) p xs) (hF : ∀ k, k < w.heap.size → τ k = 0 → F k) : PvW wr F p xs :=
 PvW.fr h.fr (fun _ hk e => e hk.1) (fun _ hk => hF _ hk.2 hk.1) _ _ (PvW.bound _ _ hp)
end
/-- The document's tree, with the nodes as they lie and the rows of kids beside. -/
structure TqW (w : World) (gt : Nat) (τ : Nat → Nat) (R : List Rr) (N : List Rn) (NK NL : List Nk) : Prop where
 ex : ∃ (v1 v2 v3 v4 v5 : Value), hrow w gt #[v1, v2, v3, v4, v5] 78 ∧ TrR w τ v1 v2 v3 v4 v5 (R.map Rr.ru) NK NL (R.map fun r => (r.at_ : Int)) (N.map fun x => (x.at_ : Int)) (N.map fun x => tx x.nm)
 tag : τ gt = 1
 nk : NK.length = N.length
 nl : NL.length = N.length
section
variable {w w' : World} {gt : Nat} {τ τ' : Nat → Nat} {R : List Rr} {N : List Rn} {NK NL : List Nk} {F : Nat → Prop}
theorem TqW.fr (h : TqW w gt τ R N NK NL) (hf : Fr F w w') (hF : ∀ k, k < w.heap.size → τ k ≠ 0 → ¬ F k) : TqW w' gt τ R N NK NL := by
 obtain ⟨⟨v1, v2, v3, v4, v5, h1, h2⟩, h4, h5, h6⟩ := h
 exact ⟨⟨v1, v2, v3, v4, v5, h1.fr hf (hF gt h1.lt (by omega)), h2.fr hf (fun k hk e => hF k hk (by omega))⟩, h4, h5, h6⟩
theorem TqW.below (h : TqW w gt τ R N NK NL) (hb : Below w.heap.size w w') : TqW w' gt τ R N NK NL := h.fr (F := fun _ => False) (Fr.of_below hb) (fun _ _ _ e => e)
/-- It is opened: five slices. -/
theorem TqW.start {w0 : World} {τ0 : Nat → Nat} (h : TqW w gt τ R N NK NL) (hf : Fr (fun k => τ0 k ≠ 0) w0 w) (ho : ∀ k, k < w0.heap.size → τ k = τ0 k) :
  ∃ (a1 a2 a3 a4 a5 : Option Addr) (d1 d2 d3 d4 d5 : Nat),
   QuI w0 gt τ0 w τ #[.slice a1 R.length d1, .slice a2 N.length d2, .slice a3 R.length d3, .slice a4 N.length d4, .slice a5 N.length d5] (.slice a1 R.length d1) (.slice a2 N.length d2) (.slice a3 R.length d3) (.slice a4 N.length d4) (.slice a5 N.length d5) (R.map Rr.ru) NK NL (R.map fun r => (r.at_ : Int)) (N.map fun x => (x.at_ : Int)) (N.map fun x => tx x.nm) := by
 obtain ⟨⟨v1, v2, v3, v4, v5, hg, hR⟩, htg, hnk, hnl⟩ := h
 obtain ⟨o1, c1, e1, _⟩ := hR.t2.sv
 obtain ⟨o2, c2, e2, _⟩ := hR.t3.sv
 obtain ⟨o3, c3, e3, _⟩ := hR.t4.sv
 obtain ⟨o4, c4, e4, _⟩ := hR.t5.sv
 obtain ⟨o5, c5, e5, _⟩ := hR.t6.sv
 simp only [List.length_map, hnk] at e1 e2 e3 e4 e5
 subst e1 e2 e3 e4 e5
 exact ⟨o1, o2, o3, o4, o5, c1, c2, c3, c4, c5, hg, hR, htg, hf, ho⟩
/-- It is closed. -/
theorem QuI.tree {w0 : World} {τ0 : Nat → Nat} {v1 v2 v3 v4 v5 : Value} {R' : List Ru} {RA NA : List Int} {NM : List ByteArray} (h : QuI w0 gt τ0 w τ #[v1, v2, v3, v4, v5] v1 v2 v3 v4 v5 R' NK NL RA NA NM) (h1 : R' = R.map Rr.ru) (h2 : RA = R.map fun r => (r.at_ : Int)) (h3 : NA = N.map fun x => (x.at_ : Int)) (h4 : NM = N.map fun x => tx x.nm) (h5 : NK.length = N.length) (h6 : NL.length = N.length) : TqW w gt τ R N NK NL := by
 subst h1 h2 h3 h4
 exact ⟨⟨v1, v2, v3, v4, v5, h.obj, h.tr⟩, h.tg, h5, h6⟩
end
/-- A part's cells and kids, wherever only the tree has turned. -/
theorem pv_keep {w : World} {τ : Nat → Nat} {k : Nat} {cl : List (UInt8 × UInt8)} {t : List UInt8} {lv : Int} {at0 : Nat} {nm : List UInt8} {ks : List Pt} {cs : Array Value} (hp : PvW w (fun k => τ k = 0) (.mk k cl t lv at0 nm ks) cs) :
  ∃ (ao : Option Addr) (cap : Nat) (vs : List (Array Value)), cs = ptC k cl t lv at0 nm ao ks.length cap ∧ ∀ x, Fr (fun k => τ k ≠ 0) w x → Sv x ao ks.length cap 12 (vs.flatMap Array.toList) ∧ PvsW x (fun k => τ k = 0 ∧ k < w.heap.size) ks vs := by
 have hp := PvW.bound _ _ hp
 unfold PvW at hp
 obtain ⟨ao, cap, vs, rfl, h2, h3, h4⟩ := hp
 exact ⟨ao, cap, vs, rfl, fun x hx => ⟨h2.fr hx (fun a ha hn e => e (h3 a ha (fun e0 => by subst e0; simp at hn)).1), PvsW.fr hx (fun k hk e => e hk.1) (fun _ h => h) _ _ h4⟩⟩
theorem flat12 {w : World} {F : Nat → Prop} : ∀ {ps : List Pt} {vs : List (Array Value)}, PvsW w F ps vs → ∀ (i : Nat) (u : Array Value), vs[i]? = some u → ∀ j, j < 12 → (vs.flatMap Array.toList)[i * 12 + j]? = u.toList[j]?
 | [], vs, h, i, u, hu, j, hj => by unfold PvsW at h; subst h; simp at hu
 | p :: ps, vs, h, i, u, hu, j, hj => by
  unfold PvsW at h
  obtain ⟨v, r, rfl, h1, h2⟩ := h
  have hs : v.toList.length = 12 := by simpa using h1.size
  cases i with
  | zero =>
   simp only [List.getElem?_cons_zero, Option.some.injEq] at hu
   subst hu
   rw [List.flatMap_cons, Nat.zero_mul, Nat.zero_add, List.getElem?_append_left (by omega)]
  | succ i =>
   rw [List.flatMap_cons, List.getElem?_append_right (by omega), hs, show (i + 1) * 12 + j - 12 = i * 12 + j by omega]
   exact flat12 h2 i u (by simpa using hu) j hj
end Go.Proofs.YthfefbmkgebmkaaGreatDoor
namespace Go.Proofs.YthfefbmkgebmkaaGreatDoor
open Go.RowKit
set_option maxRecDepth 100000
set_option maxHeartbeats 8000000

/-- What putting a part does. -/
def PutQ (p : Pt) : Prop := ∀ (cs : Array Value) (gt : Nat) (τ : Nat → Nat) (R : List Rr) (N : List Rn) (NK NL : List Nk) (w : World), TqW w gt τ R N NK NL → PvW w (fun k => τ k = 0) p cs → N.length + p.sz ≤ 200000 →
 Calls Tryz.prog 56 #[ptr gt, .agg cs] w fun e w' => e = .returned (.tuple #[]) ∧ ∃ (τ' : Nat → Nat) (X : List Nk), X.map (·.1) = (flat N.length p).map Rn.nd ∧ TqW w' gt τ' R (N ++ flat N.length p) (NK ++ X) (NL ++ X) ∧ Fr (fun k => τ k ≠ 0) w w' ∧ ∀ k, k < w.heap.size → τ' k = τ k
/-- A node, with the kids that are known. -/
def ndK (k : Nat) (cl : List (UInt8 × UInt8)) (t : List UInt8) (lv : Int) (at0 : Nat) (nm : List UInt8) (n : Nat) (ks : List Pt) (i : Nat) (q : Option Addr × Nat) : Nk := (Rn.nd ⟨k, cl, t, lv, kidsAt (n + 1) (ks.take i), at0, nm⟩, q)
theorem ndK_len (k : Nat) (cl : List (UInt8 × UInt8)) (t : List UInt8) (lv : Int) (at0 : Nat) (nm : List UInt8) (n : Nat) (ks : List Pt) (i : Nat) (q : Option Addr × Nat) (h : i ≤ ks.length) : (ndK k cl t lv at0 nm n ks i q).1.kids.length = i := by
 simp [ndK, Rn.nd, kidsAt_len]; omega
theorem ndK_next (k : Nat) (cl : List (UInt8 × UInt8)) (t : List UInt8) (lv : Int) (at0 : Nat) (nm : List UInt8) (n : Nat) (ks : List Pt) (i : Nat) (q q' : Option Addr × Nat) (h : i < ks.length) : kidP (ndK k cl t lv at0 nm n ks i q) ((n + 1 + szL (ks.take i) : Nat) : Int) q' = ndK k cl t lv at0 nm n ks (i + 1) q' := by
 unfold kidP ndK
 rw [kidsAt_next h]
 simp [Rn.nd]
theorem ndK_laid (k : Nat) (cl : List (UInt8 × UInt8)) (t : List UInt8) (lv : Int) (at0 : Nat) (nm : List UInt8) (n : Nat) (ks : List Pt) (i : Nat) (q : Option Addr × Nat) : { ((Rn.nd ⟨k, cl, t, lv, [], at0, nm⟩, (none, 0)) : Nk).1 with kids := (ndK k cl t lv at0 nm n ks i q).1.kids } = (ndK k cl t lv at0 nm n ks i q).1 := by
 simp [ndK, Rn.nd]
theorem add_add2 (p : Addr) (a b : Nat) : (p.add a).add b = p.add (a + b) := by
 unfold Addr.add
 by_cases ha : a = 0 <;> by_cases hb : b = 0 <;> simp [ha, hb, Nat.add_assoc]
theorem QuI.kidcell {w wr : World} {gt : Nat} {τ τ' : Nat → Nat} {cs : Array Value} {v1 v3 v4 v5 : Value} {R : List Ru} {NK NL : List Nk} {RA NA : List Int} {NM : List ByteArray} {g2 n3 e2 n : Nat} (h : QuI w gt τ wr τ' cs v1 (.slice (some ⟨g2, 0, none⟩) n3 e2) v3 v4 v5 R NK NL RA NA NM) (hn : n < NK.length) : wr.cell? ⟨g2, n * 9 + 8, none⟩ = some (.slice NK[n].2.1 NK[n].1.kids.length NK[n].2.2) := by
 have hx : (NK.flatMap ndc)[n * 9 + 8]? = some (.slice NK[n].2.1 NK[n].1.kids.length NK[n].2.2) := by
  rw [fl_at ndc_len NK n hn 8 (by decide)]; rfl
 have := h.tr.t3.1.cells (g := g2) rfl _ _ hx
 have e : (⟨g2, 0, none⟩ : Addr).add (n * 9 + 8) = ⟨g2, n * 9 + 8, none⟩ := by unfold Addr.add; split <;> simp_all
 rwa [e] at this
theorem putq_walk (k : Nat) (cl : List (UInt8 × UInt8)) (t : List UInt8) (lv : Int) (at0 : Nat) (nm : List UInt8) (ks : List Pt) (IH : ∀ q ∈ ks, PutQ q) : PutQ (.mk k cl t lv at0 nm ks) := by
 intro cs gt τ R N NK NL w hT hP hN
 obtain ⟨w0, hw0⟩ : ∃ x, w.alloc (.cells cs 122) = x := ⟨_, rfl⟩
 obtain ⟨gb, hgb⟩ : ∃ g, w.heap.size = g := ⟨_, rfl⟩
 have hbl := (Below.refl w.heap.size w).alloc (Nat.le_refl _) (.cells cs 122)
 have hbx := hrow.new w cs 122
 rw [hw0] at hbl hbx
 rw [hgb] at hbx
 have htb : τ gb = 0 := by obtain ⟨⟨v1, v2, v3, v4, v5, h1, h2⟩, _, _, _⟩ := hT; exact h2.new gb (by omega)
 obtain ⟨ao, cap, vs, hcs, hkp⟩ := pv_keep (hP.below hbl)
 have HBK : Hid (∀ x, Fr (fun k => τ k ≠ 0) w0 x → hrow x gb (ptC k cl t lv at0 nm ao ks.length cap) 122) := fun x hx => by rw [← hcs]; exact hbx.fr hx (fun e => e htb)
 have HKP := Lib.hid hkp
 have HT0 := Lib.hid (hT.below hbl)
 have HTG : Hid (τ gt ≠ 0) := by have := hT.tag; unfold Hid; omega
 have HNL := Lib.hid hN
 have HL2 := Lib.hid hT.nk
 have HL3 := Lib.hid hT.nl
 have HW0 := Lib.hid hw0; have HGB := Lib.hid hgb; have HB0 := Lib.hid hbl
 have HK := Lib.hid IH
 obtain ⟨ao1, ao2, ao3, ao4, ao5, c1, c2, c3, c4, c5, hI⟩ := HT0.out.start (Fr.refl _ _) (fun _ _ => rfl)
 have HI0 := Lib.hid hI
 have g3 : w0.cell? ⟨gt, 3, none⟩ = some (.slice ao4 N.length c4) := hI.obj.cell 3
 subst hcs
 clear IH hT hP hN hw0 hgb hbl hbx htb hkp hI HT0
 unfold ptC at HW0 HBK ⊢
 unfold ptr
 go_enter Tryz.func56, Tryz.ntmps56
 go_upto_region 1 with (fail)
 rw [HW0.out, HGB.out]
 go_upto_region 2 with (fail)
 clear g3
 -- the node
 obtain ⟨S, hSd⟩ : ∃ S : World → Prop, S = fun z => z.cell? ⟨gt, 1, none⟩ = some (.slice ao2 N.length c2) ∧ (loadVar 41 ⟨gb, 0, none⟩).run Tryz.prog z = .ok (.agg #[.int .i64 k, .int .u64 (clsW cl 0), .int .u64 (clsW cl 1), .int .u64 (clsW cl 2), .int .u64 (clsW cl 3), .string (tx t), .int .i64 0, .int .i64 lv, .slice none 0 0]) z := ⟨_, rfl⟩
 have F1 : ∀ z, S z → z.cell? ⟨gt, 1, none⟩ = some (.slice ao2 N.length c2) := fun z h => by rw [hSd] at h; exact h.1
 have F0 : ∀ z, S z → (loadVar 41 ⟨gb, 0, none⟩).run Tryz.prog z = .ok (.agg #[.int .i64 k, .int .u64 (clsW cl 0), .int .u64 (clsW cl 1), .int .u64 (clsW cl 2), .int .u64 (clsW cl 3), .string (tx t), .int .i64 0, .int .i64 lv, .slice none 0 0]) z := fun z h => by rw [hSd] at h; exact h.2
 have HS : Hid (∀ z, z.cell? ⟨gt, 1, none⟩ = some (.slice ao2 N.length c2) → Fr (fun k => τ k ≠ 0) w0 z → S z) := fun z h1 h2 => by rw [hSd]; exact ⟨h1, part_node (HBK.out z h2)⟩
 clear hSd
 refine wp_region_noPanic ?_
 refine wp_region_T S [0, 1, 2, 3, 4, 5, 6, 7, 8, 9] 10 4 rfl (by kernel_rfl) ?_
 have HI1 := Lib.hid (HI0.out.below ((Below.refl _ w0).drew))
 clear HI0
 generalize w0.drew = w1 at HI1 ⊢
 refine wpAnyT_reads (f := 2) [0, 1, 2, 3, 4, 5, 6, 7] (by kernel_rfl) (by kernel_rfl) (HS.out _ (HI1.out.obj.cell 1) HI1.out.fr) (fun _ _ _ _ h => h) ?_
 simp only [pickOps, List.getD_cons_zero, List.getD_cons_succ]
 repeat (first
   | (refine wpRead_load rfl 41 (.tmp 18) rfl ⟨gb, 0, none⟩ rfl _ F0 ?_; simp only [Act.put, List.setIfInBounds_toArray, List.set_cons_zero, List.set_cons_succ])
   | (refine wpRead_cons (v := ?_) rfl ?_ ?_; rotate_left; (· (intro z hz; have f1 := F1 z hz; clear hz; go_simp; try with_reducible rfl)); simp only [Act.put, List.setIfInBounds_toArray, List.set_cons_zero, List.set_cons_succ]))
 refine wpRead_nil ?_
 refine wpAnyT_one 8 (by kernel_rfl) (by kernel_rfl) rfl ?_
 simp only [List.getD_cons_zero, List.getD_cons_succ]
 go_wp2_with fail
 have HI2 := Lib.hid (HI1.out.below ((Below.refl _ w1).alloc (Nat.le_refl _) (.cells #[.int .i64 k, .int .u64 (clsW cl 0), .int .u64 (clsW cl 1), .int .u64 (clsW cl 2), .int .u64 (clsW cl 3), .string (tx t), .int .i64 0, .int .i64 lv, .slice none 0 0] 41)))
 refine ⟨HS.out _ (HI2.out.obj.cell 1) HI2.out.fr, ?_⟩
 refine wpAnyT_one 9 (by kernel_rfl) (by kernel_rfl) rfl ?_
 simp only [List.getD_cons_zero, List.getD_cons_succ]
 have HSL := Lib.hid (Sv.lit w1 41 #[.int .i64 k, .int .u64 (clsW cl 0), .int .u64 (clsW cl 1), .int .u64 (clsW cl 2), .int .u64 (clsW cl 3), .string (tx t), .int .i64 0, .int .i64 lv, .slice none 0 0] 1 9 (by unfold maxLen; omega) rfl)
 clear HI1
 have HOW := Lib.hid (show _ by have h := HI2.out.tr.t3.1; rw [HL2.out] at h; exact h)
 refine wpList_append_tag _ rfl (.tmp 17) (.tmp 20) 24 41 rfl elNode 0 (.slice ao2 N.length c2) N.length _ rfl HOW.out ⟨w1.heap.size, 0, none⟩ 1 1 _ rfl HSL.out (by simp [Value.oneCell']) (by have := HNL.out; have := HL2.out; omega) (by have := HNL.out; have := HL2.out; unfold maxLen; omega) (Nat.zero_le _) ?_
 intro v2' w3 ho hgr hb
 obtain ⟨a2, d2, rfl, -⟩ := Sv.of_owns ho
 have HI3 := Lib.hid (HI2.out.step hgr HI2.out.tr.t3.2 (by omega) (HI2.out.tr.node ((Rn.nd ⟨k, cl, t, lv, [], at0, nm⟩, (none, 0)) : Nk) (by rw [HL2.out]; exact ho) hgr hb rfl rfl))
 clear HOW HSL HI2 ho hgr hb
 refine ⟨HS.out _ (HI3.out.obj.cell 1) HI3.out.fr, ?_⟩
 refine wpAnyT_tail [10, 11, 12, 13] (by kernel_rfl) (by kernel_rfl) (by kernel_rfl) ?_
 simp only [pickOps, List.getD_cons_zero, List.getD_cons_succ]
 clear F0 F1 HS S
 have f1 := HI3.out.obj.frozen 1
 have k1 := HI3.out.obj.cell 1
 go_wp2_with fail
 refine noPanic_normal ?_
 clear f1 k1
 have HI4 := Lib.hid (HI3.out.put HTG.out 1 (.slice a2 (N.length + 1) d2))
 clear HI3
 revert HI4
 generalize tagN τ (w1.alloc (.cells #[.int .i64 k, .int .u64 (clsW cl 0), .int .u64 (clsW cl 1), .int .u64 (clsW cl 2), .int .u64 (clsW cl 3), .string (tx t), .int .i64 0, .int .i64 lv, .slice none 0 0] 41)).heap.size w3.heap.size 3 = τ1
 generalize w3.setCell ⟨gt, 1, none⟩ (.slice a2 (N.length + 1) d2) = w4
 simp only [List.setIfInBounds_toArray, List.set_cons_zero, List.set_cons_succ]
 intro HI4
 go_upto_region 3 with (fail)
 -- its place
 obtain ⟨S, hSd⟩ : ∃ S : World → Prop, S = fun z => z.cell? ⟨gt, 3, none⟩ = some (.slice ao4 N.length c4) ∧ z.cell? ⟨gb, 9, none⟩ = some (.int .i64 at0) := ⟨_, rfl⟩
 have F1 : ∀ z, S z → z.cell? ⟨gt, 3, none⟩ = some (.slice ao4 N.length c4) := fun z h => by rw [hSd] at h; exact h.1
 have F2 : ∀ z, S z → z.cell? ⟨gb, 9, none⟩ = some (.int .i64 at0) := fun z h => by rw [hSd] at h; exact h.2
 have HS : Hid (∀ z, z.cell? ⟨gt, 3, none⟩ = some (.slice ao4 N.length c4) → Fr (fun k => τ k ≠ 0) w0 z → S z) := fun z h1 h2 => by rw [hSd]; exact ⟨h1, (HBK.out z h2).cell 9⟩
 clear hSd
 refine wp_region_noPanic ?_
 refine wp_region_T S [0, 1, 2, 3, 4, 5, 6, 7, 8] 9 3 rfl (by kernel_rfl) ?_
 have HI5 := Lib.hid (HI4.out.below ((Below.refl _ w4).drew))
 clear HI4
 generalize w4.drew = y1 at HI5 ⊢
 refine wpAnyT_reads (f := 2) [0, 1, 2, 3, 4, 5, 6] (by kernel_rfl) (by kernel_rfl) (HS.out _ (HI5.out.obj.cell 3) HI5.out.fr) (fun _ _ _ _ h => h) ?_
 simp only [pickOps, List.getD_cons_zero, List.getD_cons_succ]
 repeat (first
   | (refine wpRead_cons (v := ?_) rfl ?_ ?_; rotate_left; (· (intro z hz; have f1 := F1 z hz; have f2 := F2 z hz; clear hz; go_simp; try with_reducible rfl)); simp only [Act.put, List.setIfInBounds_toArray, List.set_cons_zero, List.set_cons_succ]))
 refine wpRead_nil ?_
 refine wpAnyT_one 7 (by kernel_rfl) (by kernel_rfl) rfl ?_
 simp only [List.getD_cons_zero, List.getD_cons_succ]
 go_wp2_with fail
 have HI6 := Lib.hid (HI5.out.below ((Below.refl _ y1).alloc (Nat.le_refl _) (.cells #[.int .i64 at0] 3)))
 refine ⟨HS.out _ (HI6.out.obj.cell 3) HI6.out.fr, ?_⟩
 refine wpAnyT_one 8 (by kernel_rfl) (by kernel_rfl) rfl ?_
 simp only [List.getD_cons_zero, List.getD_cons_succ]
 have HSL := Lib.hid (Sv.lit y1 3 #[.int .i64 at0] 1 1 (by unfold maxLen; omega) rfl)
 clear HI5
 have HOW := Lib.hid (show _ by have h := HI6.out.tr.t5.1; rw [List.length_map] at h; exact h)
 refine wpList_append_tag _ rfl (.tmp 29) (.tmp 32) 27 3 rfl elIntS 0 (.slice ao4 N.length c4) N.length _ rfl HOW.out ⟨y1.heap.size, 0, none⟩ 1 1 _ rfl HSL.out (by simp [Value.oneCell']) (by have := HNL.out; omega) (by have := HNL.out; unfold maxLen; omega) (Nat.zero_le _) ?_
 intro v' y3 ho hgr hb
 obtain ⟨a4, d4, rfl, -⟩ := Sv.of_owns ho
 have HI7 := Lib.hid (HI6.out.step hgr HI6.out.tr.t5.2 (by omega) (HI6.out.tr.na (at0 : Int) (by rw [List.length_map]; exact ho) hgr hb))
 clear HOW HSL HI6 ho hgr hb
 refine ⟨HS.out _ (HI7.out.obj.cell 3) HI7.out.fr, ?_⟩
 refine wpAnyT_tail [9, 10, 11] (by kernel_rfl) (by kernel_rfl) (by kernel_rfl) ?_
 simp only [pickOps, List.getD_cons_zero, List.getD_cons_succ]
 clear F1 F2 HS S
 have f3 := HI7.out.obj.frozen 3
 have k3 := HI7.out.obj.cell 3
 go_wp2_with fail
 refine noPanic_normal ?_
 clear f3 k3
 have HI8 := Lib.hid (HI7.out.put HTG.out 3 (.slice a4 (N.length + 1) d4))
 clear HI7
 revert HI8
 generalize tagN τ1 (y1.alloc (.cells #[.int .i64 at0] 3)).heap.size y3.heap.size 5 = τ2
 generalize y3.setCell ⟨gt, 3, none⟩ (.slice a4 (N.length + 1) d4) = y4
 simp only [List.setIfInBounds_toArray, List.set_cons_zero, List.set_cons_succ]
 intro HI8
 go_upto_region 4 with (fail)
 -- its name
 obtain ⟨S, hSd⟩ : ∃ S : World → Prop, S = fun z => z.cell? ⟨gt, 4, none⟩ = some (.slice ao5 N.length c5) ∧ z.cell? ⟨gb, 10, none⟩ = some (.string (tx nm)) := ⟨_, rfl⟩
 have F1 : ∀ z, S z → z.cell? ⟨gt, 4, none⟩ = some (.slice ao5 N.length c5) := fun z h => by rw [hSd] at h; exact h.1
 have F2 : ∀ z, S z → z.cell? ⟨gb, 10, none⟩ = some (.string (tx nm)) := fun z h => by rw [hSd] at h; exact h.2
 have HS : Hid (∀ z, z.cell? ⟨gt, 4, none⟩ = some (.slice ao5 N.length c5) → Fr (fun k => τ k ≠ 0) w0 z → S z) := fun z h1 h2 => by rw [hSd]; exact ⟨h1, (HBK.out z h2).cell 10⟩
 clear hSd
 refine wp_region_noPanic ?_
 refine wp_region_T S [0, 1, 2, 3, 4, 5, 6, 7, 8] 9 3 rfl (by kernel_rfl) ?_
 have HI9 := Lib.hid (HI8.out.below ((Below.refl _ y4).drew))
 clear HI8
 generalize y4.drew = y5 at HI9 ⊢
 refine wpAnyT_reads (f := 2) [0, 1, 2, 3, 4, 5, 6] (by kernel_rfl) (by kernel_rfl) (HS.out _ (HI9.out.obj.cell 4) HI9.out.fr) (fun _ _ _ _ h => h) ?_
 simp only [pickOps, List.getD_cons_zero, List.getD_cons_succ]
 repeat (first
   | (refine wpRead_cons (v := ?_) rfl ?_ ?_; rotate_left; (· (intro z hz; have f1 := F1 z hz; have f2 := F2 z hz; clear hz; go_simp; try with_reducible rfl)); simp only [Act.put, List.setIfInBounds_toArray, List.set_cons_zero, List.set_cons_succ]))
 refine wpRead_nil ?_
 refine wpAnyT_one 7 (by kernel_rfl) (by kernel_rfl) rfl ?_
 simp only [List.getD_cons_zero, List.getD_cons_succ]
 go_wp2_with fail
 have HIA := Lib.hid (HI9.out.below ((Below.refl _ y5).alloc (Nat.le_refl _) (.cells #[.string (tx nm)] 9)))
 refine ⟨HS.out _ (HIA.out.obj.cell 4) HIA.out.fr, ?_⟩
 refine wpAnyT_one 8 (by kernel_rfl) (by kernel_rfl) rfl ?_
 simp only [List.getD_cons_zero, List.getD_cons_succ]
 have HSL := Lib.hid (Sv.lit y5 9 #[.string (tx nm)] 1 1 (by unfold maxLen; omega) rfl)
 clear HI9
 have HOW := Lib.hid (show _ by have h := HIA.out.tr.t6.1; rw [List.length_map] at h; exact h)
 refine wpList_append_tag _ rfl (.tmp 40) (.tmp 43) 28 9 rfl elStrS 0 (.slice ao5 N.length c5) N.length _ rfl HOW.out ⟨y5.heap.size, 0, none⟩ 1 1 _ rfl HSL.out (by simp [Value.oneCell']) (by have := HNL.out; omega) (by have := HNL.out; unfold maxLen; omega) (Nat.zero_le _) ?_
 intro v' y6 ho hgr hb
 obtain ⟨a5, d5, rfl, -⟩ := Sv.of_owns ho
 have HIB := Lib.hid (HIA.out.step hgr HIA.out.tr.t6.2 (by omega) (HIA.out.tr.nm (tx nm) (by rw [List.length_map]; exact ho) hgr hb))
 clear HOW HSL HIA ho hgr hb
 refine ⟨HS.out _ (HIB.out.obj.cell 4) HIB.out.fr, ?_⟩
 refine wpAnyT_tail [9, 10, 11] (by kernel_rfl) (by kernel_rfl) (by kernel_rfl) ?_
 simp only [pickOps, List.getD_cons_zero, List.getD_cons_succ]
 clear F1 F2 HS S
 have f4 := HIB.out.obj.frozen 4
 have k4 := HIB.out.obj.cell 4
 go_wp2_with fail
 refine noPanic_normal ?_
 clear f4 k4
 have HIC := Lib.hid (HIB.out.put HTG.out 4 (.slice a5 (N.length + 1) d5))
 clear HIB
 revert HIC
 generalize tagN τ2 (y5.alloc (.cells #[.string (tx nm)] 9)).heap.size y6.heap.size 6 = τ3
 generalize y6.setCell ⟨gt, 4, none⟩ (.slice a5 (N.length + 1) d5) = y7
 simp only [List.setIfInBounds_toArray, List.set_cons_zero, List.set_cons_succ]
 intro HIC
 have HTD : Hid (TqW y7 gt τ3 R (N ++ [⟨k, cl, t, lv, [], at0, nm⟩]) (NK ++ [((Rn.nd ⟨k, cl, t, lv, [], at0, nm⟩, (none, 0)) : Nk)]) (NL ++ [((Rn.nd ⟨k, cl, t, lv, [], at0, nm⟩, (none, 0)) : Nk)])) := HIC.out.tree rfl rfl (by simp) (by simp) (by simp [HL2.out]) (by simp [HL3.out])
 have HFD := Lib.hid HIC.out.fr
 have HOD := Lib.hid HIC.out.old
 clear HIC
 go_wp2_with fail
 go_loopw [5, 6] (fun v5 v6 wr => ∃ (i : Nat) (τ4 : Nat → Nat) (q : Option Addr × Nat) (X : List Nk), i ≤ ks.length ∧ v5 = .slice q.1 i q.2 ∧ v6 = .int .i64 i ∧ Hid (X.map (·.1) = (flatL (N.length + 1) (ks.take i)).map Rn.nd) ∧ Hid (TqW wr gt τ4 R (N ++ [⟨k, cl, t, lv, [], at0, nm⟩] ++ flatL (N.length + 1) (ks.take i)) (NK ++ [((Rn.nd ⟨k, cl, t, lv, [], at0, nm⟩, (none, 0)) : Nk)] ++ X) (NL ++ [ndK k cl t lv at0 nm N.length ks i q] ++ X)) ∧ Hid (Fr (fun k => τ k ≠ 0) w0 wr) ∧ Hid (∀ k, k < w0.heap.size → τ4 k = τ k)) (fun _ v _ => ks.length - (intOf v).toNat)
 case atStart => exact ⟨0, τ3, (none, 0), [], Nat.zero_le _, rfl, rfl, by unfold Hid; simp [flatL], by unfold Hid; simpa [flatL, ndK, kidsAt] using HTD.out, HFD.out, HOD.out⟩
 case round =>
  clear HTD HFD HOD
  obtain ⟨i, τ4, q, X, hi, rfl, rfl, HX, HT, HF, HO⟩ := hrel
  have HIB : Hid (i ≤ 200000) := by have h1 := HNL.out; have h2 := len_szL ks; unfold Pt.sz at h1; unfold Hid; omega
  obtain ⟨n3, hn3e⟩ : ∃ n, n = N.length + 1 + szL (ks.take i) := ⟨_, rfl⟩
  have hml : (N ++ [(⟨k, cl, t, lv, [], at0, nm⟩ : Rn)] ++ flatL (N.length + 1) (ks.take i)).length = n3 := by rw [hn3e]; simp [flatL_len]; omega
  obtain ⟨a1, a2', a3, a4', a5', e1, e2, e3, e4, e5, hI⟩ := HT.out.start HF.out HO.out
  rw [hml] at hI
  have HNLL : Hid (N.length < (NL ++ [ndK k cl t lv at0 nm N.length ks i q] ++ X).length) := by unfold Hid; simp only [List.length_append, List.length_singleton, HL3.out]; omega
  have HNKL : Hid (N.length < (NK ++ [((Rn.nd ⟨k, cl, t, lv, [], at0, nm⟩, (none, 0)) : Nk)] ++ X).length) := by unfold Hid; simp only [List.length_append, List.length_singleton, HL2.out]; omega
  have hnlx : (NL ++ [ndK k cl t lv at0 nm N.length ks i q] ++ X)[N.length]'HNLL.out = ndK k cl t lv at0 nm N.length ks i q := by
   have := getL_at NL X (ndK k cl t lv at0 nm N.length ks i q) (by rw [HL3.out]; exact HNLL.out)
   simpa only [HL3.out] using this
  have hnkx : (NK ++ [((Rn.nd ⟨k, cl, t, lv, [], at0, nm⟩, (none, 0)) : Nk)] ++ X)[N.length]'HNKL.out = ((Rn.nd ⟨k, cl, t, lv, [], at0, nm⟩, (none, 0)) : Nk) := by
   have := getL_at NK X ((Rn.nd ⟨k, cl, t, lv, [], at0, nm⟩, (none, 0)) : Nk) (by rw [HL2.out]; exact HNKL.out)
   simpa only [HL2.out] using this
  have hbk := HBK.out wr HF.out
  have c11 : wr.cell? ⟨gb, 11, none⟩ = some (.slice ao ks.length cap) := hbk.cell 11
  have hkb := (HKP.out wr HF.out).1.bound
  have HI1 := Lib.hid hI; have HML := Lib.hid hml; have HN3E := Lib.hid hn3e
  have HNLX := Lib.hid hnlx; have HNKX := Lib.hid hnkx
  by_cases hlt : i < ks.length
  ·have hltI : (i : Int) < ks.length := by omega
   have g3 : wr.cell? ⟨gt, 3, none⟩ = some (.slice a4' n3 e4) := hI.obj.cell 3
   have HLT := Lib.hid hlt
   have HRW := Lib.hid (hI.tr.kid N.length HNLL.out)
   have HOW : Hid (wr.ownsRow 0 3 1 (.slice q.1 i q.2) i (inc (ndK k cl t lv at0 nm N.length ks i q).1.kids)) := by
    have h := HRW.out.1
    rw [hnlx, ndK_len _ _ _ _ _ _ _ _ _ _ hi] at h
    exact h
   have HQT : Hid (∀ b, (Value.slice q.1 i q.2).ownBlock = some b → τ4 b = 7 + N.length) := by
    have h := HRW.out.2
    rw [hnlx, ndK_len _ _ _ _ _ _ _ _ _ _ hi] at h
    exact h
   have HSL := Lib.hid (Sv.lit wr 3 #[.int .i64 n3] 1 1 (by unfold maxLen; omega) rfl)
   have HOW2 := Lib.hid (HOW.out.alloc (.cells #[.int .i64 n3] 3))
   have HI2 := Lib.hid (HI1.out.below ((Below.refl _ wr).alloc (Nat.le_refl _) (.cells #[.int .i64 n3] 3)))
   clear hI hml hn3e hnlx hnkx hbk HRW HT HF HO
   go_upto_region 10 with (at_builtin; refine wpList_append_tag _ rfl (.tmp 54) (.tmp 60) 27 3 rfl elIntS 0 (.slice q.1 i q.2) i _ rfl HOW2.out ⟨wr.heap.size, 0, none⟩ 1 1 _ rfl HSL.out (by simp [Value.oneCell']) (by have := HIB.out; omega) (by have := HIB.out; unfold maxLen; omega) (Nat.zero_le _) ?_; intro v' z3 ho hgr hb; have HO3 := Lib.hid ho; have HG3 := Lib.hid hgr; have HB3 := Lib.hid hb; clear ho hgr hb)
   obtain ⟨qa, qd, rfl, -⟩ := Sv.of_owns HO3.out
   have HK1 := Lib.hid (HI2.out.tr.kd HNLL.out (n3 : Int) (qa, qd) (by rw [HNLX.out, ndK_len _ _ _ _ _ _ _ _ _ _ hi]; exact HO3.out) (by rw [HNLX.out, ndK_len _ _ _ _ _ _ _ _ _ _ hi]; exact HG3.out) (by rw [HNLX.out, ndK_len _ _ _ _ _ _ _ _ _ _ hi]; exact HB3.out))
   have HI3 := Lib.hid (HI2.out.step HG3.out HQT.out (by omega) HK1.out)
   clear HI2 HK1 HG3 HO3 HB3 HOW HOW2 HSL g3 c11 HQT HI1
   revert HI3
   generalize tagN τ4 (wr.alloc (.cells #[.int .i64 n3] 3)).heap.size z3.heap.size (7 + N.length) = τ5
   rw [HNLX.out]
   intro HI3
   have HNS : Hid ((NL ++ [ndK k cl t lv at0 nm N.length ks i q] ++ X).set N.length (kidP (ndK k cl t lv at0 nm N.length ks i q) (n3 : Int) (qa, qd)) = NL ++ [ndK k cl t lv at0 nm N.length ks (i + 1) (qa, qd)] ++ X) := by
    have h := setL_at NL X (ndK k cl t lv at0 nm N.length ks i q) (kidP (ndK k cl t lv at0 nm N.length ks i q) (n3 : Int) (qa, qd))
    rw [HL3.out] at h
    unfold Hid
    rw [h, HN3E.out, ndK_next _ _ _ _ _ _ _ _ _ _ _ HLT.out]
   rw [HNS.out] at HI3
   have HT3 : Hid (TqW z3 gt τ5 R (N ++ [⟨k, cl, t, lv, [], at0, nm⟩] ++ flatL (N.length + 1) (ks.take i)) (NK ++ [((Rn.nd ⟨k, cl, t, lv, [], at0, nm⟩, (none, 0)) : Nk)] ++ X) (NL ++ [ndK k cl t lv at0 nm N.length ks (i + 1) (qa, qd)] ++ X)) := HI3.out.tree rfl rfl rfl rfl (by
    have h := congrArg List.length HX.out; simp only [List.length_map] at h; simp only [List.length_append, List.length_singleton, HL2.out, h]) (by
    have h := congrArg List.length HX.out; simp only [List.length_map] at h; simp only [List.length_append, List.length_singleton, HL3.out, h])
   have HF3 := Lib.hid HI3.out.fr
   have HO3 := Lib.hid HI3.out.old
   clear HI3 HNS HNKX HNLX
   obtain ⟨hks, hkk⟩ := HKP.out z3 HF3.out
   obtain ⟨u, hu1, hu2⟩ := hkk.at i HLT.out
   have hvl : vs.length = ks.length := hkk.len
   obtain ⟨ad, rfl, -⟩ := hks.cell (i * 12) (by rw [hks.len]; omega)
   have HCC : Hid (∀ j y, u.toList[j]? = some y → z3.cell? ((ad.add (i * 12)).add j) = some y) := fun j y hj => by
    have hjl : j < 12 := by have := (List.getElem?_eq_some_iff.1 hj).1; have h12 := hu2.size; simp only [Array.length_toList, h12] at this; exact this
    obtain ⟨p2, h2, h3⟩ := hks.cell (i * 12 + j) (by rw [hks.len]; omega)
    cases h2
    rw [flat12 hkk i u hu1 j hjl, hj] at h3
    rw [← h3]
    rw [add_add2]
   have HU : Hid (PvW z3 (fun k => τ5 k = 0) ks[i] u) := PvW.fr (Fr.refl (fun _ => False) z3) (fun _ _ => id) (fun k hk => (HO3.out k hk.2).trans hk.1) _ _ hu2
   have HUS : Hid (u.size = 12) := hu2.size
   have c11 : z3.cell? ⟨gb, 11, none⟩ = some (.slice (some ad) ks.length cap) := (HBK.out z3 HF3.out).cell 11
   have HIH := Lib.hid (HK.out ks[i] (List.getElem_mem hlt) u gt τ5 R _ _ _ z3 HT3.out HU.out (by rw [HML.out, HN3E.out]; have h1 := HNL.out; unfold Pt.sz at h1; have h2 := szL_take ks i hlt; omega))
   clear hks hkk hu1 hu2 hvl HT3 HU
   unfold ptr at HIH
   go_wp2_with (refine wpList_load_part rfl 122 (.tmp 66) rfl (ad.add (i * 12)) rfl u _ HCC.out Tryz.underlying122 rfl (pq_sz HUS.out) ?_)
   refine HIH.out.mono ?_
   rintro e z5 ⟨rfl, τ6, X2, hX2, hT5, hf5, ho5⟩
   rw [HML.out, HN3E.out] at hX2
   rw [HML.out] at hT5
   have HX5 : Hid ((X ++ X2).map (·.1) = (flatL (N.length + 1) (ks.take (i + 1))).map Rn.nd) := by
    unfold Hid
    rw [flatL_next HLT.out, List.map_append, List.map_append, HX.out, hX2]
    rfl
   have HT5 : Hid (TqW z5 gt τ6 R (N ++ [⟨k, cl, t, lv, [], at0, nm⟩] ++ flatL (N.length + 1) (ks.take (i + 1))) (NK ++ [((Rn.nd ⟨k, cl, t, lv, [], at0, nm⟩, (none, 0)) : Nk)] ++ (X ++ X2)) (NL ++ [ndK k cl t lv at0 nm N.length ks (i + 1) (qa, qd)] ++ (X ++ X2))) := by
    unfold Hid
    rw [flatL_next HLT.out, ← List.append_assoc, ← List.append_assoc, ← List.append_assoc]
    rw [HN3E.out] at hT5
    exact hT5
   have HF5 := Lib.hid (HF3.out.trans hf5 (fun k hk e => by have := HO3.out k hk; omega))
   have HO5 : Hid (∀ k, k < w0.heap.size → τ6 k = τ k) := fun k hk => (ho5 k (Nat.lt_of_lt_of_le hk HF3.out.size)).trans (HO3.out k hk)
   clear hX2 hT5 hf5 ho5 HIH HF3 HO3 HCC c11
   go_wp2_with fail
   go_roundw
   case rel => exact ⟨i + 1, τ6, (qa, qd), X ++ X2, by omega, rfl, by go_num, HX5.out, HT5.out, HF5.out, HO5.out⟩
   case measure => simp [intOf]; omega
  ·obtain rfl : i = ks.length := by omega
   obtain ⟨g2, rfl⟩ : ∃ g2, a2' = some ⟨g2, 0, none⟩ := by
    rcases hI.tr.t3.1.2 with ⟨h, h0⟩ | ⟨g, c, cur, h, _⟩
    ·have := HNKL.out; omega
    ·cases h; exact ⟨g, rfl⟩
   have hnx : N.length < n3 := by omega
   have hnxI : (N.length : Int) < n3 := by omega
   have g1 : wr.cell? ⟨gt, 1, none⟩ = some (.slice (some ⟨g2, 0, none⟩) n3 e2) := hI.obj.cell 1
   have hll : (NK ++ [((Rn.nd ⟨k, cl, t, lv, [], at0, nm⟩, (none, 0)) : Nk)] ++ X).length = n3 := by
    have h := congrArg List.length HX.out
    simp only [List.length_map, flatL_len] at h
    simp only [List.length_append, List.length_singleton, HL2.out, h]
    omega
   have fk : wr.frozen? ⟨g2, N.length * 9 + 8, none⟩ = false := owns_frozen (by have h := hI.tr.t3.1; rw [hll] at h; exact h) (N.length * 9 + 8)
   have HLL := Lib.hid hll
   have k8 := hI.kidcell HNKL.out
   have HIF := Lib.hid (hI.laid hll HNKL.out (ndK k cl t lv at0 nm N.length ks ks.length q) (by rw [hnkx]; exact ndK_laid _ _ _ _ _ _ _ _ _ _))
   have HST : Hid ((NK ++ [((Rn.nd ⟨k, cl, t, lv, [], at0, nm⟩, (none, 0)) : Nk)] ++ X).set N.length (ndK k cl t lv at0 nm N.length ks ks.length q) = NK ++ [ndK k cl t lv at0 nm N.length ks ks.length q] ++ X) := by
    have h := setL_at NK X ((Rn.nd ⟨k, cl, t, lv, [], at0, nm⟩, (none, 0)) : Nk) (ndK k cl t lv at0 nm N.length ks ks.length q)
    rw [HL2.out] at h
    exact h
   rw [HST.out, ndK_len _ _ _ _ _ _ _ _ _ _ (Nat.le_refl _)] at HIF
   have HXL : Hid (X.length = szL ks) := by
    have h := congrArg List.length HX.out
    simp only [List.length_map, flatL_len, List.take_of_length_le (Nat.le_refl ks.length)] at h
    exact h
   clear hI hml hnlx hnkx hbk hlt HT hll hi
   go_wp2_with fail
   go_end0
   have hfl : flat N.length (Pt.mk k cl t lv at0 nm ks) = ⟨k, cl, t, lv, kidsAt (N.length + 1) ks, at0, nm⟩ :: flatL (N.length + 1) ks := rfl
   have htk : ks.take ks.length = ks := List.take_of_length_le (Nat.le_refl _)
   refine ⟨rfl, τ4, ndK k cl t lv at0 nm N.length ks ks.length q :: X, ?_, ?_, (Fr.of_below (F := fun k => τ k ≠ 0) HB0.out).trans HIF.out.fr (fun _ _ h => h), fun k hk => HIF.out.old k (Nat.lt_of_lt_of_le hk HB0.out.size)⟩
   ·rw [List.map_cons, HX.out, hfl, List.map_cons, htk]
    unfold ndK
    rw [htk]
   ·rw [show NK ++ ndK k cl t lv at0 nm N.length ks ks.length q :: X = NK ++ [ndK k cl t lv at0 nm N.length ks ks.length q] ++ X by simp, show NL ++ ndK k cl t lv at0 nm N.length ks ks.length q :: X = NL ++ [ndK k cl t lv at0 nm N.length ks ks.length q] ++ X by simp]
    refine HIF.out.tree rfl rfl ?_ ?_ ?_ ?_
    ·rw [hfl, htk]; simp
    ·rw [hfl, htk]; simp
    ·rw [hfl]; simp only [List.length_append, List.length_cons, List.length_nil, HL2.out, HXL.out, flatL_len]; omega
    ·rw [hfl]; simp only [List.length_append, List.length_cons, List.length_nil, HL3.out, HXL.out, flatL_len]; omega
end Go.Proofs.YthfefbmkgebmkaaGreatDoor
namespace Go.Proofs.YthfefbmkgebmkaaGreatDoor
open Go.RowKit
set_option maxRecDepth 100000
set_option maxHeartbeats 4000000

theorem pqC_zero (L : List Wd) (gr fn : Nat) (m : Md) : PqC L gr fn m 0 := by
 intro B i d w r e
 simp [prs] at e
/-- All of the document's functions, by the fuel. -/
theorem pqC_all (L : List Wd) (gr : Nat) (hW : WsOk L) (hL : L.length ≤ 50000) :
  ∀ f, ∀ f', f' ≤ f → PqC L gr 55 .alt f' ∧ PqC L gr 77 .seq f' ∧ PqC L gr 92 .item f' ∧ PqC L gr 111 .prim f'
 | 0, f', h => by
  obtain rfl : f' = 0 := by omega
  exact ⟨pqC_zero _ _ _ _, pqC_zero _ _ _ _, pqC_zero _ _ _ _, pqC_zero _ _ _ _⟩
 | f + 1, f', h => by
  have ih := pqC_all L gr hW hL f
  rcases Nat.lt_or_ge f' (f + 1) with h1 | h1
  ·exact ih f' (by omega)
  ·obtain rfl : f' = f + 1 := by omega
   exact ⟨qalt_step L hW hL gr f (fun q hq => (ih q hq).2.1), qseq_step L hW hL gr f (fun q hq => (ih q hq).2.2.1), qitem_step L hW hL gr f (ih f (Nat.le_refl f)).2.2.1 (ih f (Nat.le_refl f)).2.2.2, qprim_step L hW (by omega) gr f (ih f (Nat.le_refl f)).1⟩
/-- What alt answers, whether the reader can go on or not. -/
theorem qalt_any (L : List Wd) (gr : Nat) (hW : WsOk L) (hL : L.length ≤ 50000) (f B i d e a : Nat) (w : World) (r : Rs Pt) (hr : (e = 0 ∧ a = 0 ∧ prs L f .alt [] i d = some r) ∨ (e ≠ 0 ∧ r = .err e a)) (h : RqW L B gr i d e a w) (hi : i < L.length) (hd : d ≤ 500) :
  Calls Tryz.prog 55 #[ptr gr] w fun x w' => PqP L B gr i d r w x w' := by
 rcases hr with ⟨rfl, rfl, hr⟩ | ⟨he, rfl⟩
 ·exact (pqC_all L gr hW hL f f (Nat.le_refl f)).1 B i d w r hr h hi hd
 ·refine (qalt_err L B gr i d e a w he h hi).mono ?_
  rintro x w' ⟨rfl, h1, h2⟩
  exact ⟨.mk 0 [] [] 0 0 [] [], pt0C, i, e, a, rfl, pv_leaf w' _ 0 [] [] 0 0 [], h1, h2, Nat.le_refl _, hi, by rw [sz_leaf]; omega, rfl, rfl, he⟩
theorem putq_size : ∀ (m : Nat) (p : Pt), p.sz ≤ m → PutQ p
 | 0, p, h => by have := sz_pos p; omega
 | m + 1, .mk k cl t lv a nm ks, h => putq_walk k cl t lv a nm ks (fun q hq => putq_size m q (by
   obtain ⟨i, hi, rfl⟩ := List.mem_iff_getElem.1 hq
   have := szL_take ks i hi
   unfold Pt.sz at h; omega))
theorem putQ_any (p : Pt) : PutQ p := putq_size p.sz p (Nat.le_refl _)
theorem RqW.frT {L : List Wd} {B gr i gt : Nat} {d : Int} {e0 a0 : Nat} {τ : Nat → Nat} {w w' : World} {a b c e f : Option Addr} {n1 n2 n3 n4 n5 c1 c2 c3 c4 c5 : Nat} (h : RqW L B gr i d e0 a0 w) (hf : Fr (fun k => τ k ≠ 0) w w') (hA : Ap τ gr gt) (hg : hrow w gt #[.slice a n1 c1, .slice b n2 c2, .slice c n3 c3, .slice e n4 c4, .slice f n5 c5] 78) (hL : 0 < L.length) : RqW L B gr i d e0 a0 w' := by
 obtain ⟨⟨ao, cap, h1, h2, h3⟩, h4, h5⟩ := h
 refine ⟨⟨ao, cap, h1.fr hf (fun e => e (hA.2 gr (Nat.le_refl _) (Nat.ne_of_gt hA.1))), h2.fr hf (fun x hx _ e0 => ?_), h3⟩, h4, Nat.le_trans h5 hf.size⟩
 by_cases hxg : x.block = gt
 ·obtain ⟨x', ex, hc⟩ := h2.at wdD_len (by decide) 0 hL
  rw [hx] at ex; cases ex
  have hc0 := hc 0 (.int .i64 L[0].kind) rfl
  have e1 : ((x.add (0 * 9)).add 0).block = gt := by rw [add_block, add_block]; exact hxg
  have e2 : w.cell? ((x.add (0 * 9)).add 0) = some (.int .i64 L[0].kind) := hc0
  unfold World.cell? at e2
  rw [e1, hg.h] at e2
  generalize ((x.add (0 * 9)).add 0).off = o at e2
  match o with
  | 0 => simp at e2
  | 1 => simp at e2
  | 2 => simp at e2
  | 3 => simp at e2
  | 4 => simp at e2
  | o + 5 => simp at e2
 ·exact e0 (hA.2 x.block (Nat.le_of_lt (h3 x hx)) hxg)
end Go.Proofs.YthfefbmkgebmkaaGreatDoor
namespace Go.Proofs.YthfefbmkgebmkaaGreatDoor
open Go.RowKit
set_option maxRecDepth 100000
set_option maxHeartbeats 4000000

/-- 256 truths. -/
def boA (B : Nat → Bool) : Array Value := ((List.range 256).map fun b => Value.bool (B b)).toArray
theorem boA_get (B : Nat → Bool) (b : Nat) (h : b < 256) : (boA B)[b]? = some (.bool (B b)) := by
 unfold boA
 rw [List.getElem?_toArray, List.getElem?_map, List.getElem?_range h]; rfl
theorem boA_size (B : Nat → Bool) : (boA B).size = 256 := by unfold boA; simp
theorem boA_set (B : Nat → Bool) (b : Nat) (v : Bool) : (boA B).setIfInBounds b (.bool v) = boA (fun c => if c = b then v else B c) := by
 apply Array.ext
 ·simp [boA_size]
 ·intro i h1 h2
  have hi : i < 256 := by rw [boA_size] at h2; exact h2
  have e2 := boA_get (fun c => if c = b then v else B c) i hi
  rw [Array.getElem?_eq_getElem h2, Option.some.injEq] at e2
  rw [e2, Array.getElem_setIfInBounds]
  by_cases hb : b = i
  ·rw [if_pos hb, if_pos hb.symm]
  ·rw [if_neg hb, if_neg (Ne.symm hb)]
   have e1 := boA_get B i hi
   rw [Array.getElem?_eq_getElem (by rw [boA_size]; exact hi), Option.some.injEq] at e1
   exact e1
theorem boA_no : boA (fun _ => false) = Array.replicate 256 (.bool false) := by
 apply Array.ext
 ·simp [boA_size]
 ·intro i h1 h2
  have hi : i < 256 := by rw [boA_size] at h1; exact h1
  have e2 := boA_get (fun _ => false) i hi
  rw [Array.getElem?_eq_getElem h1, Option.some.injEq] at e2
  rw [e2]; simp
theorem boA_one (B : Nat → Bool) : (boA B).all (·.oneCell') = true := by unfold boA; simp [Value.oneCell']
/-- A word, so far filled. -/
theorem word_lt {W : Nat → Nat} (hW : Words W) {B : Nat → Bool} {k : Nat} (h : ∀ c, inW W c = (decide (c < k) && B c)) : W (k / 64) < 2 ^ (k % 64) := by
 apply Nat.lt_pow_two_of_testBit
 intro i hi
 by_cases hj : i < 64
 ·have := h (64 * (k / 64) + i)
  unfold inW at this
  rw [show (64 * (k / 64) + i) / 64 = k / 64 by omega, show (64 * (k / 64) + i) % 64 = i by omega] at this
  rw [this, decide_eq_false (by omega)]
  rfl
 ·exact Nat.testBit_lt_two_pow (Nat.lt_of_lt_of_le (hW _) (Nat.pow_le_pow_right (by omega) (by omega)))
theorem word_add {x n : Nat} (h : x < 2 ^ n) : x + 2 ^ n = x ||| 2 ^ n := by
 have := Nat.two_pow_add_eq_or_of_lt h 1
 rw [Nat.mul_one] at this
 rw [Nat.add_comm, Nat.or_comm, this]
theorem sum_word {x n : Nat} (hx : x < 2 ^ n) (hn : n < 64) : IntKind.u64.wrap ((x : Int) + IntKind.u64.wrap (2 ^ n)) = ((x ||| 2 ^ n : Nat) : Int) := by
 have h2 : (2 : Nat) ^ n < 2 ^ 64 := Nat.pow_lt_pow_right (by decide) hn
 have h3 : x + 2 ^ n < 2 ^ 64 := by
  have : (2 : Nat) ^ (n + 1) ≤ 2 ^ 64 := Nat.pow_le_pow_right (by decide) hn
  rw [Nat.pow_succ] at this; omega
 have e : IntKind.u64.wrap (2 ^ n) = ((2 ^ n : Nat) : Int) := by
  rw [wraps64 _ (by exact_mod_cast Nat.zero_le (2 ^ n)) (by exact_mod_cast h2)]
  norm_cast
 rw [e, ← word_add hx, wraps64 _ (by omega) (by exact_mod_cast h3)]
 norm_cast
/-- The bytes of a row of truths. -/
def bitW (B : Nat → Bool) : Nat → Nat := ((List.range 256).filter B).foldl putW noW
theorem bitW_words (B : Nat → Bool) : Words (bitW B) := (foldl_put _ _ (fun b hb => by simpa using (List.mem_filter.1 hb).1) noW_words).1
theorem bitW_in (B : Nat → Bool) (c : Nat) (hc : c < 256) : inW (bitW B) c = B c := by
 unfold bitW
 rw [(foldl_put _ _ (fun b hb => by simpa using (List.mem_filter.1 hb).1) noW_words).2, inW_no, Bool.false_or, Bool.eq_iff_iff, List.contains_iff_mem, List.mem_filter]
 simp [hc]
structure RsI (w wr : World) (k : Nat) (B : Nat → Bool) (W : Nat → Nat) (g : Nat) : Prop where
 below : Below w.heap.size w wr
 res : hrow wr w.heap.size (cw noW) 39
 set : hrow wr (w.heap.size + 1) (cw W) 39
 words : Words W
 is : ∀ c, inW W c = (decide (c < k) && B c)
 inr : hrow wr g (boA B) 4
theorem rset_any (w : World) (g : Nat) (B : Nat → Bool) (h : hrow w g (boA B) 4) : Calls Tryz.prog 141 #[.slice (some ⟨g, 0, none⟩) 256 256] w fun r w' => r = .returned (.agg (cw (bitW B))) ∧ Below w.heap.size w w' := by
 have HS : Hid (RsI w ((w.alloc (.cells #[.int .u64 0, .int .u64 0, .int .u64 0, .int .u64 0] 39)).alloc (.cells #[.int .u64 0, .int .u64 0, .int .u64 0, .int .u64 0] 39)) 0 B noW g) := by
  have hb := ((Below.refl w.heap.size w).alloc (Nat.le_refl _) (.cells #[.int .u64 0, .int .u64 0, .int .u64 0, .int .u64 0] 39)).alloc (by simp) (.cells #[.int .u64 0, .int .u64 0, .int .u64 0, .int .u64 0] 39)
  refine ⟨hb, (hrow.new w _ 39).below ((Below.refl _ _).alloc (Nat.le_refl _) _), ?_, noW_words, fun c => by rw [inW_no]; simp, h.below hb⟩
  have := hrow.new (w.alloc (.cells #[.int .u64 0, .int .u64 0, .int .u64 0, .int .u64 0] 39)) #[.int .u64 0, .int .u64 0, .int .u64 0, .int .u64 0] 39
  simp only [World.size_alloc] at this
  exact this
 have HGL := Lib.hid h.lt
 clear h
 go_enter Tryz.func141, Tryz.ntmps141
 go_wp2_with fail
 go_loopw [4] (fun i wr => ∃ k : Nat, k ≤ 256 ∧ i = .int .i64 k ∧ Hid (∃ W, RsI w wr k B W g)) (fun i _ => 256 - (intOf i).toNat)
 case atStart => exact ⟨0, by omega, rfl, noW, HS.out⟩
 case round =>
  clear HS
  obtain ⟨k, hk, rfl, W, HJ⟩ := hrel
  have HI := Lib.hid HJ; clear HJ
  by_cases hlt : k < 256
  ·have hltI : (k : Int) < 256 := by omega
   have hk0 : (0 : Int) ≤ k := by omega
   have hc := (HI.out.inr.cell k).trans (boA_get B k hlt)
   obtain ⟨v, hv⟩ : ∃ v, B k = v := ⟨_, rfl⟩
   rw [hv] at hc
   have HV := Lib.hid hv; clear hv
   have HN := Lib.hid hlt
   cases v with
   | true =>
    have hcc : ∀ x : Later wr, x.val.cell? ⟨w.heap.size + 1, k / 64, none⟩ = some (.int .u64 (W (k / 64))) := fun x => ((HI.out.set.below x.ok).cell _).trans (cw_get W _ (by have := HN.out; omega))
    have hff : ∀ x : Later wr, x.val.frozen? ⟨w.heap.size + 1, k / 64, none⟩ = false := fun x => ((HI.out.set.below x.ok).frozen _)
    clear hlt
    go_wp2_with fail
    refine wp_region_later_tail 11 (by kernel_rfl) (by kernel_rfl) ?_
    simp only [List.take_succ_cons, List.take_zero, List.drop_succ_cons, List.drop_zero]
    repeat (go_big_quiet_step (fail))
    refine wpQuiet_nil ?_
    intro w5 hw5
    obtain ⟨x, rfl⟩ := hw5
    go_wp2_with fail
    go_roundw
    case rel =>
     refine ⟨k + 1, HN.out, by go_num, putW W k, (HI.out.below.trans (x.ok.mono HI.out.below.size)).setCell (p := ⟨w.heap.size + 1, k / 64, none⟩) (by simp) _, ?_, ?_, putW_words HI.out.words k, fun c => ?_, ?_⟩
     ·exact (HI.out.res.below x.ok).fr (Fr.setCell _ ⟨w.heap.size + 1, k / 64, none⟩ _) (by simp)
     ·unfold hrow
      rw [heap_setCell_same _ _ _ _ _ _ (HI.out.set.below x.ok)]
      rw [cw_set W k HN.out _ (sum_word (word_lt HI.out.words HI.out.is) (Nat.mod_lt _ (by decide)))]
     ·rw [inW_put, HI.out.is]
      by_cases hc : c = k
      ·subst hc; rw [HV.out]; simp
      ·rw [decide_eq_decide.2 (show c < k ↔ c < k + 1 by omega), decide_eq_false hc, Bool.or_false]
     ·exact (HI.out.inr.below x.ok).fr (Fr.setCell _ ⟨w.heap.size + 1, k / 64, none⟩ _) (by have := HGL.out; simp; omega)
    case measure => have := HN.out; simp [intOf]; omega
   | false =>
    clear hlt
    go_wp2_with fail
    go_roundw
    case rel => exact ⟨k + 1, HN.out, by go_num, W, ⟨HI.out.below, HI.out.res, HI.out.set, HI.out.words, fun c => by
     rw [HI.out.is]
     by_cases hc : c = k
     ·subst hc; rw [HV.out]; simp
     ·rw [decide_eq_decide.2 (show c < k ↔ c < k + 1 by omega)], HI.out.inr⟩⟩
    case measure => have := HN.out; simp [intOf]; omega
  ·have hltI : ¬ (k : Int) < 256 := by omega
   obtain rfl : k = 256 := by omega
   have K2 : Hid ((Tryz.prog.info? 39).map (·.size) = some (cw W).size) := cw_info.1
   have HE : Hid (cw W = cw (bitW B)) := cw_ext HI.out.words (bitW_words B) (fun c hc => by rw [HI.out.is, bitW_in B c hc, decide_eq_true hc, Bool.true_and])
   go_wp2_with (first
    | (with_reducible refine wpList_load_row rfl 39 (.tmp 3) rfl _ rfl 39 _ _ _ HI.out.set.h Tryz.underlying39 rfl K2.out ?_)
    | (with_reducible refine wpList_store_row rfl 39 (.tmp 2) (.tmp 24) rfl w.heap.size (cw W) rfl rfl 39 _ HI.out.res.h K2.out rfl (cw_one W) ?_))
   refine bodyPost_ret (results_cell_row rfl _ _ w.heap.size 39 _ _ _ rfl (setRow_heap _ _ _ _ _ _ HI.out.res) Tryz.underlying39 rfl K2.out) rfl ?_
   exact ⟨by rw [HE.out], below_setRow HI.out.below (Nat.le_refl _) _⟩
end Go.Proofs.YthfefbmkgebmkaaGreatDoor
namespace Go.Proofs.YthfefbmkgebmkaaGreatDoor
open Go.RowKit
set_option maxRecDepth 100000
set_option maxHeartbeats 4000000

theorem bo_info : (Tryz.prog.info? 4).map (fun i => (i.zero, i.size, i.bytes)) = some (some (.bool false), 1, 1) := by kernel_rfl
theorem mk256 (w : World) : (Instr.makeSlice 206 (.int .i64 256) (.int .i64 256)).run Tryz.prog w = .ok (.slice (some ⟨w.heap.size, 0, none⟩) 256 256) (w.alloc (.cells (boA fun _ => false) 4)) := by
 obtain ⟨i, hi, hz, hs, hb⟩ := info_parts bo_info
 have := run_make (P := Tryz.prog) w 206 4 i (.bool false) Tryz.underlying206 hi hz .i64 .i64 256 256 (by decide) (by decide) (by rw [hb]; decide) (by decide)
 rw [hs, show madeCells (Value.bool false).cells (Int.toNat 256 * 1) = boA (fun _ => false) by kernel_rfl] at this
 exact this
theorem rrng_any (p : UInt8 × UInt8) (w : World) : Calls Tryz.prog 126 #[.int .u8 p.1.toNat, .int .u8 p.2.toNat] w fun e w' => e = .returned (.agg (cw (rgW p))) ∧ Below w.heap.size w w' := by
 obtain ⟨p1, p2⟩ := p
 show Calls Tryz.prog 126 #[.int .u8 p1.toNat, .int .u8 p2.toNat] w fun e w' => e = .returned (.agg (cw (rgW (p1, p2)))) ∧ Below w.heap.size w w'
 have ha : p1.toNat < 256 := p1.toNat_lt
 have hb : p2.toNat < 256 := p2.toNat_lt
 have HRg : Hid (∀ c, c < 256 → inW (rgW (p1, p2)) c = decide (p1.toNat ≤ c ∧ c ≤ p2.toNat)) := fun c hc => rgW_in _ c hc
 have HRw := Lib.hid (rgW_words (p1, p2))
 generalize rgW (p1, p2) = R at *
 generalize p1.toNat = a at *
 generalize p2.toNat = b at *
 have hmk := mk256
 go_enter Tryz.func126, Tryz.ntmps126
 go_wp2_with fail
 have hr0 := hrow.new w (cw noW) 39
 have hb0 := (Below.refl w.heap.size w).alloc (Nat.le_refl _) (.cells (cw noW) 39)
 have HI0 : Hid (hrow ((w.alloc (.cells #[.int .u64 0, .int .u64 0, .int .u64 0, .int .u64 0] 39)).alloc (.cells (boA fun _ => false) 4)) w.heap.size (cw noW) 39 ∧ hrow ((w.alloc (.cells #[.int .u64 0, .int .u64 0, .int .u64 0, .int .u64 0] 39)).alloc (.cells (boA fun _ => false) 4)) (w.heap.size + 1) (boA fun c => decide (a ≤ c ∧ c < a)) 4 ∧ Below w.heap.size w ((w.alloc (.cells #[.int .u64 0, .int .u64 0, .int .u64 0, .int .u64 0] 39)).alloc (.cells (boA fun _ => false) 4))) := by
  refine ⟨hr0.below ((Below.refl _ _).alloc (Nat.le_refl _) _), ?_, hb0.alloc (by simp) _⟩
  have := hrow.new (w.alloc (.cells (cw noW) 39)) (boA fun _ => false) 4
  rw [World.size_alloc] at this
  have e : (fun c => decide (a ≤ c ∧ c < a)) = fun _ => false := by funext c; exact decide_eq_false (by omega)
  rw [e]
  exact this
 clear hr0 hb0 hmk
 go_loopw [6] (fun i wr => ∃ k : Nat, k ≤ 256 ∧ a ≤ k ∧ i = .int .i64 k ∧ (k ≤ b ∨ k = a ∨ k = b + 1) ∧ Hid (hrow wr w.heap.size (cw noW) 39 ∧ hrow wr (w.heap.size + 1) (boA fun c => decide (a ≤ c ∧ c < k)) 4 ∧ Below w.heap.size w wr)) (fun i _ => 256 - (intOf i).toNat)
 case atStart => exact ⟨a, by omega, by omega, rfl, .inr (.inl rfl), HI0.out⟩
 case round =>
  clear HI0
  obtain ⟨k, hk, hak, rfl, hkb, HI⟩ := hrel
  by_cases hlt : k ≤ b
  ·have hkI : (k : Int) ≤ b := by omega
   have hkI2 : (k : Int) < 256 := by omega
   have hk0 : (0 : Int) ≤ k := by omega
   have HN : Hid (k ≤ b ∧ a ≤ k ∧ b < 256) := ⟨hlt, hak, hb⟩
   have hcc := (HI.out.2.1.cell k).trans (boA_get _ k (by omega))
   have hff := HI.out.2.1.frozen k
   clear hlt hkb hak
   go_wp2_with fail
   go_roundw
   case rel =>
    have hn := HN.out
    refine ⟨k + 1, by omega, by omega, by go_num, by omega, HI.out.1.fr (Fr.setCell _ ⟨w.heap.size + 1, k, none⟩ _) (by simp), ?_, HI.out.2.2.setCell (p := ⟨w.heap.size + 1, k, none⟩) (by simp) _⟩
    have := hrow.setCell HI.out.2.1 k (.bool true)
    rw [boA_set] at this
    have e : (fun c => if c = k then true else decide (a ≤ c ∧ c < k)) = fun c => decide (a ≤ c ∧ c < k + 1) := by
     funext c
     by_cases hc : c = k
     ·subst hc; rw [if_pos rfl]; exact (decide_eq_true (by omega)).symm
     ·rw [if_neg hc]; exact decide_eq_decide.2 (by omega)
    rw [e] at this
    exact this
   case measure => have := HN.out; simp [intOf]; omega
  ·have hkI : ¬ (k : Int) ≤ b := by omega
   have HE : Hid (cw (bitW fun c => decide (a ≤ c ∧ c < k)) = cw R) := cw_ext (bitW_words _) HRw.out (fun c hc => by rw [bitW_in _ c hc, HRg.out c hc, Bool.eq_iff_iff]; simp; omega)
   have K2 : Hid ((Tryz.prog.info? 39).map (·.size) = some (cw R).size) := cw_info.1
   clear hkb
   go_wp2_with fail
   refine (rset_any _ _ _ HI.out.2.1).mono ?_
   rintro e w2 ⟨rfl, hb2⟩
   rw [HE.out]
   have HR := Lib.hid (HI.out.1.below hb2)
   have HB := Lib.hid (HI.out.2.2.trans (hb2.mono HI.out.2.2.size))
   clear HI HE hb2
   go_wp2_with (first
    | (with_reducible refine wpList_store_row rfl 39 (.tmp 4) (.tmp 20) rfl w.heap.size (cw R) rfl rfl 39 _ HR.out.h K2.out rfl (cw_one R) ?_))
   refine bodyPost_ret (results_cell_row rfl _ _ w.heap.size 39 _ _ _ rfl (setRow_heap _ _ _ _ _ _ HR.out) Tryz.underlying39 rfl K2.out) rfl ?_
   exact ⟨rfl, below_setRow HB.out (Nat.le_refl _) _⟩
end Go.Proofs.YthfefbmkgebmkaaGreatDoor
