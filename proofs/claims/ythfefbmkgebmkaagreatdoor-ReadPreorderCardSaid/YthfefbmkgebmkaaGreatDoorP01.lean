/- Walks and plain laws: Lj Lh. -/
import Derived.Test.YthfefbmkgebmkaaGreatDoorM17
import Derived.Test.YthfefbmkgebmkaaGreatDoorM12
import Derived.Test.YthfefbmkgebmkaaGreatDoorM06
import Derived.BigQuiet
namespace Go.Proofs.YthfefbmkgebmkaaGreatDoor
open Go.RowKit
set_option maxRecDepth 100000
set_option maxHeartbeats 8000000

theorem rulsP_nb {L : List Wd} (hW : WsOk L) (f : Nat) : ∀ (g : Nat) (acc : List (Wd × Pt)) (i : Nat) (x : List (Wd × Pt)) (j : Nat), i < L.length → (treeF 0 acc).2.length ≤ 2 * i → (treeF 0 acc).1.length ≤ i → rulsP L f g acc i = some (.ok x j) → (treeF 0 x).2.length ≤ 2 * L.length ∧ (treeF 0 x).1.length ≤ L.length
  | 0, acc, i, x, j, hi, h1, h2, e => by cases e
  | g + 1, acc, i, x, j, hi, h1, h2, e => by
    rw [rulsP_cont] at e
    cases hq : rulP L f i with
    | none => rw [hq] at e; cases e
    | some r =>
      rw [hq] at e
      cases r with
      | err a b => cases e
      | ok y k =>
        obtain ⟨s1, s2, s3⟩ := rulP_sz hW hi hq
        obtain ⟨wd, p⟩ := y
        have hsn := treeF_snoc 0 acc wd p
        simp only [Nat.zero_add] at hsn
        simp only [] at e s1
        have g1 : (treeF 0 (acc ++ [(wd, p)])).2.length ≤ 2 * k := by rw [hsn]; simp only [List.length_append, flat_len]; omega
        have g2 : (treeF 0 (acc ++ [(wd, p)])).1.length ≤ k := by rw [hsn]; simp only [List.length_append, List.length_cons, List.length_nil]; omega
        unfold contP at e
        split at e
        · simp only [Option.some.injEq, Rs.ok.injEq] at e
          obtain ⟨rfl, rfl⟩ := e
          exact ⟨by omega, by omega⟩
        · exact rulsP_nb hW f g _ k x j s3 g1 g2 e
theorem readT_nb {l : List UInt8} : (readT l).1.2.length ≤ 2 * (l.length + 1) ∧ (readT l).1.1.length ≤ l.length + 1 := by
  unfold readT
  cases hw : (wordsOf l).2 with
  | some p => exact ⟨Nat.zero_le _, Nat.zero_le _⟩
  | none =>
    have hA := (words_at hw).ok
    have hl := words_len l
    simp only []
    cases hr : readW (wordsOf l).1 with
    | err a b => exact ⟨Nat.zero_le _, Nat.zero_le _⟩
    | ok x j =>
      unfold readW at hr
      cases hq : rulsP (wordsOf l).1 (6 * (wordsOf l).1.length + 4) ((wordsOf l).1.length + 1) [] 0 with
      | none => rw [hq] at hr; cases hr
      | some r =>
        rw [hq] at hr
        simp only [] at hr
        subst hr
        have := rulsP_nb hA _ _ _ _ _ _ hA.pos (Nat.zero_le _) (Nat.zero_le _) hq
        simp only []
        omega
theorem three_blocks (y : World) (g : Nat) (hg : y.heap.size = g) (a b c : Array Value) (ta tb tc : TypeId) : ∃ z, ((y.alloc (.cells a ta)).alloc (.cells b tb)).alloc (.cells c tc) = z ∧ hrow z g a ta ∧ hrow z (g + 1) b tb ∧ hrow z (g + 1 + 1) c tc ∧ Below y.heap.size y z := by
  subst hg
  have h2 := hrow.new (y.alloc (.cells a ta)) b tb
  have h3 := hrow.new ((y.alloc (.cells a ta)).alloc (.cells b tb)) c tc
  rw [World.size_alloc] at h2
  rw [World.size_alloc, World.size_alloc] at h3
  exact ⟨_, rfl, ((hrow.new y a ta).below ((Below.refl _ _).alloc (Nat.le_refl _) _)).below ((Below.refl _ _).alloc (Nat.le_refl _) _), h2.below ((Below.refl _ _).alloc (Nat.le_refl _) _), h3, al1 (al2 (Below.refl _ _) _ _) _⟩
/-- A tree that was read, as the law walks through it: two objects, five slices. -/
structure PrW (g : Nat) (ro no ao bo co : Option Addr) (rc nc ac bc cc : Nat) (NK : List Nk) (R : List Rr) (N : List Rn) (w : World) : Prop where
  tr : hrow w g #[.slice ro R.length rc, .slice no N.length nc, .slice ao R.length ac, .slice bo N.length bc, .slice co N.length cc] 30
  gm : hrow w (g + 1 + 1) #[.slice ro R.length rc, .slice no N.length nc] 26
  gr : GrW w ro R.length rc no N.length nc NK ⟨R.map Rr.ru, N.map Rn.nd⟩
  ra : Sv w ao R.length ac 1 (inc (R.map fun r => (r.at_ : Int)))
  na : Sv w bo N.length bc 1 (inc (N.map fun x => (x.at_ : Int)))
  nm : Sv w co N.length cc 1 ((N.map fun x => tx x.nm).map Value.string)
section
variable {g : Nat} {ro no ao bo co : Option Addr} {rc nc ac bc cc : Nat} {NK : List Nk} {R : List Rr} {N : List Rn} {w w' : World}
theorem PrW.below (h : PrW g ro no ao bo co rc nc ac bc cc NK R N w) (hb : Below w.heap.size w w') : PrW g ro no ao bo co rc nc ac bc cc NK R N w' :=
  ⟨h.tr.below hb, h.gm.below hb, h.gr.below hb, h.ra.below hb, h.na.below hb, h.nm.below hb⟩
theorem PrW.node (h : PrW g ro no ao bo co rc nc ac bc cc NK R N w) {k : Nat} (hk : k < N.length) :
    ∃ a ko kc, no = some a ∧ w.cell? (a.add (k * 9)) = some (.int .i64 N[k].kind) ∧ w.cell? ⟨(a.add (k * 9)).block, (a.add (k * 9)).off + 5, none⟩ = some (.string (tx N[k].tx)) ∧ w.cell? ⟨(a.add (k * 9)).block, (a.add (k * 9)).off + 6, none⟩ = some (.int .i64 0) ∧
      w.cell? ⟨(a.add (k * 9)).block, (a.add (k * 9)).off + 8, none⟩ = some (.slice ko N[k].kids.length kc) ∧ Sv w ko N[k].kids.length kc 1 (inc (N[k].kids.map fun (j : Nat) => (j : Int))) := by
  have hl : NK.length = N.length := by have := congrArg List.length h.gr.eq; simpa using this
  have hk' : k < NK.length := by omega
  have e : (NK[k]'hk').1 = Rn.nd N[k] := by
    have := congrArg (fun l => l[k]?) h.gr.eq
    simpa [hk, hk'] using this
  obtain ⟨a, ha, c0, -, -, -, -, c5, c6, -, c8⟩ := h.gr.nod.sv.nd9 hk'
  have hs := h.gr.nod.kids (NK[k]'hk') (List.getElem_mem _)
  rw [e] at c0 c5 c6 c8 hs
  have hkl : (Rn.nd N[k]).kids.length = N[k].kids.length := by show (N[k].kids.map fun (j : Nat) => (j : Int)).length = _; rw [List.length_map]
  rw [hkl] at c8 hs
  exact ⟨a, _, _, ha, c0, c5, c6, c8, hs⟩
theorem PrW.nat (h : PrW g ro no ao bo co rc nc ac bc cc NK R N w) {k : Nat} (hk : k < N.length) : ∃ a, bo = some a ∧ w.cell? (a.add k) = some (.int .i64 N[k].at_) := by
  obtain ⟨a, ha, hc⟩ := h.na.intc k (by simpa using hk)
  exact ⟨a, ha, by rw [hc, ← bt_get (by simpa using hk)]; simp⟩
theorem PrW.nnm (h : PrW g ro no ao bo co rc nc ac bc cc NK R N w) {k : Nat} (hk : k < N.length) : ∃ a, co = some a ∧ w.cell? (a.add k) = some (.string (tx N[k].nm)) := by
  obtain ⟨a, ha, hc⟩ := h.nm.str k (by simpa using hk)
  exact ⟨a, ha, by rw [hc]; simp⟩
theorem PrW.rat (h : PrW g ro no ao bo co rc nc ac bc cc NK R N w) {k : Nat} (hk : k < R.length) : ∃ a, ao = some a ∧ w.cell? (a.add k) = some (.int .i64 R[k].at_) := by
  obtain ⟨a, ha, hc⟩ := h.ra.intc k (by simpa using hk)
  exact ⟨a, ha, by rw [hc, ← bt_get (by simpa using hk)]; simp⟩
theorem PrW.rul (h : PrW g ro no ao bo co rc nc ac bc cc NK R N w) {k : Nat} (hk : k < R.length) : ∃ a, ro = some a ∧ w.cell? (a.add (k * 2)) = some (.string (tx R[k].nm)) ∧ w.cell? ⟨(a.add (k * 2)).block, (a.add (k * 2)).off + 1, none⟩ = some (.int .i64 R[k].body) := by
  obtain ⟨a, ha, h1, h2⟩ := h.gr.rul.ru2 (k := k) (by simpa using hk)
  simp only [List.getElem_map] at h1 h2
  exact ⟨a, ha, h1, h2⟩
theorem PrW.nat1 {b : Addr} (h : PrW g ro no ao (some b) co rc nc ac bc cc NK R N w) {k : Nat} (hk : k < N.length) : w.cell? (b.add k) = some (.int .i64 N[k].at_) := by
  obtain ⟨a, ha, hc⟩ := h.nat hk; cases ha; exact hc
theorem PrW.nnm1 {b : Addr} (h : PrW g ro no ao bo (some b) rc nc ac bc cc NK R N w) {k : Nat} (hk : k < N.length) : w.cell? (b.add k) = some (.string (tx N[k].nm)) := by
  obtain ⟨a, ha, hc⟩ := h.nnm hk; cases ha; exact hc
theorem PrW.ntx1 {b : Addr} (h : PrW g ro (some b) ao bo co rc nc ac bc cc NK R N w) {k : Nat} (hk : k < N.length) : w.cell? ⟨(b.add (k * 9)).block, (b.add (k * 9)).off + 5, none⟩ = some (.string (tx N[k].tx)) := by
  obtain ⟨a, ko, kc, ha, -, h5, -⟩ := h.node hk; cases ha; exact h5
theorem PrW.rat1 {b : Addr} (h : PrW g ro no (some b) bo co rc nc ac bc cc NK R N w) {k : Nat} (hk : k < R.length) : w.cell? (b.add k) = some (.int .i64 R[k].at_) := by
  obtain ⟨a, ha, hc⟩ := h.rat hk; cases ha; exact hc
theorem PrW.rul1 {b : Addr} (h : PrW g (some b) no ao bo co rc nc ac bc cc NK R N w) {k : Nat} (hk : k < R.length) : w.cell? ⟨(b.add (k * 2)).block, (b.add (k * 2)).off + 1, none⟩ = some (.int .i64 R[k].body) ∧ w.cell? (b.add (k * 2)) = some (.string (tx R[k].nm)) := by
  obtain ⟨a, ha, h1, h2⟩ := h.rul hk; cases ha; exact ⟨h2, h1⟩
end
/-- The row of ends while it is filled from behind. -/
structure EnV (n : Nat) (E : Nat → Nat) (m : Nat) (z : World) (cs : Array Value) (wr : World) : Prop where
  le : m ≤ n
  row : hrow wr z.heap.size cs 3
  size : cs.size = n
  val : ∀ k, m ≤ k → k < n → cs[k]? = some (.int .i64 (E k))
  bl : Below z.heap.size z wr
section
variable {n : Nat} {E : Nat → Nat} {m : Nat} {z wr w' : World} {cs : Array Value}
theorem EnV.start {z6 : World} (h : z6.ownsRow z.heap.size 3 1 (.slice (some ⟨z.heap.size, 0, none⟩) n n) n (madeCells (Value.int .i64 0).cells (n * 1)).toList) (hb : Below z.heap.size z z6) : ∃ cs, EnV n E n z cs z6 := by
  obtain ⟨-, h2⟩ := h
  rcases h2 with ⟨h2, -⟩ | ⟨g, cap, cur, hv, -, hh, -, -, hs, -⟩
  · cases h2
  · simp only [Value.slice.injEq, Option.some.injEq, Addr.mk.injEq, and_true, true_and] at hv
    obtain ⟨rfl, rfl⟩ := hv
    exact ⟨cur, Nat.le_refl _, hh, by omega, fun k h1 h2 => by omega, hb⟩
theorem EnV.below (h : EnV n E m z cs wr) (hb : Below wr.heap.size wr w') : EnV n E m z cs w' := ⟨h.le, h.row.below hb, h.size, h.val, h.bl.trans (hb.mono h.bl.size)⟩
theorem EnV.cell (h : EnV n E m z cs wr) {k : Nat} (h1 : m ≤ k) (h2 : k < n) : wr.cell? ⟨z.heap.size, k, none⟩ = some (.int .i64 (E k)) := by rw [h.row.cell, h.val k h1 h2]
theorem EnV.at0 (h : EnV n E m z cs wr) {k : Nat} (h2 : k < n) : (∃ v, wr.cell? ⟨z.heap.size, k, none⟩ = some v) ∧ wr.frozen? ⟨z.heap.size, k, none⟩ = false :=
  ⟨⟨cs[k]'(by have := h.size; omega), by rw [h.row.cell]; exact Array.getElem?_eq_getElem _⟩, h.row.frozen k⟩
theorem EnV.set (h : EnV n E (m + 1) z cs wr) : EnV n E m z (cs.setIfInBounds m (.int .i64 (E m))) (wr.setCell ⟨z.heap.size, m, none⟩ (.int .i64 (E m))) where
  le := by have := h.le; omega
  row := h.row.setCell m _
  size := by rw [Array.size_setIfInBounds]; exact h.size
  val := fun k h1 h2 => by
    rw [Array.getElem?_setIfInBounds]
    have hs := h.size
    by_cases e : m = k
    · subst e
      rw [if_pos rfl, if_pos (by omega)]
    · rw [if_neg e]
      exact h.val k (by omega) h2
  bl := h.bl.setCell (Nat.le_refl _) _
end
end Go.Proofs.YthfefbmkgebmkaaGreatDoor
namespace Go.Proofs.YthfefbmkgebmkaaGreatDoor
open Go.RowKit
set_option maxRecDepth 100000
set_option maxHeartbeats 60000000

theorem rpre_any (s : ByteArray) (w : World) : Calls Tryz.prog 3 #[.string s] w fun e w' => e = .returned (.bool true) ∧ Below w.heap.size w w' := by
  have HA := Lib.hid (fun x => rawake_any x)
  by_cases hs : 2000 < s.size
  · have hsI : (2000 : Int) < s.size := by omega
    clear hs
    go_enter Tryz.func3, Tryz.ntmps3
    go_wp2_with fail
    refine (HA.out _).mono ?_
    rintro e x ⟨rfl, hb⟩
    have HB := Lib.hid hb
    clear hb HA
    go_wp2_with fail
    go_ret
    exact ⟨rfl, HB.out⟩
  · have hsI : ¬ (2000 : Int) < s.size := by omega
    have HT := Lib.hid (fun x => text_walk s x (by omega))
    have HSZ : Hid (s.size ≤ 2000) := by unfold Hid; omega
    unfold TxtP at HT
    have hnb := readT_nb (l := s.data.toList)
    have hsl : s.data.toList.length = s.size := ba_len s
    rw [hsl] at hnb
    obtain ⟨⟨⟨R, N⟩, e0, a0⟩, hrt⟩ : ∃ y, readT s.data.toList = y := ⟨_, rfl⟩
    rw [hrt] at HT hnb
    simp only [] at HT hnb
    have HNB := Lib.hid hnb
    have HRT := Lib.hid hrt
    have HSL := Lib.hid hsl
    clear hnb hrt hs hsl
    by_cases he : e0 = 0
    · subst he
      obtain ⟨rfl, hRne, hKU, hBD, E, hE, hCh, hNm, hUp⟩ := preorder HRT.out
      have HE := Lib.hid hE; have HCh := Lib.hid hCh; have HNm := Lib.hid hNm; have HUp := Lib.hid hUp; have HKU := Lib.hid hKU; have HBD := Lib.hid hBD
      have HRP : Hid (0 < R.length) := List.length_pos_iff.2 hRne
      clear hE hCh hNm hUp hKU hBD hRne
      go_enter Tryz.func3, Tryz.ntmps3
      go_wp2_with fail
      refine (HA.out _).mono ?_
      rintro e x ⟨rfl, hb⟩
      have HB := Lib.hid hb
      clear hb HA
      go_wp2_with fail
      refine (HT.out _).mono ?_
      rintro e y ⟨v1, v2, v3, v4, v5, rfl, ht, hb⟩
      have htxt : ∀ x ∈ N, x.tx.length ≤ 1000000 := fun x hx => by
        obtain ⟨i, hi, rfl⟩ := List.mem_iff_getElem.1 hx
        have := (HE.out i hi).2.2.2.2.2.2
        have h2 := HSL.out; have h3 := HSZ.out; omega
      have hnmt : ∀ r ∈ R, r.nm.length ≤ 1000000 := fun r hr => by
        obtain ⟨-, w, h1, h2⟩ := HNm.out r hr
        have := nextW_tx h1
        rw [← h2]
        have h2 := HSL.out; have h3 := HSZ.out; omega
      obtain ⟨ro, no, ao, bo, co, rc, nc, ac, bc, cc, NK, rfl, rfl, rfl, rfl, rfl, hG, hRA, hNA, hNM⟩ := ht.gr htxt hnmt
      have HB2 := Lib.hid (HB.out.trans (hb.mono HB.out.size))
      have HG := Lib.hid hG; have HRA := Lib.hid hRA; have HNA := Lib.hid hNA; have HNM := Lib.hid hNM
      clear hb ht hG hRA hNA hNM HB HT htxt hnmt
      go_upto_region 7 with (fail)
      obtain ⟨g, hg⟩ : ∃ g, y.heap.size = g := ⟨_, rfl⟩
      rw [hg]
      obtain ⟨z, hz, z1, z2, z3, zb⟩ := three_blocks y g hg #[.slice ro R.length rc, .slice no N.length nc, .slice ao R.length ac, .slice bo N.length bc, .slice co N.length cc] #[.int .i64 0, .int .i64 0] #[.slice ro R.length rc, .slice no N.length nc] 30 33 26
      rw [hz]
      have HB3 := Lib.hid (HB2.out.trans (zb.mono HB2.out.size))
      have HG3 := Lib.hid (HG.out.below zb); have HRA3 := Lib.hid (HRA.out.below zb); have HNA3 := Lib.hid (HNA.out.below zb); have HNM3 := Lib.hid (HNM.out.below zb)
      have HZ1 := Lib.hid z1; have HZ3 := Lib.hid z3
      have t2 := z1.cell 2; have t3 := z1.cell 3; have t4 := z1.cell 4
      have k0 := z2.cell 0; have k1 := z2.cell 1
      have l0 := z3.cell 0; have l1 := z3.cell 1
      have hRne : ¬ (R.length : Int) = 0 := by have := HRP.out; omega
      have hRne2 : ((R.length : Int) == 0) = false := by simpa using hRne
      have hbR := HRA3.out.bound; have hbN := HNA3.out.bound
      clear hz zb z1 z2 z3 HB2 hg HG HRA HNA HNM
      go_upto_region 11 with (fail)
      have HN2 : Hid (N.length ≤ 5000) := by have h1 := HNB.out.1; have h2 := HSZ.out; unfold Hid; omega
      obtain ⟨ii, hi, hz0, hz1, hz2⟩ := info_parts elIntS.i
      have Hi := Lib.hid hi; have Hz0 := Lib.hid hz0; have Hz1 := Lib.hid hz1; have HBy : Hid (ii.bytes * N.length ≤ 281474976710656) := by have h := HN2.out; unfold Hid; rw [hz2]; omega
      have HML : Hid (N.length ≤ maxLen) := by have h := HN2.out; unfold Hid maxLen; omega
      have HPR : Hid (PrW g ro no ao bo co rc nc ac bc cc NK R N z) := ⟨HZ1.out, HZ3.out, HG3.out, HRA3.out, HNA3.out, HNM3.out⟩
      clear hi hz0 hz1 hz2 k0 k1 hRne hRne2 HZ1 HZ3 HG3 HRA3 HNA3 HNM3
      go_wp2_with (first | (at_make; refine wpList_make_full _ rfl _ _ 27 rfl z.heap.size 3 ii _ 1 Tryz.underlying27 Hi.out Hz0.out Hz1.out _ _ _ _ N.length rfl rfl rfl rfl HBy.out HML.out (Nat.le_refl _) ?_; intro z6 hown6 hg6; have HB6 := Lib.hid ((Below.refl z.heap.size z).grown hg6 (Nat.le_refl _) (by simp)); have HO6 := Lib.hid (EnV.start (E := E) hown6 HB6.out); clear hown6 hg6; have m0 := (HPR.out.below HB6.out).gm.cell 0; have m1 := (HPR.out.below HB6.out).gm.cell 1))
      obtain ⟨cs0, HE0⟩ := HO6.out
      clear HO6 HB6 Hi Hz0 Hz1 HBy HML m0 m1 l0 l1 t2 t3 t4
      go_loopw [7, 8, 9, 10, 11, 12] (fun t7 _ _ _ _ _ wr => ∃ (m : Nat) (p : Int) (cs : Array Value), p = (m : Int) - 1 ∧ t7 = .int .i64 p ∧ Hid (EnV N.length E m z cs wr)) (fun t7 _ _ _ _ _ _ => (intOf t7 + 1).toNat)
      case atStart => exact ⟨N.length, _, cs0, rfl, by go_num, HE0⟩
      case round =>
        clear HE0
        obtain ⟨m, p, cs, hp, rfl, HV⟩ := hrel
        cases m with
        | zero =>
          have hp0 : ¬ 0 ≤ p := by omega
          clear hp
          as_aux_lemma =>
            go_upto_region 34 with (fail)
            go_loopw [13, 14, 15, 16] (fun t13 t14 _ _ wx => ∃ (i q : Nat), i ≤ R.length ∧ t13 = .int .i64 q ∧ t14 = .int .i64 i ∧ Hid (Chn E q ((R.map (·.body)).drop i) N.length) ∧ Hid (EnV N.length E 0 z cs wx)) (fun _ t14 _ _ _ => R.length - (intOf t14).toNat)
            case atStart => exact ⟨0, 0, Nat.zero_le _, by go_num, by go_num, HCh.out, HV.out⟩
            case round =>
              clear HV
              obtain ⟨i, q, hi, rfl, rfl, HQ, HVx⟩ := hrel
              have HPx := Lib.hid (HPR.out.below HVx.out.bl)
              have m0 := HPx.out.gm.cell 0; have m1 := HPx.out.gm.cell 1
              by_cases hlt : i < R.length
              · have hltI : (i : Int) < R.length := by omega
                have hc := HQ.out
                rw [List.drop_eq_getElem_cons (by simpa using hlt)] at hc
                simp only [List.getElem_map] at hc
                obtain ⟨hc1, hc2⟩ := hc
                rw [hc1] at hc2
                have hq : q < N.length := hc1 ▸ HBD.out R[i] (List.getElem_mem _)
                have hqI : (q : Int) < N.length := by omega
                obtain ⟨r1, w0, r2, r3⟩ := HNm.out R[i] (List.getElem_mem _)
                have hup := HUp.out
                have HNx := Lib.hid (fun y => next_any s R[i].at_ y (by have := HSZ.out; omega) (by have := HSL.out; omega))
                rw [r2] at HNx
                unfold nxV wdD wdA at HNx
                simp only [] at HNx
                rw [r3] at HNx
                obtain ⟨ra, rfl, ra0⟩ := HPx.out.rat hlt
                obtain ⟨rr, rfl, -, -⟩ := HPx.out.rul hlt
                have hbA := HPx.out.ra.bound
                obtain ⟨Y, hY⟩ : ∃ Y, R[i] = Y := ⟨_, rfl⟩
                rw [hY] at HNx ra0 hc1
                have HC2 := Lib.hid hc2; have HY := Lib.hid hY; have HC1 := Lib.hid hc1
                clear hc1 hc2 hY r1 r2 r3 HQ
                have t2 := HPx.out.tr.cell 2
                go_wp2_with fail
                refine (HNx.out _).mono ?_
                rintro e w6 ⟨rfl, hb⟩
                have HV3 := Lib.hid (HVx.out.below hb)
                have HP3 := Lib.hid (HPx.out.below hb)
                clear hb HNx HVx HPx t2 m0 m1 ra0
                go_upto_region 37 with (fail)
                have HR := Lib.hid (hrow.new w6 #[.int .i64 w0.kind, .int .i64 w0.at_, .int .i64 w0.nx, .string (tx Y.nm), .int .i64 w0.lv, .int .u64 (clsW w0.cl 0), .int .u64 (clsW w0.cl 1), .int .u64 (clsW w0.cl 2), .int .u64 (clsW w0.cl 3)] 44)
                have hbl := (Below.refl w6.heap.size w6).alloc (Nat.le_refl _) (.cells #[.int .i64 w0.kind, .int .i64 w0.at_, .int .i64 w0.nx, .string (tx Y.nm), .int .i64 w0.lv, .int .u64 (clsW w0.cl 0), .int .u64 (clsW w0.cl 1), .int .u64 (clsW w0.cl 2), .int .u64 (clsW w0.cl 3)] 44)
                have HV4 := Lib.hid (HV3.out.below hbl)
                have HP4 := Lib.hid (HP3.out.below hbl)
                clear hbl HV3 HP3
                generalize w6.alloc (.cells #[.int .i64 w0.kind, .int .i64 w0.at_, .int .i64 w0.nx, .string (tx Y.nm), .int .i64 w0.lv, .int .u64 (clsW w0.cl 0), .int .u64 (clsW w0.cl 1), .int .u64 (clsW w0.cl 2), .int .u64 (clsW w0.cl 3)] 44) = wx at *
                generalize w6.heap.size = gg at *
                obtain ⟨-, -, -, f3, -⟩ := hrow.c9 HR.out
                have m0 := HP4.out.gm.cell 0; have m1 := HP4.out.gm.cell 1; have t2 := HP4.out.tr.cell 2
                obtain ⟨rb, rn⟩ := HP4.out.rul1 hlt
                rw [HY.out] at rb rn
                rw [HC1.out] at rb
                have ra0 := HP4.out.rat1 hlt
                rw [HY.out] at ra0
                have e5 := HV4.out.cell (Nat.zero_le _) hq
                clear hltI
                obtain ⟨I, hI⟩ : ∃ I : Int, (i : Int) = I := ⟨_, rfl⟩
                have HI := Lib.hid hI
                rw [hI]
                have hI0 : 0 ≤ I := by omega
                have hltI : I < (R.length : Int) := by omega
                have htnI : I.toNat = i := by omega
                have hqn : ¬ N.length ≤ q := by omega
                have hqn2 : ¬ (N.length : Int) ≤ q := by omega
                by_cases hi0 : i = 0
                · have hgi : ¬ 0 < I := by omega
                  clear hi0 hI hup
                  refine wp_region_quiet_lit (by kernel_rfl) (by kernel_rfl) ?_
                  repeat (go_big_quiet_step (fail))
                  refine wpQuiet_nil ?_
                  intro _ hw'
                  obtain ⟨nq, hw''⟩ := hw'
                  subst hw''
                  go_wp2_with fail
                  go_roundw
                  case rel => exact ⟨i + 1, E q, hlt, by go_num, by rw [← HI.out]; go_num, HC2.out, HV4.out.below (below_drewN (Below.refl _ _) _)⟩
                  case measure => simp [intOf]; omega
                · have hlt2 : i - 1 < R.length := by omega
                  have ra1 := HP4.out.rat1 hlt2
                  have hup1 := hup (i - 1) (by omega)
                  have hii : R[i - 1 + 1]'(by omega) = Y := by rw [← HY.out]; congr 1; omega
                  rw [hii] at hup1
                  have hgi : 0 < I := by omega
                  obtain ⟨A1, hA1⟩ : ∃ A1, R[i - 1].at_ = A1 := ⟨_, rfl⟩
                  rw [hA1] at ra1 hup1
                  have hnle : ¬ Y.at_ ≤ A1 := by omega
                  have htn : (I - 1).toNat = i - 1 := by omega
                  have hb1 : (0 : Int) ≤ I - 1 := by omega
                  have hb2 : I - 1 < R.length := by omega
                  clear hup1 hA1 hii hi0 hI hup
                  refine wp_region_quiet_lit (by kernel_rfl) (by kernel_rfl) ?_
                  repeat (go_big_quiet_step (fail))
                  refine wpQuiet_nil ?_
                  intro _ hw'
                  obtain ⟨nq, hw''⟩ := hw'
                  subst hw''
                  go_wp2_with fail
                  go_roundw
                  case rel => exact ⟨i + 1, E q, hlt, by go_num, by rw [← HI.out]; go_num, HC2.out, HV4.out.below (below_drewN (Below.refl _ _) _)⟩
                  case measure => simp [intOf]; omega
              · have hltI : ¬ (i : Int) < R.length := by omega
                have hq : q = N.length := by have := HQ.out; rw [List.drop_eq_nil_of_le (by simp; omega)] at this; exact this
                have HBF := Lib.hid (HB3.out.trans (HVx.out.bl.mono HB3.out.size))
                subst hq
                clear HVx
                go_wp2_with fail
                go_ret
                exact ⟨rfl, HBF.out⟩
        | succ k =>
          obtain rfl : p = (k : Int) := by omega
          have hk : k < N.length := by have := HV.out.le; omega
          have HPw := Lib.hid (HPR.out.below HV.out.bl)
          obtain ⟨a, ko, kc, rfl, n0, n5, n6, n8, hs⟩ := HPw.out.node hk
          obtain ⟨hch, hEk, hNL⟩ := HE.out k hk
          have hku := HKU.out k hk
          have m0 := HPw.out.gm.cell 0; have m1 := HPw.out.gm.cell 1
          obtain ⟨X, hX⟩ : ∃ X, N[k] = X := ⟨_, rfl⟩
          rw [hX] at n0 n5 n8 hs hch hNL hku
          have HCH := Lib.hid hch; have HNL := Lib.hid hNL; have HKu := Lib.hid hku; have HS := Lib.hid hs; have HX := Lib.hid hX; have HEk := Lib.hid hEk
          have hkI : (k : Int) < N.length := by omega
          have hbk := hs.bound
          clear hch hNL hku hs hX hp hEk n0 n5 n6
          go_upto_region 17 with (fail)
          go_loopw [8, 9] (fun t8 t9 wz => wz = wr ∧ ∃ (j q : Nat), j ≤ X.kids.length ∧ t8 = .int .i64 q ∧ t9 = .int .i64 j ∧ Hid (Chn E q (X.kids.drop j) (E k))) (fun _ t9 _ => X.kids.length - (intOf t9).toNat)
          case atStart => exact ⟨rfl, 0, k + 1, by omega, by go_num, by go_num, HCH.out⟩
          case round =>
            obtain ⟨rfl, j, q, hj, rfl, rfl, HQ⟩ := hrel
            by_cases hlt : j < X.kids.length
            · have hltI : (j : Int) < X.kids.length := by omega
              have hc := HQ.out
              rw [List.drop_eq_getElem_cons hlt] at hc
              obtain ⟨hc1, hc2⟩ := hc
              obtain ⟨u1, u2⟩ := HKu.out X.kids[j] (List.getElem_mem _)
              rw [hc1] at u1 u2 hc2
              obtain ⟨ka, rfl, k5⟩ := HS.out.intc j (by simpa using hlt)
              rw [← bt_get (by simpa using hlt)] at k5
              simp only [List.getElem_map, hc1] at k5
              have hqI : (q : Int) < N.length := by omega
              have e5 := HV.out.cell (k := q) (by omega) u2
              have HC2 := Lib.hid hc2
              clear hc1 hc2 u1 u2 HQ
              go_wp2_with fail
              go_roundw
              case rel => exact ⟨trivial, j + 1, E q, hlt, rfl, by go_num, HC2.out⟩
              case measure => first | (simp [intOf]; done) | (simp [intOf]; omega)
            · have hltI : ¬ (j : Int) < X.kids.length := by omega
              have hq : q = E k := by have := HQ.out; rw [List.drop_eq_nil_of_le (by omega)] at this; exact this
              subst hq
              obtain ⟨⟨v0, c0⟩, f0⟩ := HV.out.at0 hk
              go_upto_region 23 with (fail)
              have HV2 := Lib.hid HV.out.set
              generalize wr.setCell ⟨z.heap.size, k, none⟩ (.int .i64 (E k)) = ws at HV2 ⊢
              generalize cs.setIfInBounds k (.int .i64 (E k)) = cs2 at HV2
              have HPs := Lib.hid (HPR.out.below HV2.out.bl)
              clear n8 c0 f0 m0 m1 HV HPw HQ HCH HS hj hltI hbk
              obtain ⟨a', ko', kc', ha', n0, n5, n6, n8, hs⟩ := HPs.out.node hk
              obtain rfl : a = a' := by simpa using ha'
              obtain ⟨cb, rfl, nb⟩ := HPs.out.nat hk
              obtain ⟨cn, rfl, nn⟩ := HPs.out.nnm hk
              have m0 := HPs.out.gm.cell 0; have m1 := HPs.out.gm.cell 1
              have t3 := HPs.out.tr.cell 3; have t4 := HPs.out.tr.cell 4
              have hbB := HPs.out.na.bound; have hbM := HPs.out.nm.bound; have hbk := hs.bound
              rw [HX.out] at n0 n5 n8 nb nn hs hbk
              clear ha' hs
              obtain ⟨g1, g2, ⟨w0, g3, g4, g5, g6⟩, g7, g8⟩ := HNL.out
              have ha1 : X.at_ ≤ s.size := by have := HSL.out; omega
              have hat0 : decide ((X.at_ : Int) < 0) = false := by simp
              have hat1 : decide ((s.size : Int) ≤ X.at_) = false := by have := HSL.out; simp; omega
              have hat2 : ¬ s.size ≤ X.at_ := by have := HSL.out; omega
              have HG2 := Lib.hid g2; have HG7 := Lib.hid g7; have HG5 := Lib.hid g5; have HG6 := Lib.hid g6
              have HNx := Lib.hid (fun y => next_any s X.at_ y (by have := HSZ.out; omega) ha1)
              rw [g3] at HNx
              unfold nxV wdD wdA at HNx
              simp only [] at HNx
              rw [g4] at HNx
              clear g1 g2 g3 g5 g6 g7 g8 ha1 HNL
              by_cases hA : X.kind = 5
              · have hk5 : ((X.kind : Int) == 5) = true := by simp; omega
                have hk6 : ((X.kind : Int) == 6) = false := by simp; omega
                have hk7 : ((X.kind : Int) == 7) = false := by simp; omega
                have hk4 : ((X.kind : Int) == 4) = false := by simp; omega
                have hnm2 : ¬ (tx X.nm).toList = [] := by
                  have e : X.nm ≠ [] := HG2.out.2 hA
                  rw [ba_toList, tx_list]; exact e
                have hnm : (tx X.nm).toList.isEmpty = false := by simpa using hnm2
                rw [HG5.out hA] at HNx
                clear hA
                as_aux_lemma =>
                  go_upto_region 29 with (fail)
                  go_wp2_with fail
                  refine (HNx.out _).mono ?_
                  rintro e w6 ⟨rfl, hb⟩
                  have HV3 := Lib.hid (HV2.out.below hb)
                  have HP3 := Lib.hid (HPs.out.below hb)
                  clear hb HNx HV2 HPs n0 n5 n6 n8 nb nn m0 m1 t3 t4 hk6 hk7 hat0 hat1 hat2
                  go_upto_region 30 with (fail)
                  have HR := Lib.hid (hrow.new w6 #[.int .i64 w0.kind, .int .i64 X.at_, .int .i64 w0.nx, .string (tx X.nm), .int .i64 w0.lv, .int .u64 (clsW w0.cl 0), .int .u64 (clsW w0.cl 1), .int .u64 (clsW w0.cl 2), .int .u64 (clsW w0.cl 3)] 44)
                  have hbl := (Below.refl w6.heap.size w6).alloc (Nat.le_refl _) (.cells #[.int .i64 w0.kind, .int .i64 X.at_, .int .i64 w0.nx, .string (tx X.nm), .int .i64 w0.lv, .int .u64 (clsW w0.cl 0), .int .u64 (clsW w0.cl 1), .int .u64 (clsW w0.cl 2), .int .u64 (clsW w0.cl 3)] 44)
                  have HV4 := Lib.hid (HV3.out.below hbl)
                  have HP4 := Lib.hid (HP3.out.below hbl)
                  clear hbl HV3 HP3
                  generalize w6.alloc (.cells #[.int .i64 w0.kind, .int .i64 X.at_, .int .i64 w0.nx, .string (tx X.nm), .int .i64 w0.lv, .int .u64 (clsW w0.cl 0), .int .u64 (clsW w0.cl 1), .int .u64 (clsW w0.cl 2), .int .u64 (clsW w0.cl 3)] 44) = wx at *
                  generalize w6.heap.size = gg at *
                  obtain ⟨-, f1, -, f3, -⟩ := hrow.c9 HR.out
                  have m1 := HP4.out.gm.cell 1; have t3 := HP4.out.tr.cell 3; have t4 := HP4.out.tr.cell 4
                  have nb := HP4.out.nat1 hk; have nn := HP4.out.nnm1 hk; have n5 := HP4.out.ntx1 hk
                  rw [HX.out] at nb nn n5
                  refine wp_region_quiet_lit (by kernel_rfl) (by kernel_rfl) ?_
                  repeat (go_big_quiet_step (fail))
                  refine wpQuiet_nil ?_
                  intro _ hw'
                  obtain ⟨nq, hw''⟩ := hw'
                  subst hw''
                  go_wp2_with fail
                  go_roundw
                  case rel => exact ⟨k, _, cs2, rfl, rfl, HV4.out.below (below_drewN (Below.refl _ _) _)⟩
                  case measure => first | (simp [intOf]; done) | (simp [intOf]; omega)
              · have hk5 : ((X.kind : Int) == 5) = false := by simp; omega
                have e : X.nm = [] := Classical.byContradiction fun e => hA (HG2.out.1 e)
                rw [e, show tx [] = (⟨#[]⟩ : ByteArray) from rfl] at nn
                clear e
                by_cases hB : X.kind = 6 ∨ X.kind = 7
                · obtain ⟨hl2, z0, hz0, hza⟩ := HG7.out hB
                  have hl2I : ¬ (X.kids.length : Int) < 2 := by omega
                  have hk1 : k + 1 < N.length := by
                    rcases Nat.lt_or_ge (k + 1) N.length with h | h
                    · exact h
                    · rw [List.getElem?_eq_none h] at hz0; cases hz0
                  have e1 : N[k + 1] = z0 := by rw [List.getElem?_eq_getElem hk1] at hz0; exact Option.some.inj hz0
                  obtain ⟨cb', hcb', nb1⟩ := HPs.out.nat hk1
                  obtain rfl : cb = cb' := by simpa using hcb'
                  rw [e1, hza] at nb1
                  rw [show cb.add (k + 1) = ⟨cb.block, cb.off + (k + 1), none⟩ by unfold Addr.add; simp] at nb1
                  have hk1I : (k : Int) + 1 < N.length := by omega
                  have hk10 : (0 : Int) ≤ (k : Int) + 1 := by omega
                  have htn : ((k : Int) + 1).toNat = k + 1 := by omega
                  clear hcb' hz0 e1 hza
                  rcases hB with hB | hB
                  · have hk6 : ((X.kind : Int) == 6) = true := by simp; omega
                    clear hA hB
                    as_aux_lemma =>
                      go_upto_region 27 with (fail)
                      refine wp_region_quiet_lit (by kernel_rfl) (by kernel_rfl) ?_
                      repeat (go_big_quiet_step (fail))
                      refine wpQuiet_nil ?_
                      intro _ hw'
                      obtain ⟨nq, hw''⟩ := hw'
                      subst hw''
                      go_wp2_with fail
                      go_roundw
                      case rel => exact ⟨k, _, cs2, rfl, rfl, HV2.out.below (below_drewN (Below.refl _ _) _)⟩
                      case measure => first | (simp [intOf]; done) | (simp [intOf]; omega)
                  · have hk6 : ((X.kind : Int) == 6) = false := by simp; omega
                    have hk7 : ((X.kind : Int) == 7) = true := by simp; omega
                    clear hA hB
                    as_aux_lemma =>
                      go_upto_region 27 with (fail)
                      refine wp_region_quiet_lit (by kernel_rfl) (by kernel_rfl) ?_
                      repeat (go_big_quiet_step (fail))
                      refine wpQuiet_nil ?_
                      intro _ hw'
                      obtain ⟨nq, hw''⟩ := hw'
                      subst hw''
                      go_wp2_with fail
                      go_roundw
                      case rel => exact ⟨k, _, cs2, rfl, rfl, HV2.out.below (below_drewN (Below.refl _ _) _)⟩
                      case measure => first | (simp [intOf]; done) | (simp [intOf]; omega)
                · have hk6 : ((X.kind : Int) == 6) = false := by simp; omega
                  have hk7 : ((X.kind : Int) == 7) = false := by simp; omega
                  by_cases hC : X.kind = 4
                  · have hk4 : ((X.kind : Int) == 4) = true := by simp; omega
                    rw [HG6.out hC] at HNx
                    clear hA hB hC
                    as_aux_lemma =>
                      go_upto_region 29 with (fail)
                      go_wp2_with fail
                      refine (HNx.out _).mono ?_
                      rintro e w6 ⟨rfl, hb⟩
                      have HV3 := Lib.hid (HV2.out.below hb)
                      have HP3 := Lib.hid (HPs.out.below hb)
                      clear hb HNx HV2 HPs n0 n5 n6 n8 nb nn m0 m1 t3 t4 hk6 hk7 hat0 hat1 hat2
                      go_upto_region 30 with (fail)
                      have HR := Lib.hid (hrow.new w6 #[.int .i64 w0.kind, .int .i64 X.at_, .int .i64 w0.nx, .string (tx X.tx), .int .i64 w0.lv, .int .u64 (clsW w0.cl 0), .int .u64 (clsW w0.cl 1), .int .u64 (clsW w0.cl 2), .int .u64 (clsW w0.cl 3)] 44)
                      have hbl := (Below.refl w6.heap.size w6).alloc (Nat.le_refl _) (.cells #[.int .i64 w0.kind, .int .i64 X.at_, .int .i64 w0.nx, .string (tx X.tx), .int .i64 w0.lv, .int .u64 (clsW w0.cl 0), .int .u64 (clsW w0.cl 1), .int .u64 (clsW w0.cl 2), .int .u64 (clsW w0.cl 3)] 44)
                      have HV4 := Lib.hid (HV3.out.below hbl)
                      have HP4 := Lib.hid (HP3.out.below hbl)
                      clear hbl HV3 HP3
                      generalize w6.alloc (.cells #[.int .i64 w0.kind, .int .i64 X.at_, .int .i64 w0.nx, .string (tx X.tx), .int .i64 w0.lv, .int .u64 (clsW w0.cl 0), .int .u64 (clsW w0.cl 1), .int .u64 (clsW w0.cl 2), .int .u64 (clsW w0.cl 3)] 44) = wx at *
                      generalize w6.heap.size = gg at *
                      obtain ⟨-, f1, -, f3, -⟩ := hrow.c9 HR.out
                      have m1 := HP4.out.gm.cell 1; have t3 := HP4.out.tr.cell 3; have t4 := HP4.out.tr.cell 4
                      have nb := HP4.out.nat1 hk; have nn := HP4.out.nnm1 hk; have n5 := HP4.out.ntx1 hk
                      rw [HX.out] at nb nn n5
                      refine wp_region_quiet_lit (by kernel_rfl) (by kernel_rfl) ?_
                      repeat (go_big_quiet_step (fail))
                      refine wpQuiet_nil ?_
                      intro _ hw'
                      obtain ⟨nq, hw''⟩ := hw'
                      subst hw''
                      go_wp2_with fail
                      go_roundw
                      case rel => exact ⟨k, _, cs2, rfl, rfl, HV4.out.below (below_drewN (Below.refl _ _) _)⟩
                      case measure => first | (simp [intOf]; done) | (simp [intOf]; omega)
                  · have hk4 : ((X.kind : Int) == 4) = false := by simp; omega
                    clear hA hB hC
                    as_aux_lemma =>
                      go_upto_region 29 with (fail)
                      go_wp2_with fail
                      refine (HNx.out _).mono ?_
                      rintro e w6 ⟨rfl, hb⟩
                      have HV3 := Lib.hid (HV2.out.below hb)
                      have HP3 := Lib.hid (HPs.out.below hb)
                      clear hb HNx HV2 HPs n0 n5 n6 n8 nb nn m0 m1 t3 t4 hk6 hk7 hat0 hat1 hat2
                      go_upto_region 30 with (fail)
                      have HR := Lib.hid (hrow.new w6 #[.int .i64 w0.kind, .int .i64 X.at_, .int .i64 w0.nx, .string (tx w0.tx), .int .i64 w0.lv, .int .u64 (clsW w0.cl 0), .int .u64 (clsW w0.cl 1), .int .u64 (clsW w0.cl 2), .int .u64 (clsW w0.cl 3)] 44)
                      have hbl := (Below.refl w6.heap.size w6).alloc (Nat.le_refl _) (.cells #[.int .i64 w0.kind, .int .i64 X.at_, .int .i64 w0.nx, .string (tx w0.tx), .int .i64 w0.lv, .int .u64 (clsW w0.cl 0), .int .u64 (clsW w0.cl 1), .int .u64 (clsW w0.cl 2), .int .u64 (clsW w0.cl 3)] 44)
                      have HV4 := Lib.hid (HV3.out.below hbl)
                      have HP4 := Lib.hid (HP3.out.below hbl)
                      clear hbl HV3 HP3
                      generalize w6.alloc (.cells #[.int .i64 w0.kind, .int .i64 X.at_, .int .i64 w0.nx, .string (tx w0.tx), .int .i64 w0.lv, .int .u64 (clsW w0.cl 0), .int .u64 (clsW w0.cl 1), .int .u64 (clsW w0.cl 2), .int .u64 (clsW w0.cl 3)] 44) = wx at *
                      generalize w6.heap.size = gg at *
                      obtain ⟨-, f1, -, f3, -⟩ := hrow.c9 HR.out
                      have m1 := HP4.out.gm.cell 1; have t3 := HP4.out.tr.cell 3; have t4 := HP4.out.tr.cell 4
                      have nb := HP4.out.nat1 hk; have nn := HP4.out.nnm1 hk; have n5 := HP4.out.ntx1 hk
                      rw [HX.out] at nb nn n5
                      refine wp_region_quiet_lit (by kernel_rfl) (by kernel_rfl) ?_
                      repeat (go_big_quiet_step (fail))
                      refine wpQuiet_nil ?_
                      intro _ hw'
                      obtain ⟨nq, hw''⟩ := hw'
                      subst hw''
                      go_wp2_with fail
                      go_roundw
                      case rel => exact ⟨k, _, cs2, rfl, rfl, HV4.out.below (below_drewN (Below.refl _ _) _)⟩
                      case measure => first | (simp [intOf]; done) | (simp [intOf]; omega)
    · obtain ⟨hX, he2, ha⟩ := readT_err HRT.out he
      cases hX
      have ha2 : a0 ≤ s.size := by rw [← HSL.out]; exact ha
      have heI : ¬ (e0 : Int) = 0 := by omega
      have haI : (0 : Int) ≤ a0 := by omega
      have haI2 : (a0 : Int) ≤ s.size := by omega
      clear he he2 ha ha2
      go_enter Tryz.func3, Tryz.ntmps3
      go_wp2_with fail
      refine (HA.out _).mono ?_
      rintro e x ⟨rfl, hb⟩
      have HB := Lib.hid hb
      clear hb HA
      go_wp2_with fail
      refine (HT.out _).mono ?_
      rintro e y ⟨v1, v2, v3, v4, v5, rfl, ht, hb⟩
      obtain ⟨τ, NK, tr, hnk, -⟩ := ht
      obtain rfl : NK = [] := by simpa using hnk
      obtain ⟨q1, d1, rfl, -⟩ := tr.t2.sv
      obtain ⟨q2, d2, rfl, -⟩ := tr.t3.sv
      obtain ⟨q3, d3, rfl, -⟩ := tr.t4.sv
      obtain ⟨q4, d4, rfl, -⟩ := tr.t5.sv
      obtain ⟨q5, d5, rfl, -⟩ := tr.t6.sv
      simp only [List.map_nil, List.length_nil]
      have HB2 := Lib.hid (HB.out.trans (hb.mono HB.out.size))
      clear hb tr hnk HB HT
      go_upto_region 7 with (fail)
      obtain ⟨g, hg⟩ : ∃ g, y.heap.size = g := ⟨_, rfl⟩
      rw [hg]
      obtain ⟨z, hz, z1, z2, z3, zb⟩ := three_blocks y g hg #[.slice q1 0 d1, .slice q2 0 d2, .slice q3 0 d3, .slice q4 0 d4, .slice q5 0 d5] #[.int .i64 e0, .int .i64 a0] #[.slice q1 0 d1, .slice q2 0 d2] 30 33 26
      rw [hz]
      have HB3 := Lib.hid (HB2.out.trans (zb.mono HB2.out.size))
      have t2 := z1.cell 2; have t3 := z1.cell 3; have t4 := z1.cell 4
      have k0 := z2.cell 0; have k1 := z2.cell 1
      have l0 := z3.cell 0; have l1 := z3.cell 1
      clear hz zb z1 z2 z3 HB2 hg
      go_wp2_with fail
      go_ret
      exact ⟨ret_bool (by simpa using heI), HB3.out⟩
end Go.Proofs.YthfefbmkgebmkaaGreatDoor
