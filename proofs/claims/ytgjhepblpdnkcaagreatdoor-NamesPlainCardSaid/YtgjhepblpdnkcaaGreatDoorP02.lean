/- Walks and plain laws: Yk. -/
import Derived.Test.YtgjhepblpdnkcaaGreatDoorP01
import Derived.Test.YtgjhepblpdnkcaaGreatDoorM24
import Derived.BigQuiet
import Derived.Deep.DeepCutAuto
namespace Go.Proofs.YtgjhepblpdnkcaaGreatDoor
open Go.RowKit
set_option maxRecDepth 100000
set_option maxHeartbeats 8000000

/-- What Resolve tells, as a grammar. -/
def rsG (R : List Ru) (N : List Nd) (RA NA : List Int) (NM : List ByteArray) : Gr := ⟨if (resS R N RA NA NM).1 = 0 then R else [], if (resS R N RA NA NM).1 = 0 then resN R NM N else []⟩
/-- What was told, as it lies. -/
def RsO (w : World) (R : List Ru) (N : List Nd) (RA NA : List Int) (NM : List ByteArray) (e : Ending) (w' : World) : Prop :=
 ∃ (ro : Option Addr) (rc : Nat) (no : Option Addr) (nc : Nat) (NK : List Nk), e = .returned (.tuple #[.agg #[.slice ro (rsG R N RA NA NM).rules.length rc, .slice no NK.length nc], .agg #[.int .i64 (resS R N RA NA NM).1, .int .i64 (resS R N RA NA NM).2]]) ∧ Below w.heap.size w w' ∧
  GrW w' ro (rsG R N RA NA NM).rules.length rc no NK.length nc NK (rsG R N RA NA NM)
theorem res_gen {w : World} {ro no ao bo co : Option Addr} {rc nc ac bc cc : Nat} {NK : List Nk} {R : List Ru} {N : List Nd} {RA NA : List Int} {NM : List ByteArray} (hT : TnW w ro no ao bo co rc nc ac bc cc R NK RA NA NM) (hk : ∀ x ∈ NK, Sv w x.2.1 x.1.kids.length x.2.2 1 (inc x.1.kids)) (he : NK.map (·.1) = N)
  (b1 : R.length ≤ 1000000) (b2 : RA.length ≤ 1000000) (b3 : NA.length ≤ 1000000) (b4 : N.length ≤ 1000000) (b5 : ∀ x ∈ N, x.kids.length ≤ 1000000) (s1 : ∀ r ∈ R, r.name.size ≤ 9223372036854775807) (s2 : ∀ x ∈ N, x.text.size ≤ 9223372036854775807) :
  Calls Tryz.prog 12 #[.agg #[.slice ro R.length rc, .slice no NK.length nc, .slice ao RA.length ac, .slice bo NA.length bc, .slice co NM.length cc]] w fun e w' => RsO w R N RA NA NM e w' := by
 have hnl : NK.length = N.length := by rw [← he, List.length_map]
 refine (resolve_any w ro no ao bo co rc nc ac bc cc R NK RA NA NM hT hk (fun x hx => b5 x.1 (he ▸ List.mem_map_of_mem hx)) b1 b2 b3 (by omega)).mono ?_
 rintro e w' ⟨vr, vn, h1, h2, h3⟩
 rw [resS_E, he] at h1 h3
 have hgr := GrO.gr h3 (fun r hr => by
  split at hr
  ·exact s1 r hr
  ·cases hr) (fun x hx => by
  split at hx
  ·obtain ⟨y, hy, e1, _⟩ := resN_text hx
   rw [e1]; exact s2 y hy
  ·cases hx)
 obtain ⟨ro2, rc2, no2, nc2, NK2, rfl, rfl, hg⟩ := hgr
 exact ⟨ro2, rc2, no2, nc2, NK2, h1, h2, hg⟩
theorem readT_bd (l : List UInt8) : (ruT l).length ≤ l.length + 1 ∧ (raT l).length ≤ l.length + 1 ∧ (naT l).length ≤ 2 * (l.length + 1) ∧ (ndT l).length ≤ 2 * (l.length + 1) ∧ (nmT l).length ≤ 2 * (l.length + 1) ∧ (∀ x ∈ ndT l, x.kids.length ≤ 2 * (l.length + 1)) ∧ (∀ r ∈ ruT l, r.name.size ≤ l.length) ∧ (∀ x ∈ ndT l, x.text.size ≤ l.length) := by
 obtain ⟨h1, h2⟩ := readT_nb (l := l)
 obtain ⟨h3, h4⟩ := readT_tx (l := l) (R := (readT l).1.1) (N := (readT l).1.2) (e := (readT l).2.1) (a := (readT l).2.2) rfl
 have h5 := readT_kids (l := l) (R := (readT l).1.1) (N := (readT l).1.2) (e := (readT l).2.1) (a := (readT l).2.2) rfl
 refine ⟨by rw [ruT_len]; exact h2, by rw [raT_len]; exact h2, by rw [naT_len]; exact h1, by rw [ndT_len]; exact h1, by rw [nmT_len]; exact h1, fun x hx => ?_, fun r hr => ?_, fun x hx => ?_⟩
 ·obtain ⟨y, hy, rfl⟩ := List.mem_map.1 hx
  have := h5 y hy
  show (y.kids.map _).length ≤ _
  rw [List.length_map]; omega
 ·obtain ⟨y, hy, rfl⟩ := List.mem_map.1 hr
  show (tx y.nm).size ≤ _
  rw [tx_size]; exact h4 y hy
 ·obtain ⟨y, hy, rfl⟩ := List.mem_map.1 hx
  show (tx y.tx).size ≤ _
  rw [tx_size]; exact h3 y hy
theorem res_txt {w : World} {ro no ao bo co : Option Addr} {rc nc ac bc cc : Nat} {NK : List Nk} {l : List UInt8} (h : TrT w ro no ao bo co rc nc ac bc cc NK l) (hl : l.length ≤ 1100) :
  Calls Tryz.prog 12 #[.agg #[.slice ro (ruT l).length rc, .slice no NK.length nc, .slice ao (raT l).length ac, .slice bo (naT l).length bc, .slice co (nmT l).length cc]] w fun e w' => RsO w (ruT l) (ndT l) (raT l) (naT l) (nmT l) e w' := by
 obtain ⟨b1, b2, b3, b4, b5, b6, b7, b8⟩ := readT_bd l
 exact res_gen h.t h.k h.e (by omega) (by omega) (by omega) (by omega) (fun x hx => by have := b6 x hx; omega) (fun r hr => by have := b7 r hr; omega) (fun x hx => by have := b8 x hx; omega)
theorem bt_bd {l : List Int} {B : Int} (hB : 0 ≤ B) (h : ∀ x ∈ l, 0 ≤ x ∧ x ≤ B) (k : Nat) : -1 ≤ bt l k ∧ bt l k ≤ B := by
 by_cases hk : k < l.length
 ·rw [← bt_get hk]
  have := h _ (List.getElem_mem hk)
  omega
 ·unfold bt
  rw [List.getD_eq_getElem?_getD, List.getElem?_eq_none (by omega)]
  simp; omega
theorem resS_bd {R : List Ru} {N : List Nd} {RA NA : List Int} {NM : List ByteArray} {B : Int} (hB : 0 ≤ B) (h1 : ∀ x ∈ RA, 0 ≤ x ∧ x ≤ B) (h2 : ∀ x ∈ NA, 0 ≤ x ∧ x ≤ B) : -1 ≤ (resS R N RA NA NM).2 ∧ (resS R N RA NA NM).2 ≤ B := by
 unfold resS resX
 split
 ·split
  ·exact bt_bd hB h1 _
  ·split
   ·exact bt_bd hB h2 _
   ·simp; omega
 ·simp; omega
theorem rsG_move {R : List Ru} {N : List Nd} {RA NA : List Int} {NM : List ByteArray} (m : Int) (word : ByteArray) (hw : whoR R N RA NA NM = true) : rsG R N (RA.mapIdx (mvF m)) (NA.mapIdx (mvF m)) (NM.mapIdx (nwF N word)) = rsG R N RA NA NM := by
 unfold rsG
 rw [resS_move m word hw, resN_move word (whoR_lens.1 hw).2.2]
theorem nplain_any (s word : ByteArray) (by_ : Int) (w : World) (hs : s.size ≤ 140737488355328) :
  Calls Tryz.prog 4 #[.string s, .string word, .int .i64 by_] w fun e w' => e = .returned (.bool true) ∧ Below w.heap.size w w' := by
 go_enter Tryz.func4, Tryz.ntmps4
 go_wp2_with fail
 refine (nawake_any w).mono ?_
 rintro e z0 ⟨rfl, hb⟩
 have HB0 := Lib.hid hb
 clear hb
 by_cases hl : s.size ≤ 1000
 ·have hlI : ¬ (1000 : Int) < s.size := by omega
  have HT := Lib.hid (fun x => text_walk s x (by omega))
  obtain ⟨l, hll⟩ : ∃ l, s.data.toList = l := ⟨_, rfl⟩
  have hlen : l.length ≤ 1000 := by rw [← hll, ba_len]; exact hl
  rw [hll] at HT
  have HLL := Lib.hid hll; have HLE := Lib.hid hlen
  clear hs hll hlen
  go_wp2_with fail
  refine (HT.out _).mono ?_
  rintro e x h
  obtain ⟨ro, no, ao, bo, co, rc, nc, ac, bc, cc, NK, rfl, ht, hb⟩ := h.tn (by have := HLE.out; omega)
  unfold trA
  have HTT := Lib.hid ht; have HB1 := Lib.hid (HB0.out.trans (hb.mono HB0.out.size))
  clear ht hb h HB0
  go_upto_region 6 with (fail)
  obtain ⟨g1, hg⟩ : ∃ g, x.heap.size = g := ⟨_, rfl⟩
  obtain ⟨z, hz, z1, z2, zb⟩ := two_blocks x g1 hg #[.slice ro (ruT l).length rc, .slice no NK.length nc, .slice ao (raT l).length ac, .slice bo (naT l).length bc, .slice co (nmT l).length cc] #[.int .i64 (readT l).2.1, .int .i64 (readT l).2.2] 29 34
  rw [hz, hg]
  have HT1 := Lib.hid z1; have HD1 := Lib.hid z2; have HTR := Lib.hid (HTT.out.below zb); have HB2 := Lib.hid (HB1.out.trans (zb.mono HB1.out.size))
  clear hz hg z1 z2 zb HTT HB1
  obtain ⟨⟨⟨RR, NN⟩, e0, a0⟩, hrd⟩ : ∃ q, readT l = q := ⟨_, rfl⟩
  have HRD := Lib.hid hrd
  have d0 := HD1.out.cell 0; have d1 := HD1.out.cell 1
  rw [hrd] at d0 d1
  simp only [] at d0 d1
  by_cases he : e0 = 0
  ·subst he
   have hpre := preorder hrd
   obtain ⟨rfl, hne, hup, hbd, E, hpn, -, hra, -⟩ := hpre
   clear hrd
   have HRS := Lib.hid (res_txt HTR.out (by have := HLE.out; omega))
   go_wp2_with (refine load_rtree rfl (.tmp 7) rfl g1 rfl _ HT1.out rfl ?_)
   refine HRS.out.mono ?_
   rintro e y ⟨rg, rgc, ng, ngc, NKg, rfl, hby, hgw⟩
   obtain ⟨⟨c, a⟩, hca⟩ : ∃ q, resS (ruT l) (ndT l) (raT l) (naT l) (nmT l) = q := ⟨_, rfl⟩
   obtain ⟨Gg, hGg⟩ : ∃ G, rsG (ruT l) (ndT l) (raT l) (naT l) (nmT l) = G := ⟨_, rfl⟩
   rw [hGg] at hgw ⊢
   rw [hca]
   have HCA := Lib.hid hca; have HGG := Lib.hid hGg
   have HG1 := Lib.hid hgw; have HB3 := Lib.hid (HB2.out.trans (hby.mono HB2.out.size)); have HT2 := Lib.hid (HT1.out.below hby); have HTR2 := Lib.hid (HTR.out.below hby)
   clear hby hgw hca hGg HB2 HT1 HTR HRS HD1 d0 d1
   simp only []
   go_upto_region 9 with (fail)
   obtain ⟨g2, hg⟩ : ∃ g, y.heap.size = g := ⟨_, rfl⟩
   obtain ⟨z4, hz, k1, k2, zb⟩ := two_blocks y g2 hg #[.slice rg Gg.rules.length rgc, .slice ng NKg.length ngc] #[.int .i64 c, .int .i64 a] 25 34
   rw [hz, hg]
   have HGO := Lib.hid k1; have HDO := Lib.hid k2
   have HG2 := Lib.hid (HG1.out.below zb); have HB4 := Lib.hid (HB3.out.trans (zb.mono HB3.out.size)); have HT3 := Lib.hid (HT2.out.below zb); have HTR3 := Lib.hid (HTR2.out.below zb)
   clear hz hg k1 k2 zb HG1 HB3 HT2 HTR2
   go_wp2_with fail
   refine (HT.out _).mono ?_
   rintro e x5 h
   obtain ⟨v1, v2, v3, v4, v5, rfl, htu, hb⟩ := h
   obtain ⟨τ, NKu, htr, hnku, hfresh⟩ := htu
   have htr : TrR x5 τ v1 v2 v3 v4 v5 (ruT l) NKu NKu (raT l) (naT l) (nmT l) := htr
   have hnku : NKu.map (·.1) = ndT l := hnku
   obtain ⟨ro2, rc2, rfl, q1⟩ := htr.t2.sv
   obtain ⟨no2, nc2, rfl, q2⟩ := htr.t3.sv
   obtain ⟨ao2, ac2, rfl, q3⟩ := htr.t4.sv
   obtain ⟨bo2, bc2, rfl, q4⟩ := htr.t5.sv
   obtain ⟨co2, cc2, rfl, q5⟩ := htr.t6.sv
   go_upto_region 10 with (fail)
   obtain ⟨g3, hg⟩ : ∃ g, x5.heap.size = g := ⟨_, rfl⟩
   obtain ⟨z6, hz, k1, k2, zb⟩ := two_blocks x5 g3 hg #[.slice ro2 (ruT l).length rc2, .slice no2 NKu.length nc2, .slice ao2 (raT l).length ac2, .slice bo2 (naT l).length bc2, .slice co2 (nmT l).length cc2] #[.int .i64 (readT l).2.1, .int .i64 (readT l).2.2] 29 34
   rw [hz, hg]
   have hz0 : τ g3 = 0 := htr.new g3 (by omega)
   have HP0 : Hid (PlI z4 τ g3 #[.slice ro2 (ruT l).length rc2, .slice no2 NKu.length nc2, .slice ao2 (raT l).length ac2, .slice bo2 (naT l).length bc2, .slice co2 (nmT l).length cc2] (.slice ro2 (ruT l).length rc2) (.slice no2 NKu.length nc2) (.slice ao2 (raT l).length ac2) (.slice bo2 (naT l).length bc2) (.slice co2 (nmT l).length cc2) (ruT l) NKu (raT l) (naT l) (nmT l) z6) :=
    ⟨k1, htr.below zb, hb.trans (zb.mono hb.size), hz0, hfresh⟩
   have HKU := Lib.hid hnku
   clear hz hg k1 k2 zb htr hnku hfresh hb q1 q2 q3 q4 q5 hz0
   go_wp2_with fail
   refine (pick_any _ by_ 1000 (by decide) (by decide)).mono ?_
   rintro e w' ⟨rfl, rfl⟩
   obtain ⟨m, hm⟩ : ∃ m, by_ % 1000 = m := ⟨_, rfl⟩
   have hm0 : 0 ≤ m ∧ m < 1000 := by omega
   rw [hm]
   have HM := Lib.hid hm0
   have hlens := readT_bd l
   have hle := HLE.out
   have HNU : Hid (NKu.length = (ndT l).length) := by unfold Hid; rw [← HKU.out, List.length_map]
   have HNN : Hid ((naT l).length = (ndT l).length ∧ (nmT l).length = (ndT l).length ∧ (raT l).length = (ruT l).length) := by unfold Hid; rw [naT_len, ndT_len, nmT_len, raT_len, ruT_len]; exact ⟨rfl, rfl, rfl⟩
   obtain ⟨nn, hnn⟩ : ∃ n, (ndT l).length = n := ⟨_, rfl⟩
   obtain ⟨rr, hrr⟩ : ∃ n, (ruT l).length = n := ⟨_, rfl⟩
   rw [hnn] at HNU HNN
   rw [hrr] at HNN
   have hnb : nn ≤ 5000 ∧ rr ≤ 5000 := by
    obtain ⟨b1, b2, b3, b4, -⟩ := hlens
    omega
   rw [HNN.out.1, HNN.out.2.1, HNN.out.2.2, HNU.out, hrr] at HP0 ⊢
   have HAT : Hid (∀ q (h : q < (readT l).1.2.length), (readT l).1.2[q].at_ ≤ 1000) := fun q h => by
    have h1 : (readT l).1.2 = NN := by rw [HRD.out]
    have h2 := (hpn q (by rw [← h1]; exact h)).2.2.1
    have h3 : (readT l).1.2[q] = NN[q]'(by rw [← h1]; exact h) := by simp only [h1]
    rw [h3]; have := HLE.out; omega
   have HAR : Hid (∀ q (h : q < (readT l).1.1.length), (readT l).1.1[q].at_ ≤ 1000) := fun q h => by
    have h1 : (readT l).1.1 = RR := by rw [HRD.out]
    have h2 := (hra (RR[q]'(by rw [← h1]; exact h)) (List.getElem_mem _)).1
    have h3 : (readT l).1.1[q] = RR[q]'(by rw [← h1]; exact h) := by simp only [h1]
    rw [h3]; have := HLE.out; omega
   have HRR := Lib.hid hrr; have HND := Lib.hid hnn; have HNB := Lib.hid hnb
   clear hm hm0 hlens hle hnn hrr hnb
   go_wp2_with fail
   go_loopw [14] (fun i wr => ∃ k : Nat, k ≤ nn ∧ i = .int .i64 k ∧ Hid (PlI z4 τ g3 #[.slice ro2 rr rc2, .slice no2 nn nc2, .slice ao2 rr ac2, .slice bo2 nn bc2, .slice co2 nn cc2] (.slice ro2 rr rc2) (.slice no2 nn nc2) (.slice ao2 rr ac2) (.slice bo2 nn bc2) (.slice co2 nn cc2) (ruT l) NKu (raT l) (mapK (mvF m) (naT l) k) (mapK (nwF (ndT l) word) (nmT l) k) wr)) (fun i _ => nn - (intOf i).toNat)
   case atStart => exact ⟨0, Nat.zero_le _, rfl, by rw [mapK_zero, mapK_zero]; exact HP0.out⟩
   case round =>
    clear HP0
    obtain ⟨k, hk, rfl, HP⟩ := hrel
    obtain ⟨wo, rfl⟩ : ∃ wo : World, wo = wr := ⟨_, rfl⟩
    have c4 := HP.out.obj.cell 4
    by_cases hlt : k < nn
    ·have hltI : (k : Int) < nn := by omega
     have HKB : Hid ((k : Int) + 1 ≤ 1000000) := by have := HNB.out; unfold Hid; omega
     have c1 := HP.out.obj.cell 1
     have hkn : k < NKu.length := by rw [HNU.out]; exact hlt
     obtain ⟨na, nc3, en, ns⟩ := HP.out.tr.t3.sv
     simp only [Value.slice.injEq] at en
     obtain ⟨rfl, -, rfl⟩ := en
     obtain ⟨an, rfl, a0, -⟩ := ns.nd9 hkn
     have hkk : (ndI (ndT l) k).kind = NKu[k].1.kind := by
      rw [ndI_in (by rw [HND.out]; exact hlt)]
      have := HKU.out
      have e1 : (NKu.map (·.1))[k]'(by simpa using hkn) = (ndT l)[k]'(by rw [HND.out]; exact hlt) := by simp only [this]
      rw [← e1, List.getElem_map]
     generalize NKu[k].1.kind = kd at *
     have HKK := Lib.hid hkk
     have hml : k < (nmT l).length := by rw [HNN.out.2.1]; exact hlt
     obtain ⟨b6, c6, ev, -, w0', wf, -, wc1, wc2⟩ := row_at1 (k := k) HP.out.tr.t6 (by rw [mapK_len]; exact hml)
     simp only [Value.slice.injEq] at ev
     obtain ⟨rfl, -, rfl⟩ := ev
     have hcl : k < ((mapK (nwF (ndT l) word) (nmT l) k).map Value.string).length := by rw [List.length_map, mapK_len]; exact hml
     rw [List.getElem?_eq_getElem hcl] at w0'
     obtain ⟨u0, hu0⟩ : ∃ u, ((mapK (nwF (ndT l) word) (nmT l) k).map Value.string)[k] = u := ⟨_, rfl⟩
     rw [hu0] at w0'
     clear ns hkk hu0 hcl
     by_cases hkd : kd = 5
     ·have HS : Hid (mapK (nwF (ndT l) word) (nmT l) (k + 1) = mapK (nwF (ndT l) word) (nmT l) k) := mapK_same _ _ k hml (by unfold nwF; rw [if_pos (HKK.out.trans hkd)])
      clear hml
      have HPx := Lib.hid HP.out
      unfold Hid at HPx
      rw [← HS.out] at HPx
      have HN16 := Lib.hid (HPx)
      clear HP
      obtain ⟨b5, c5, ev, -, x0, xf, xl, xc1, xc2⟩ := row_at1 (k := k) HN16.out.tr.t5 (by rw [mapK_len, HNN.out.1]; exact hlt)
      simp only [Value.slice.injEq] at ev
      obtain ⟨rfl, -, rfl⟩ := ev
      have hnl : k < (naT l).length := by rw [HNN.out.1]; exact hlt
      have hx1 : (inc (mapK (mvF m) (naT l) k))[k]? = some (.int .i64 (naT l)[k]) := by
       unfold inc
       rw [List.getElem?_map, List.getElem?_eq_getElem (by rw [mapK_len]; exact hnl), mapK_at _ _ k hnl]; rfl
      have HS2 : Hid (mapK (mvF m) (naT l) (k + 1) = (mapK (mvF m) (naT l) k).set k ((naT l)[k] + m)) := mapK_step _ _ k hnl
      have hxb : 0 ≤ (naT l)[k] ∧ (naT l)[k] ≤ 1000 := by
       have h1 : k < (readT l).1.2.length := by rw [← naT_len]; exact hnl
       have e1 : (naT l)[k] = (((readT l).1.2[k].at_ : Nat) : Int) := by simp [naT]
       have h2 := HAT.out k h1
       rw [e1]; omega
      rw [hx1] at x0
      obtain ⟨xv, hxv⟩ : ∃ v, (naT l)[k] = v := ⟨_, rfl⟩
      rw [hxv] at x0 hxb HS2
      have hm2 := HM.out
      have hsum : -9223372036854775808 ≤ xv + m ∧ xv + m ≤ 9223372036854775807 := by omega
      clear hxv hx1 hnl
      have c3' : ∀ u : Later wo, u.val.cell? ⟨g3, 3, none⟩ = some (.slice (some ⟨b5, 0, none⟩) nn bc2) := fun u => (HN16.out.obj.below u.ok).cell 3
      have x0' : ∀ u : Later wo, u.val.cell? ⟨b5, k, none⟩ = some (.int .i64 xv) := fun u => (u.ok.cell (World.block_lt_of_cell? _ _ x0)).trans x0
      go_upto_region 16 with (fail)
      refine wp_region_later_tail 11 (by kernel_rfl) (by kernel_rfl) ?_
      simp only [List.take_succ_cons, List.take_zero, List.drop_succ_cons, List.drop_zero]
      repeat (go_big_quiet_step (fail))
      refine wpQuiet_nil ?_
      intro w5 hw5
      obtain ⟨u, rfl⟩ := hw5
      have HN17 := Lib.hid (HN16.out.below u.ok)
      have y0 := x0' u
      have yf : u.val.frozen? ⟨b5, k, none⟩ = false := (u.ok.frozen (World.block_lt_of_cell? _ _ x0)).trans xf
      clear c3' x0' x0 xf HN16
      generalize u.val = w5 at *
      have HN18 := Lib.hid (HN17.out.nod (k := k) (b := b5) (c := bc2) (by rw [mapK_len, HNN.out.1]) (xv + m))
      rw [← HS2.out] at HN18
      have HLT := Lib.hid hlt
      have hkb := HKB.out
      go_wp2_with fail
      go_roundw
      case rel => exact ⟨k + 1, by have := HLT.out; omega, by go_num, HN18.out⟩
      case measure => have := HLT.out; simp [intOf]; omega
     ·have HS : Hid (mapK (nwF (ndT l) word) (nmT l) (k + 1) = (mapK (nwF (ndT l) word) (nmT l) k).set k word) := by
       unfold Hid
       rw [mapK_step _ _ k hml]
       congr 1
       unfold nwF; rw [if_neg (by rw [HKK.out]; exact hkd)]
      have HP2 := Lib.hid (HP.out.name (k := k) (b := b6) (c := cc2) (by rw [mapK_len, HNN.out.2.1]) word)
      rw [← HS.out] at HP2
      clear hml
      have hkq : decide (kd = 5) = false := decide_eq_false hkd
      have hkq2 : (kd != 5) = true := by simpa using hkd
      clear hkd
      go_upto_region 16 with (fail)
      clear w0' wf c1 a0 c4
      revert HP2
      generalize wo.setCell ⟨b6, k, none⟩ (.string word) = w3
      intro HP2
      have HN16 := Lib.hid (HP2.out)
      clear HP
      obtain ⟨b5, c5, ev, -, x0, xf, xl, xc1, xc2⟩ := row_at1 (k := k) HN16.out.tr.t5 (by rw [mapK_len, HNN.out.1]; exact hlt)
      simp only [Value.slice.injEq] at ev
      obtain ⟨rfl, -, rfl⟩ := ev
      have hnl : k < (naT l).length := by rw [HNN.out.1]; exact hlt
      have hx1 : (inc (mapK (mvF m) (naT l) k))[k]? = some (.int .i64 (naT l)[k]) := by
       unfold inc
       rw [List.getElem?_map, List.getElem?_eq_getElem (by rw [mapK_len]; exact hnl), mapK_at _ _ k hnl]; rfl
      have HS2 : Hid (mapK (mvF m) (naT l) (k + 1) = (mapK (mvF m) (naT l) k).set k ((naT l)[k] + m)) := mapK_step _ _ k hnl
      have hxb : 0 ≤ (naT l)[k] ∧ (naT l)[k] ≤ 1000 := by
       have h1 : k < (readT l).1.2.length := by rw [← naT_len]; exact hnl
       have e1 : (naT l)[k] = (((readT l).1.2[k].at_ : Nat) : Int) := by simp [naT]
       have h2 := HAT.out k h1
       rw [e1]; omega
      rw [hx1] at x0
      obtain ⟨xv, hxv⟩ : ∃ v, (naT l)[k] = v := ⟨_, rfl⟩
      rw [hxv] at x0 hxb HS2
      have hm2 := HM.out
      have hsum : -9223372036854775808 ≤ xv + m ∧ xv + m ≤ 9223372036854775807 := by omega
      clear hxv hx1 hnl
      have c3' : ∀ u : Later w3, u.val.cell? ⟨g3, 3, none⟩ = some (.slice (some ⟨b5, 0, none⟩) nn bc2) := fun u => (HN16.out.obj.below u.ok).cell 3
      have x0' : ∀ u : Later w3, u.val.cell? ⟨b5, k, none⟩ = some (.int .i64 xv) := fun u => (u.ok.cell (World.block_lt_of_cell? _ _ x0)).trans x0
      go_upto_region 16 with (fail)
      refine wp_region_later_tail 11 (by kernel_rfl) (by kernel_rfl) ?_
      simp only [List.take_succ_cons, List.take_zero, List.drop_succ_cons, List.drop_zero]
      repeat (go_big_quiet_step (fail))
      refine wpQuiet_nil ?_
      intro w5 hw5
      obtain ⟨u, rfl⟩ := hw5
      have HN17 := Lib.hid (HN16.out.below u.ok)
      have y0 := x0' u
      have yf : u.val.frozen? ⟨b5, k, none⟩ = false := (u.ok.frozen (World.block_lt_of_cell? _ _ x0)).trans xf
      clear c3' x0' x0 xf HN16
      generalize u.val = w5 at *
      have HN18 := Lib.hid (HN17.out.nod (k := k) (b := b5) (c := bc2) (by rw [mapK_len, HNN.out.1]) (xv + m))
      rw [← HS2.out] at HN18
      have HLT := Lib.hid hlt
      have hkb := HKB.out
      go_wp2_with fail
      go_roundw
      case rel => exact ⟨k + 1, by have := HLT.out; omega, by go_num, HN18.out⟩
      case measure => have := HLT.out; simp [intOf]; omega
    ·have hltI : ¬ (k : Int) < nn := by omega
     obtain rfl : k = nn := by omega
     have HP1 : Hid (PlI z4 τ g3 #[.slice ro2 rr rc2, .slice no2 k nc2, .slice ao2 rr ac2, .slice bo2 k bc2, .slice co2 k cc2] (.slice ro2 rr rc2) (.slice no2 k nc2) (.slice ao2 rr ac2) (.slice bo2 k bc2) (.slice co2 k cc2) (ruT l) NKu (mapK (mvF m) (raT l) 0) ((naT l).mapIdx (mvF m)) ((nmT l).mapIdx (nwF (ndT l) word)) wo) := by
      have e1 := mapK_all (mvF m) (naT l)
      have e2 := mapK_all (nwF (ndT l) word) (nmT l)
      rw [HNN.out.1] at e1
      rw [HNN.out.2.1] at e2
      unfold Hid
      rw [mapK_zero, ← e1, ← e2]; exact HP.out
     clear HP hlt hk
     go_wp2_with fail
     clear c4 hltI
     go_loopw [15] (fun i wr => ∃ j : Nat, j ≤ rr ∧ i = .int .i64 j ∧ Hid (PlI z4 τ g3 #[.slice ro2 rr rc2, .slice no2 k nc2, .slice ao2 rr ac2, .slice bo2 k bc2, .slice co2 k cc2] (.slice ro2 rr rc2) (.slice no2 k nc2) (.slice ao2 rr ac2) (.slice bo2 k bc2) (.slice co2 k cc2) (ruT l) NKu (mapK (mvF m) (raT l) j) ((naT l).mapIdx (mvF m)) ((nmT l).mapIdx (nwF (ndT l) word)) wr)) (fun i _ => rr - (intOf i).toNat)
     case atStart => exact ⟨0, Nat.zero_le _, rfl, HP1.out⟩
     case round =>
      clear HP1
      obtain ⟨j, hj, rfl, HP⟩ := hrel
      obtain ⟨wo2, rfl⟩ : ∃ w : World, w = wr := ⟨_, rfl⟩
      have c2 := HP.out.obj.cell 2
      by_cases hjt : j < rr
      ·have hjtI : (j : Int) < rr := by omega
       have HKB : Hid ((j : Int) + 1 ≤ 1000000) := by have := HNB.out; unfold Hid; omega
       obtain ⟨b5, c5, ev, -, x0, xf, xl, xc1, xc2⟩ := row_at1 (k := j) HP.out.tr.t4 (by rw [mapK_len, HNN.out.2.2]; exact hjt)
       simp only [Value.slice.injEq] at ev
       obtain ⟨rfl, -, rfl⟩ := ev
       have hnl : j < (raT l).length := by rw [HNN.out.2.2]; exact hjt
       have hx1 : (inc (mapK (mvF m) (raT l) j))[j]? = some (.int .i64 (raT l)[j]) := by
        unfold inc
        rw [List.getElem?_map, List.getElem?_eq_getElem (by rw [mapK_len]; exact hnl), mapK_at _ _ j hnl]; rfl
       have HS2 : Hid (mapK (mvF m) (raT l) (j + 1) = (mapK (mvF m) (raT l) j).set j ((raT l)[j] + m)) := mapK_step _ _ j hnl
       have hxb : 0 ≤ (raT l)[j] ∧ (raT l)[j] ≤ 1000 := by
        have h1 : j < (readT l).1.1.length := by rw [← raT_len]; exact hnl
        have e1 : (raT l)[j] = (((readT l).1.1[j].at_ : Nat) : Int) := by simp [raT]
        have h2 := HAR.out j h1
        rw [e1]; omega
       rw [hx1] at x0
       obtain ⟨xv, hxv⟩ : ∃ v, (raT l)[j] = v := ⟨_, rfl⟩
       rw [hxv] at x0 hxb HS2
       have hm2 := HM.out
       have hsum : -9223372036854775808 ≤ xv + m ∧ xv + m ≤ 9223372036854775807 := by omega
       clear hxv hx1 hnl
       have c2' : ∀ u : Later wo2, u.val.cell? ⟨g3, 2, none⟩ = some (.slice (some ⟨b5, 0, none⟩) rr ac2) := fun u => (HP.out.obj.below u.ok).cell 2
       have x0' : ∀ u : Later wo2, u.val.cell? ⟨b5, j, none⟩ = some (.int .i64 xv) := fun u => (u.ok.cell (World.block_lt_of_cell? _ _ x0)).trans x0
       go_upto_region 20 with (fail)
       refine wp_region_later_tail 11 (by kernel_rfl) (by kernel_rfl) ?_
       simp only [List.take_succ_cons, List.take_zero, List.drop_succ_cons, List.drop_zero]
       repeat (go_big_quiet_step (fail))
       refine wpQuiet_nil ?_
       intro w5 hw5
       obtain ⟨u, rfl⟩ := hw5
       have HN17 := Lib.hid (HP.out.below u.ok)
       have y0 := x0' u
       have yf : u.val.frozen? ⟨b5, j, none⟩ = false := (u.ok.frozen (World.block_lt_of_cell? _ _ x0)).trans xf
       clear c2' x0' x0 xf HP c2
       generalize u.val = w5 at *
       have HN18 := Lib.hid (HN17.out.rul (k := j) (b := b5) (c := ac2) (by rw [mapK_len, HNN.out.2.2]) (xv + m))
       rw [← HS2.out] at HN18
       have HLT := Lib.hid hjt
       have hkb := HKB.out
       go_wp2_with fail
       go_roundw
       case rel => exact ⟨j + 1, by have := HLT.out; omega, by go_num, HN18.out⟩
       case measure => have := HLT.out; simp [intOf]; omega
      ·have hjtI : ¬ (j : Int) < rr := by omega
       obtain rfl : j = rr := by omega
       have HP1 : Hid (PlI z4 τ g3 #[.slice ro2 j rc2, .slice no2 k nc2, .slice ao2 j ac2, .slice bo2 k bc2, .slice co2 k cc2] (.slice ro2 j rc2) (.slice no2 k nc2) (.slice ao2 j ac2) (.slice bo2 k bc2) (.slice co2 k cc2) (ruT l) NKu ((raT l).mapIdx (mvF m)) ((naT l).mapIdx (mvF m)) ((nmT l).mapIdx (nwF (ndT l) word)) wo2) := by
        have e1 := mapK_all (mvF m) (raT l)
        rw [HNN.out.2.2] at e1
        unfold Hid
        rw [← e1]; exact HP.out
       clear HP hjt hj
       have hbd := readT_bd l
       obtain ⟨b1, b2, b3, b4, b5, b6, b7, b8⟩ := hbd
       have hle := HLE.out
       have hwh : whoR (ruT l) (ndT l) (raT l) (naT l) (nmT l) = true := by rw [whoR_lens]; have h1 := HNN.out; have h2 := HRR.out; have h3 := HND.out; omega
       obtain ⟨⟨e1, e2, e3, e4, e5⟩, htn, hkd⟩ := HP1.out.tr.tnw
       have HRS := res_gen htn hkd HKU.out (by omega) (by rw [List.length_mapIdx]; omega) (by rw [List.length_mapIdx]; omega) (by omega) (fun x hx => by have := b6 x hx; omega) (fun r hr => by have := b7 r hr; omega) (fun x hx => by have := b8 x hx; omega)
       rw [← e1, ← e2, ← e3, ← e4, ← e5] at HRS
       have HR2 := Lib.hid HRS
       have HMV := resS_move (R := ruT l) (N := ndT l) (RA := raT l) (NA := naT l) (NM := nmT l) m word hwh
       have HGV := rsG_move (R := ruT l) (N := ndT l) (RA := raT l) (NA := naT l) (NM := nmT l) m word hwh
       have hab := resS_bd (R := ruT l) (N := ndT l) (RA := raT l) (NA := naT l) (NM := nmT l) (B := 1000) (by decide) (fun x hx => by
        obtain ⟨q, hq, rfl⟩ := List.mem_iff_getElem.1 hx
        have h1 : q < (readT l).1.1.length := by rw [← raT_len]; exact hq
        have e1 : (raT l)[q] = (((readT l).1.1[q].at_ : Nat) : Int) := by simp [raT]
        have h2 := HAR.out q h1
        rw [e1]; omega) (fun x hx => by
        obtain ⟨q, hq, rfl⟩ := List.mem_iff_getElem.1 hx
        have h1 : q < (readT l).1.2.length := by rw [← naT_len]; exact hq
        have e1 : (naT l)[q] = (((readT l).1.2[q].at_ : Nat) : Int) := by simp [naT]
        have h2 := HAT.out q h1
        rw [e1]; omega)
       rw [HCA.out] at HMV hab
       rw [HGG.out] at HGV
       simp only [] at HMV hab
       have HMV2 := Lib.hid HMV; have HGV2 := Lib.hid HGV; have HAB := Lib.hid hab; have HWH := Lib.hid hwh
       clear e1 e2 e3 e4 e5 htn hkd HRS HMV HGV hab hwh b1 b2 b3 b4 b5 b6 b7 b8 hle
       go_wp2_with (refine load_rtree rfl (.tmp 11) rfl g3 rfl _ HP1.out.obj rfl ?_)
       refine HR2.out.mono ?_
       rintro e y7 ⟨rh, rhc, nh, nhc, NKh, rfl, hby, hgw⟩
       rw [HGV2.out] at hgw ⊢
       rw [HMV2.out]
       simp only []
       have HBL := HP1.out.bel.trans (hby.mono HP1.out.bel.size)
       have HGH := Lib.hid hgw; have HGW := Lib.hid (HG2.out.below HBL); have HGO2 := Lib.hid (HGO.out.below HBL); have HDO2 := Lib.hid (HDO.out.below HBL); have HT4 := Lib.hid (HT3.out.below HBL); have HTR4 := Lib.hid (HTR3.out.below HBL); have HB7 := Lib.hid (HB4.out.trans (HBL.mono HB4.out.size))
       clear hby hgw HBL HP1 HR2 HG2 HGO HDO HT3 HTR3 HB4 HMV2 HGV2
       obtain ⟨a2, ha2⟩ : ∃ q, (if c = 0 then 0 else a + m) = q := ⟨_, rfl⟩
       rw [ha2]
       have HA2 := Lib.hid ha2
       clear ha2 hjtI
       go_upto_region 22 with (fail)
       obtain ⟨g5, hg⟩ : ∃ g, y7.heap.size = g := ⟨_, rfl⟩
       obtain ⟨z8, hz, k1, k2, zb⟩ := two_blocks y7 g5 hg #[.slice rh Gg.rules.length rhc, .slice nh NKh.length nhc] #[.int .i64 c, .int .i64 a2] 25 34
       rw [hz, hg]
       have HHO := Lib.hid k1; have HFO := Lib.hid k2
       have HGH2 := Lib.hid (HGH.out.below zb); have HGW2 := Lib.hid (HGW.out.below zb); have HGO3 := Lib.hid (HGO2.out.below zb); have HDO3 := Lib.hid (HDO2.out.below zb); have HT5 := Lib.hid (HT4.out.below zb); have HTR5 := Lib.hid (HTR4.out.below zb); have HB8 := Lib.hid (HB7.out.trans (zb.mono HB7.out.size))
       clear hz hg k1 k2 zb HGH HGW HGO2 HDO2 HT4 HTR4 HB7
       have p0 := HFO.out.cell 0; have p1 := HFO.out.cell 1; have r0 := HDO3.out.cell 0; have r1 := HDO3.out.cell 1
       have q0 := HGO3.out.cell 0; have q1 := HGO3.out.cell 1; have t0 := HHO.out.cell 0; have t1 := HHO.out.cell 1
       have HSG := Lib.hid (sameGr_any z8 rh nh rg ng Gg.rules.length rhc NKh.length nhc rgc ngc NKh NKg Gg HGH2.out (by
        have h1 : NKg.length = NKh.length := by have h2 := congrArg List.length HGW2.out.eq; have h3 := congrArg List.length HGH2.out.eq; rw [List.length_map] at h2 h3; omega
        rw [← h1]; exact HGW2.out))
       have hlg : NKh.length = NKg.length := by have h2 := congrArg List.length HGW2.out.eq; have h3 := congrArg List.length HGH2.out.eq; rw [List.length_map] at h2 h3; omega
       rw [hlg] at HSG
       have hrr2 := HGG.out
       by_cases hc : c = 0
       ·subst hc
        have ha2 : a2 = 0 := by rw [← HA2.out]; rfl
        subst ha2
        rw [hlg] at t1 ⊢
        have hGe : Gg.rules = ruT l ∧ Gg.nodes = resN (ruT l) (nmT l) (ndT l) := by rw [← hrr2]; unfold rsG; rw [HCA.out]; exact ⟨rfl, rfl⟩
        have HGE := Lib.hid hGe
        have HR0 : Hid ((resS (ruT l) (ndT l) (raT l) (naT l) (nmT l)).1 = 0) := by unfold Hid; rw [HCA.out]
        clear hrr2 hGe hlg
        go_wp2_with fail
        refine HSG.out.mono ?_
        rintro e z9 ⟨rfl, hb⟩
        have HB9 := Lib.hid (HB8.out.trans (hb.mono HB8.out.size))
        have HG9 := Lib.hid (HGO3.out.below hb); have HGW9 := Lib.hid (HGW2.out.below hb); have HT9 := Lib.hid (HT5.out.below hb); have HTR9 := Lib.hid (HTR5.out.below hb)
        have r0 := (HDO3.out.below hb).cell 0
        clear hb p0 p1 r1 t0 t1 q0 q1 HSG HGO3 HGW2 HT5 HTR5 HB8
        have q0 := HG9.out.cell 0; have q1 := HG9.out.cell 1
        have HRU := Lib.hid (rule_any z9 rg Gg.rules.length rgc (.slice ng NKg.length ngc) Gg.rules HGW9.out.rul ⟨#[95, 110, 101, 119]⟩ ng NKg.length ngc rfl)
        go_wp2_with fail
        refine HRU.out.mono ?_
        rintro e y1 ⟨rfl, hb⟩
        have HB10 := Lib.hid (HB9.out.trans (hb.mono HB9.out.size))
        have HG10 := Lib.hid (HG9.out.below hb); have HGW10 := Lib.hid (HGW9.out.below hb); have HT10 := Lib.hid (HT9.out.below hb); have HTR10 := Lib.hid (HTR9.out.below hb)
        clear hb q0 q1 r0 HRU HG9 HGW9 HT9 HTR9 HB9
        obtain ⟨ix, hix⟩ : ∃ v, ruleIx Gg.rules ⟨#[95, 110, 101, 119]⟩ = v := ⟨_, rfl⟩
        rw [hix]
        have HIX := Lib.hid hix
        clear hix
        by_cases hneg : ix < 0
        ·obtain ⟨r, x, t, hrn, hxk, he1, he2, hru, hnd, hnm⟩ := new_read (l := l) (RR := RR) (NN := NN) HRD.out
         have hnegR : ruleIx (ruT l) r.name < 0 := by
          have h1 := HIX.out
          rw [HGE.out.1] at h1
          rw [hrn]
          show ruleIx (ruT l) ⟨#[95, 110, 101, 119]⟩ < 0
          rw [h1]; exact hneg
         have hlens : (raT (l ++ 10 :: nwB)).length = (ruT l).length + 1 ∧ (naT (l ++ 10 :: nwB)).length = (ndT l).length + 1 := by
          constructor
          ·rw [raT_len, ← ruT_len, hru]; simp
          ·rw [naT_len, ← ndT_len, hnd]; simp
         have hmore := res_more HR0.out r x t hnegR (by rw [hxk]; decide) hlens.1 hlens.2
         rw [← hru, ← hnd, ← hnm] at hmore
         have HT2 : Hid (∀ v : World, Calls Tryz.prog 11 #[.string (s ++ ⟨#[10, 95, 110, 101, 119, 32, 60, 45, 32, 40, 41, 59]⟩)] v fun e w' => TxtP (l ++ 10 :: nwB) v e w') := fun v => by
          have h1 := text_walk (s ++ ⟨#[10, 95, 110, 101, 119, 32, 60, 45, 32, 40, 41, 59]⟩) v (by rw [ByteArray.size_append]; show s.size + 12 ≤ 16384; omega)
          have h2 : (s ++ ⟨#[10, 95, 110, 101, 119, 32, 60, 45, 32, 40, 41, 59]⟩ : ByteArray).data.toList = l ++ 10 :: nwB := by rw [← HLL.out]; simp [nwB]
          rw [h2] at h1; exact h1
         obtain ⟨l2, hl2⟩ : ∃ q, l ++ 10 :: nwB = q := ⟨_, rfl⟩
         have hll2 : l2.length ≤ 1100 := by rw [← hl2]; have := HLE.out; simp [nwB]; omega
         rw [hl2] at HT2 he1 he2 hru hnd hnm hmore
         have HE1 := Lib.hid he1; have HE2 := Lib.hid he2; have HRU2 := Lib.hid hru; have HND2 := Lib.hid hnd; have HMO := Lib.hid hmore; have HL2 := Lib.hid hll2
         have hconc : s.size + 12 ≤ 9223372036854775807 := by omega
         clear hrn hxk he1 he2 hru hnd hnm hnegR hlens hmore hl2 hll2
         go_wp2_with fail
         refine (HT2.out _).mono ?_
         rintro e y2 h
         obtain ⟨rv, nv, av, bv, cv, rvc, nvc, avc, bvc, cvc, NKv, rfl, ht, hb⟩ := h.tn (by have := HL2.out; omega)
         unfold trA
         have HTV := Lib.hid ht; have HB11 := Lib.hid (HB10.out.trans (hb.mono HB10.out.size))
         have HG11 := Lib.hid (HG10.out.below hb); have HGW11 := Lib.hid (HGW10.out.below hb); have HT11 := Lib.hid (HT10.out.below hb); have HTR11 := Lib.hid (HTR10.out.below hb)
         clear ht hb h HG10 HGW10 HT10 HTR10 HB10
         go_upto_region 28 with (fail)
         obtain ⟨g6, hg⟩ : ∃ g, y2.heap.size = g := ⟨_, rfl⟩
         obtain ⟨y3, hz, k1, k2, zb⟩ := two_blocks y2 g6 hg #[.slice rv (ruT l2).length rvc, .slice nv NKv.length nvc, .slice av (raT l2).length avc, .slice bv (naT l2).length bvc, .slice cv (nmT l2).length cvc] #[.int .i64 (readT l2).2.1, .int .i64 (readT l2).2.2] 29 34
         rw [hz, hg]
         have HVO := Lib.hid k1; have HLO := Lib.hid k2
         have HTV2 := Lib.hid (HTV.out.below zb); have HB12 := Lib.hid (HB11.out.trans (zb.mono HB11.out.size))
         have HG12 := Lib.hid (HG11.out.below zb); have HGW12 := Lib.hid (HGW11.out.below zb); have HT12 := Lib.hid (HT11.out.below zb); have HTR12 := Lib.hid (HTR11.out.below zb)
         clear hz hg k1 k2 zb HTV HG11 HGW11 HT11 HTR11 HB11
         have HRV := Lib.hid (res_txt HTV2.out HL2.out)
         go_wp2_with (refine load_rtree rfl (.tmp 18) rfl g6 rfl _ HVO.out rfl ?_)
         refine HRV.out.mono ?_
         rintro e y4 ⟨rx, rxc, nx, nxc, NKx, rfl, hby, hgw⟩
         obtain ⟨Gx, hGx⟩ : ∃ G, rsG (ruT l2) (ndT l2) (raT l2) (naT l2) (nmT l2) = G := ⟨_, rfl⟩
         have hGx2 : Gx = ⟨ruT l ++ [r], resN (ruT l) (nmT l) (ndT l) ++ [x]⟩ := by
          rw [← hGx]; unfold rsG
          rw [HMO.out.1, HMO.out.2, HRU2.out]; rfl
         rw [hGx] at hgw ⊢
         rw [HMO.out.1]
         have hxl : Gx.rules.length = Gg.rules.length + 1 := by rw [hGx2, HGE.out.1]; simp
         have hxn : NKx.length = NKg.length + 1 := by
          have h1 := congrArg List.length hgw.eq
          have h2 := congrArg List.length HGW12.out.eq
          rw [List.length_map, hGx2] at h1
          rw [List.length_map, HGE.out.2] at h2
          simp at h1; omega
         rw [hxl, hxn] at hgw ⊢
         rw [hGx2] at hgw
         have HGX := Lib.hid hgw; have HB13 := Lib.hid (HB12.out.trans (hby.mono HB12.out.size))
         have HG13 := Lib.hid (HG12.out.below hby); have HGW13 := Lib.hid (HGW12.out.below hby); have HT13 := Lib.hid (HT12.out.below hby); have HTR13 := Lib.hid (HTR12.out.below hby); have HLO2 := Lib.hid (HLO.out.below hby)
         clear hby hgw hGx hGx2 hxl hxn HRV HTV2 HVO HLO HG12 HGW12 HT12 HTR12 HB12
         obtain ⟨gn, hgn⟩ : ∃ n, Gg.rules.length = n := ⟨_, rfl⟩
         obtain ⟨kn, hkn⟩ : ∃ n, NKg.length = n := ⟨_, rfl⟩
         have HGN := Lib.hid hgn; have HKN := Lib.hid hkn
         rw [hgn, hkn] at HGX HG13 ⊢
         clear hgn hkn
         simp only []
         go_upto_region 29 with (fail)
         obtain ⟨g7, hg⟩ : ∃ g, y4.heap.size = g := ⟨_, rfl⟩
         obtain ⟨y5, hz, k1, k2, zb⟩ := two_blocks y4 g7 hg #[.slice rx (gn + 1 : Nat) rxc, .slice nx (kn + 1 : Nat) nxc] #[.int .i64 0, .int .i64 0] 25 34
         rw [hz, hg]
         have hbx := HGX.out.rul.bound
         have hbn := HGX.out.nod.sv.bound
         have x0 := k1.cell 0; have x1 := k1.cell 1; have xf0 := k1.frozen 0; have xf1 := k1.frozen 1
         have d0 := k2.cell 0; have d1 := k2.cell 1
         have l0 := (HLO2.out.below zb).cell 0
         rw [HE1.out] at l0
         have q0 := (HG13.out.below zb).cell 0; have q1 := (HG13.out.below zb).cell 1
         have HX7 := Lib.hid k1
         have hbel : Below y4.heap.size y4 ((y5.setCell ⟨g7, 0, none⟩ (.slice rx gn rxc)).setCell ⟨g7, 1, none⟩ (.slice nx kn nxc)) := (zb.setCell (by show y4.heap.size ≤ g7; omega) _).setCell (by show y4.heap.size ≤ g7; omega) _
         have HBEL := Lib.hid hbel
         have HX8 : Hid (hrow ((y5.setCell ⟨g7, 0, none⟩ (.slice rx gn rxc)).setCell ⟨g7, 1, none⟩ (.slice nx kn nxc)) g7 #[.slice rx gn rxc, .slice nx kn nxc] 25) := (k1.setCell 0 _).setCell 1 _
         have hgne : g2 ≠ g7 := fun e => by have := HG13.out.lt; omega
         clear hz hg k1 k2 zb hbel
         go_upto_region 33 with (fail)
         revert HBEL HX8
         generalize (y5.setCell ⟨g7, 0, none⟩ (.slice rx gn rxc)).setCell ⟨g7, 1, none⟩ (.slice nx kn nxc) = y6
         intro HBEL HX8
         clear x0 x1 xf0 xf1 d0 d1 l0 q0 q1
         have hGq : (⟨ruT l, resN (ruT l) (nmT l) (ndT l)⟩ : Gr) = Gg := by
          have h1 := HGE.out
          cases Gg
          simp only [] at h1
          rw [h1.1, h1.2]
         have hfr := HGX.out.front.below HBEL.out
         have e1 : (ruT l).length = gn := by rw [← HGN.out, HGE.out.1]
         have e2 : (resN (ruT l) (nmT l) (ndT l)).length = kn := by
          have h2 := congrArg List.length HGW13.out.eq
          rw [List.length_map, HGE.out.2] at h2
          rw [← h2]; exact HKN.out
         rw [e1, e2, hGq] at hfr
         have hgw13 := HGW13.out.below HBEL.out
         rw [HGN.out, HKN.out] at hgw13
         have HSG2 := Lib.hid (sameGr_any y6 rg ng rx nx gn rgc kn ngc rxc nxc NKg _ Gg hgw13 hfr)
         have HG14 := Lib.hid (HG13.out.below HBEL.out); have HGW14 := Lib.hid (HGW13.out.below HBEL.out); have HT14 := Lib.hid (HT13.out.below HBEL.out); have HTR14 := Lib.hid (HTR13.out.below HBEL.out); have HB14 := Lib.hid (HB13.out.trans (HBEL.out.mono HB13.out.size))
         have x0 := HX8.out.cell 0; have x1 := HX8.out.cell 1; have q0 := HG14.out.cell 0; have q1 := HG14.out.cell 1
         clear hGq hfr e1 e2 hgw13 HBEL HX8 HGX HX7 HG13 HGW13 HT13 HTR13 HB13
         go_wp2_with fail
         refine HSG2.out.mono ?_
         rintro e y7' ⟨rfl, hb⟩
         have HG15 := Lib.hid (HG14.out.below hb); have HGW15 := Lib.hid (HGW14.out.below hb); have HT15 := Lib.hid (HT14.out.below hb); have HTR15 := Lib.hid (HTR14.out.below hb); have HB15 := Lib.hid (HB14.out.trans (hb.mono HB14.out.size))
         rw [← HGN.out, ← HKN.out] at HG15
         clear hb x0 x1 q0 q1 HSG2 HG14 HGW14 HT14 HTR14 HB14
         go_upto_region 36 with (fail)
         have e1o := HG15.out.cell 1
         have hnk : NKg.length = (ndT l).length := by have h2 := congrArg List.length HGW15.out.eq; rw [List.length_map, HGE.out.2, resN_len] at h2; exact h2
         have HNK := Lib.hid hnk
         obtain ⟨nk, hnk2⟩ : ∃ n, NKg.length = n := ⟨_, rfl⟩
         have HNL := Lib.hid hnk2
         have hbn := HGW15.out.nod.sv.bound
         rw [hnk2] at e1o hbn
         clear hnk hnk2
         go_loopw [22] (fun i wr => ∃ q : Nat, q ≤ nk ∧ i = .int .i64 q ∧ Hid (Below y7'.heap.size y7' wr)) (fun i _ => nk - (intOf i).toNat)
         case atStart => exact ⟨0, Nat.zero_le _, rfl, Below.refl _ _⟩
         case round =>
          clear e1o
          obtain ⟨q, hq, rfl, HW⟩ := hrel
          have HGa := Lib.hid (HG15.out.below HW.out); have HGWa := Lib.hid (HGW15.out.below HW.out); have HTa := Lib.hid (HT15.out.below HW.out); have HTRa := Lib.hid (HTR15.out.below HW.out)
          have b1 : wr.cell? ⟨g2, 1, none⟩ = some (.slice ng nk ngc) := by have h1 := HGa.out.cell 1; rw [HNL.out] at h1; exact h1
          by_cases hqt : q < nk
          ·have hqI : (q : Int) < nk := by omega
           have HQT := Lib.hid hqt
           have hql : q < NKg.length := by rw [HNL.out]; exact hqt
           have hqd : q < (ndT l).length := by rw [← HNK.out]; exact hql
           obtain ⟨na, rfl, a0, -, -, -, -, -, a6, -⟩ := HGWa.out.nod.sv.nd9 hql
           have hnode : NKg[q].1 = ndI (resN (ruT l) (nmT l) (ndT l)) q := by
            have h1 := HGWa.out.eq
            rw [HGE.out.2] at h1
            have h2 : q < (resN (ruT l) (nmT l) (ndT l)).length := by rw [resN_len]; exact hqd
            rw [ndI_in h2]
            have h3 : (NKg.map (·.1))[q]'(by simpa using hql) = (resN (ruT l) (nmT l) (ndT l))[q] := by simp only [h1]
            rw [← h3, List.getElem_map]
           have hkind : NKg[q].1.kind = (ndT l)[q].kind := by
            rw [hnode, ndI_in (by rw [resN_len]; exact hqd)]
            unfold resN
            simp only [List.getElem_mapIdx]
            exact resD_kind _ _ _ _
           have later : ∀ (p : Addr) (v : Value), wr.cell? p = some v → ∀ u : Later wr, u.val.cell? p = some v := fun p v h u => (u.ok.cell (World.block_lt_of_cell? wr _ h)).trans h
           have hkb : (q : Int) + 1 ≤ 1000000 := by have h1 := HNB.out; have h2 := HND.out; omega
           have HKB := Lib.hid hkb
           clear hkb
           by_cases h5 : NKg[q].1.kind = 5
           ·obtain ⟨k2, hk2, hkl, hkn⟩ := call_named HR0.out q hqd (by rw [← hkind]; exact h5)
            rw [hnode, hk2] at a6
            rw [h5] at a0
            have hR : Gg.rules = ruT l := HGE.out.1
            have hrul := HGWa.out.rul
            rw [hR] at hrul
            obtain ⟨ra, rfl, r1, -⟩ := hrul.ru2 hkl
            rw [hkn] at r1
            have hrl : (ruT l).length = Gg.rules.length := by rw [hR]
            have hk3 : (k2 : Int) < Gg.rules.length := by omega
            have b0 := HGa.out.cell 0
            have t4 := HTa.out.cell 4
            have hnm : q < (nmT l).length := by rw [HNN.out.2.1, ← HND.out]; exact hqd
            obtain ⟨ca, rfl, hcc⟩ := HTRa.out.t.nm.cell q (by rw [List.length_map]; exact hnm)
            rw [List.getElem?_map, List.getElem?_eq_getElem hnm] at hcc
            have hcc2 : wr.cell? (ca.add q) = some (.string ((nmT l).getD q ⟨#[]⟩)) := by
             rw [List.getD_eq_getElem?_getD, List.getElem?_eq_getElem hnm]; exact hcc
            have hqm : (q : Int) < (nmT l).length := by omega
            have hbr := hrul.bound
            have hbm := HTRa.out.t.nm.bound
            obtain ⟨nx, hnx⟩ : ∃ v, (nmT l).getD q ⟨#[]⟩ = v := ⟨_, rfl⟩
            rw [hnx] at hcc2 r1
            rw [hrl] at hbr
            obtain ⟨gn, hgn⟩ : ∃ v, Gg.rules.length = v := ⟨_, rfl⟩
            obtain ⟨mn, hmn⟩ : ∃ v, (nmT l).length = v := ⟨_, rfl⟩
            rw [hgn] at hk3 hbr b0
            rw [hmn] at hqm hbm t4
            have a0' := later _ _ a0; have a6' := later _ _ a6; have r1' := later _ _ r1; have c0' := later _ _ hcc2; have b1' := later _ _ b1; have b0' := later _ _ b0; have t4' := later _ _ t4
            have he1 : (nx.toList == nx.toList) = true := by simp
            have he2 : (nx.toList != nx.toList) = false := by simp
            clear later hk2 hkn hR hrul hrl hnm hcc hcc2 hnx hgn hmn a0 a6 r1 b0 t4 hnode hkind h5 hql hqd hqt hkl
            go_upto_region 38 with (fail)
            clear b1
            refine wp_region_later (by kernel_rfl) (by kernel_rfl) ?_
            repeat (go_big_quiet_step (fail))
            refine wpQuiet_nil ?_
            intro w5 hw5
            obtain ⟨u, rfl⟩ := hw5
            have HWu := Lib.hid (HW.out.trans (u.ok.mono HW.out.size))
            clear a0' a6' r1' c0' b1' b0' t4' he1 he2
            have hkb := HKB.out
            go_wp2_with fail
            go_roundw
            case rel => exact ⟨q + 1, by have := HQT.out; omega, by go_num, HWu.out⟩
            case measure => have := HQT.out; simp [intOf]; omega
           ·have a0' := later _ _ a0; have b1' := later _ _ b1
            obtain ⟨kd, hkd⟩ : ∃ v, NKg[q].1.kind = v := ⟨_, rfl⟩
            rw [hkd] at a0' h5
            have hkq : (kd == 5) = false := by rw [beq_eq_false_iff_ne]; exact h5
            clear later a0 a6 hnode hkind hkd h5 hql hqd hqt
            go_upto_region 38 with (fail)
            clear b1
            refine wp_region_later (by kernel_rfl) (by kernel_rfl) ?_
            repeat (go_big_quiet_step (fail))
            refine wpQuiet_nil ?_
            intro w5 hw5
            obtain ⟨u, rfl⟩ := hw5
            have HWu := Lib.hid (HW.out.trans (u.ok.mono HW.out.size))
            clear a0' b1' hkq
            have hkb := HKB.out
            go_wp2_with fail
            go_roundw
            case rel => exact ⟨q + 1, by have := HQT.out; omega, by go_num, HWu.out⟩
            case measure => have := HQT.out; simp [intOf]; omega
          ·have hqI : ¬ (q : Int) < nk := by omega
           go_wp2_with fail
           go_ret
           exact ⟨rfl, HB15.out.trans (HW.out.mono HB15.out.size)⟩
        ·go_upto_region 36 with (fail)
         have e1o := HG10.out.cell 1
         have hnk : NKg.length = (ndT l).length := by have h2 := congrArg List.length HGW10.out.eq; rw [List.length_map, HGE.out.2, resN_len] at h2; exact h2
         have HNK := Lib.hid hnk
         obtain ⟨nk, hnk2⟩ : ∃ n, NKg.length = n := ⟨_, rfl⟩
         have HNL := Lib.hid hnk2
         have hbn := HGW10.out.nod.sv.bound
         rw [hnk2] at e1o hbn
         clear hnk hnk2
         go_loopw [22] (fun i wr => ∃ q : Nat, q ≤ nk ∧ i = .int .i64 q ∧ Hid (Below y1.heap.size y1 wr)) (fun i _ => nk - (intOf i).toNat)
         case atStart => exact ⟨0, Nat.zero_le _, rfl, Below.refl _ _⟩
         case round =>
          clear e1o
          obtain ⟨q, hq, rfl, HW⟩ := hrel
          have HGa := Lib.hid (HG10.out.below HW.out); have HGWa := Lib.hid (HGW10.out.below HW.out); have HTa := Lib.hid (HT10.out.below HW.out); have HTRa := Lib.hid (HTR10.out.below HW.out)
          have b1 : wr.cell? ⟨g2, 1, none⟩ = some (.slice ng nk ngc) := by have h1 := HGa.out.cell 1; rw [HNL.out] at h1; exact h1
          by_cases hqt : q < nk
          ·have hqI : (q : Int) < nk := by omega
           have HQT := Lib.hid hqt
           have hql : q < NKg.length := by rw [HNL.out]; exact hqt
           have hqd : q < (ndT l).length := by rw [← HNK.out]; exact hql
           obtain ⟨na, rfl, a0, -, -, -, -, -, a6, -⟩ := HGWa.out.nod.sv.nd9 hql
           have hnode : NKg[q].1 = ndI (resN (ruT l) (nmT l) (ndT l)) q := by
            have h1 := HGWa.out.eq
            rw [HGE.out.2] at h1
            have h2 : q < (resN (ruT l) (nmT l) (ndT l)).length := by rw [resN_len]; exact hqd
            rw [ndI_in h2]
            have h3 : (NKg.map (·.1))[q]'(by simpa using hql) = (resN (ruT l) (nmT l) (ndT l))[q] := by simp only [h1]
            rw [← h3, List.getElem_map]
           have hkind : NKg[q].1.kind = (ndT l)[q].kind := by
            rw [hnode, ndI_in (by rw [resN_len]; exact hqd)]
            unfold resN
            simp only [List.getElem_mapIdx]
            exact resD_kind _ _ _ _
           have later : ∀ (p : Addr) (v : Value), wr.cell? p = some v → ∀ u : Later wr, u.val.cell? p = some v := fun p v h u => (u.ok.cell (World.block_lt_of_cell? wr _ h)).trans h
           have hkb : (q : Int) + 1 ≤ 1000000 := by have h1 := HNB.out; have h2 := HND.out; omega
           have HKB := Lib.hid hkb
           clear hkb
           by_cases h5 : NKg[q].1.kind = 5
           ·obtain ⟨k2, hk2, hkl, hkn⟩ := call_named HR0.out q hqd (by rw [← hkind]; exact h5)
            rw [hnode, hk2] at a6
            rw [h5] at a0
            have hR : Gg.rules = ruT l := HGE.out.1
            have hrul := HGWa.out.rul
            rw [hR] at hrul
            obtain ⟨ra, rfl, r1, -⟩ := hrul.ru2 hkl
            rw [hkn] at r1
            have hrl : (ruT l).length = Gg.rules.length := by rw [hR]
            have hk3 : (k2 : Int) < Gg.rules.length := by omega
            have b0 := HGa.out.cell 0
            have t4 := HTa.out.cell 4
            have hnm : q < (nmT l).length := by rw [HNN.out.2.1, ← HND.out]; exact hqd
            obtain ⟨ca, rfl, hcc⟩ := HTRa.out.t.nm.cell q (by rw [List.length_map]; exact hnm)
            rw [List.getElem?_map, List.getElem?_eq_getElem hnm] at hcc
            have hcc2 : wr.cell? (ca.add q) = some (.string ((nmT l).getD q ⟨#[]⟩)) := by
             rw [List.getD_eq_getElem?_getD, List.getElem?_eq_getElem hnm]; exact hcc
            have hqm : (q : Int) < (nmT l).length := by omega
            have hbr := hrul.bound
            have hbm := HTRa.out.t.nm.bound
            obtain ⟨nx, hnx⟩ : ∃ v, (nmT l).getD q ⟨#[]⟩ = v := ⟨_, rfl⟩
            rw [hnx] at hcc2 r1
            rw [hrl] at hbr
            obtain ⟨gn, hgn⟩ : ∃ v, Gg.rules.length = v := ⟨_, rfl⟩
            obtain ⟨mn, hmn⟩ : ∃ v, (nmT l).length = v := ⟨_, rfl⟩
            rw [hgn] at hk3 hbr b0
            rw [hmn] at hqm hbm t4
            have a0' := later _ _ a0; have a6' := later _ _ a6; have r1' := later _ _ r1; have c0' := later _ _ hcc2; have b1' := later _ _ b1; have b0' := later _ _ b0; have t4' := later _ _ t4
            have he1 : (nx.toList == nx.toList) = true := by simp
            have he2 : (nx.toList != nx.toList) = false := by simp
            clear later hk2 hkn hR hrul hrl hnm hcc hcc2 hnx hgn hmn a0 a6 r1 b0 t4 hnode hkind h5 hql hqd hqt hkl
            go_upto_region 38 with (fail)
            clear b1
            refine wp_region_later (by kernel_rfl) (by kernel_rfl) ?_
            repeat (go_big_quiet_step (fail))
            refine wpQuiet_nil ?_
            intro w5 hw5
            obtain ⟨u, rfl⟩ := hw5
            have HWu := Lib.hid (HW.out.trans (u.ok.mono HW.out.size))
            clear a0' a6' r1' c0' b1' b0' t4' he1 he2
            have hkb := HKB.out
            go_wp2_with fail
            go_roundw
            case rel => exact ⟨q + 1, by have := HQT.out; omega, by go_num, HWu.out⟩
            case measure => have := HQT.out; simp [intOf]; omega
           ·have a0' := later _ _ a0; have b1' := later _ _ b1
            obtain ⟨kd, hkd⟩ : ∃ v, NKg[q].1.kind = v := ⟨_, rfl⟩
            rw [hkd] at a0' h5
            have hkq : (kd == 5) = false := by rw [beq_eq_false_iff_ne]; exact h5
            clear later a0 a6 hnode hkind hkd h5 hql hqd hqt
            go_upto_region 38 with (fail)
            clear b1
            refine wp_region_later (by kernel_rfl) (by kernel_rfl) ?_
            repeat (go_big_quiet_step (fail))
            refine wpQuiet_nil ?_
            intro w5 hw5
            obtain ⟨u, rfl⟩ := hw5
            have HWu := Lib.hid (HW.out.trans (u.ok.mono HW.out.size))
            clear a0' b1' hkq
            have hkb := HKB.out
            go_wp2_with fail
            go_roundw
            case rel => exact ⟨q + 1, by have := HQT.out; omega, by go_num, HWu.out⟩
            case measure => have := HQT.out; simp [intOf]; omega
          ·have hqI : ¬ (q : Int) < nk := by omega
           go_wp2_with fail
           go_ret
           exact ⟨rfl, HB10.out.trans (HW.out.mono HB10.out.size)⟩
       ·have ha2 : a2 = a + m := by rw [← HA2.out, if_neg hc]
        subst ha2
        rw [hlg] at t1 ⊢
        have hce : (c == 0) = false := by rw [beq_eq_false_iff_ne]; exact hc
        have hce2 : (c != 0) = true := by simpa using hc
        have hab := HAB.out
        have hm2 := HM.out
        have hsum : -9223372036854775808 ≤ a + m ∧ a + m ≤ 9223372036854775807 := by omega
        have hGe : Gg.rules = [] ∧ Gg.nodes = [] := by rw [← hrr2]; unfold rsG; rw [HCA.out]; simp only [if_neg hc]; exact ⟨trivial, trivial⟩
        have hl1 : Gg.rules.length = 0 := by rw [hGe.1]; rfl
        have hl2 : NKg.length = 0 := by have h2 := congrArg List.length HGW2.out.eq; rw [List.length_map, hGe.2] at h2; exact h2
        have HL1 := Lib.hid hl1; have HL2 := Lib.hid hl2
        clear hc hrr2 hGe hlg hl1 hl2
        go_wp2_with fail
        refine HSG.out.mono ?_
        rintro e z9 ⟨rfl, hb⟩
        have HB9 := Lib.hid (HB8.out.trans (hb.mono HB8.out.size))
        have HG9 := Lib.hid (HGO3.out.below hb)
        have r0 := (HDO3.out.below hb).cell 0
        have q0 := HG9.out.cell 0; have q1 := HG9.out.cell 1
        clear hb p0 p1 r1 t0 t1 HSG
        rw [HL1.out] at q0
        rw [HL2.out] at q1
        go_wp2_with fail
        go_ret
        exact ⟨rfl, HB9.out⟩
  ·have heq : ((e0 : Int) == 0) = false := by rw [beq_eq_false_iff_ne]; omega
   clear hrd
   go_wp2_with fail
   go_ret
   exact ⟨rfl, HB2.out⟩
 ·have hlI : (1000 : Int) < s.size := by omega
  go_wp2_with fail
  go_ret
  exact ⟨rfl, HB0.out⟩
end Go.Proofs.YtgjhepblpdnkcaaGreatDoor
