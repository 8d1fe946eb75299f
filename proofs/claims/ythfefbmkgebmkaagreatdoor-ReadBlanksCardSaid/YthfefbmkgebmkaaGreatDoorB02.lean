/- Walks and plain laws: Ll. -/
import Derived.Test.YthfefbmkgebmkaaGreatDoorB01
import Derived.Deep.CutRange
namespace Go.Proofs.YthfefbmkgebmkaaGreatDoor
open Go.RowKit
set_option maxRecDepth 100000
set_option maxHeartbeats 60000000

/-- Two trees and the tree of both texts, while their rules are compared. -/
structure JnI (g1 g3 g5 : Nat) (c1 c3 c5 : Array Value) (ro ro3 ro4 : Option Addr) (n1 rc n3 rc3 n4 rc4 : Nat) (U1 U3 U4 : List Ru) (w wr : World) : Prop where
  t1 : hrow wr g1 c1 30
  t3 : hrow wr g3 c3 30
  t5 : hrow wr g5 c5 30
  s1 : Sv wr ro n1 rc 2 (U1.flatMap ruc)
  s3 : Sv wr ro3 n3 rc3 2 (U3.flatMap ruc)
  s4 : Sv wr ro4 n4 rc4 2 (U4.flatMap ruc)
  bl : Below w.heap.size w wr
theorem JnI.below {g1 g3 g5 : Nat} {c1 c3 c5 : Array Value} {ro ro3 ro4 : Option Addr} {n1 rc n3 rc3 n4 rc4 : Nat} {U1 U3 U4 : List Ru} {w wr w' : World} (h : JnI g1 g3 g5 c1 c3 c5 ro ro3 ro4 n1 rc n3 rc3 n4 rc4 U1 U3 U4 w wr) (hb : Below wr.heap.size wr w') : JnI g1 g3 g5 c1 c3 c5 ro ro3 ro4 n1 rc n3 rc3 n4 rc4 U1 U3 U4 w w' :=
  ⟨h.t1.below hb, h.t3.below hb, h.t5.below hb, h.s1.below hb, h.s3.below hb, h.s4.below hb, h.bl.trans (hb.mono h.bl.size)⟩
theorem ru_sz2 : (Tryz.prog.info? 48).map (·.size) = some 2 := by decide +kernel
theorem rule_later {wx : World} {p : Addr} {x0 x1 : Value} (h0 : wx.cell? p = some x0) (h1 : wx.cell? ⟨p.block, p.off + 1, none⟩ = some x1) : ∀ x : Later wx, (loadVar 48 p).run Tryz.prog x.val = .ok (.agg #[x0, x1]) x.val := by
  have H : ∀ (x : Later wx) j v, (#[x0, x1] : Array Value).toList[j]? = some v → x.val.cell? (p.add j) = some v := fun x j v hj => by
    match j, hj with
    | 0, hj =>
      have e : x0 = v := by simpa using hj
      subst e
      rw [show p.add 0 = p by unfold Addr.add; simp]
      exact (x.ok.cell (World.block_lt_of_cell? wx _ h0)).trans h0
    | 1, hj =>
      have e : x1 = v := by simpa using hj
      subst e
      rw [show p.add 1 = ⟨p.block, p.off + 1, none⟩ by unfold Addr.add; simp]
      exact (x.ok.cell (World.block_lt_of_cell? wx _ h1)).trans h1
    | j + 2, hj => simp at hj
  exact fun x => run_loadVar_part x.val p _ _ _ (H x) Tryz.underlying48 rfl ru_sz2
theorem join_at1 {R R1 R3 : List Rr} {m : Nat} (h : R.map nb = R1.map nb ++ (R3.map nb).map fun x => (x.1, x.2 + m)) {i : Nat} (hi : i < R1.length) (hr : i < R.length) : R[i].nm = R1[i].nm ∧ R[i].body = R1[i].body := by
  have e : (R.map nb)[i]? = (R1.map nb ++ (R3.map nb).map fun x => (x.1, x.2 + m))[i]? := congrArg (fun l => l[i]?) h
  rw [List.getElem?_append_left (by simpa using hi), List.getElem?_map, List.getElem?_map, List.getElem?_eq_getElem hr, List.getElem?_eq_getElem hi] at e
  simp only [Option.map_some, Option.some.injEq, nb, Prod.mk.injEq] at e
  exact e
theorem join_at3 {R R1 R3 : List Rr} {m : Nat} (h : R.map nb = R1.map nb ++ (R3.map nb).map fun x => (x.1, x.2 + m)) {k : Nat} (hk : k < R3.length) (hr : R1.length + k < R.length) : R[R1.length + k].nm = R3[k].nm ∧ R[R1.length + k].body = R3[k].body + m := by
  have e : (R.map nb)[R1.length + k]? = (R1.map nb ++ (R3.map nb).map fun x => (x.1, x.2 + m))[R1.length + k]? := congrArg (fun l => l[R1.length + k]?) h
  rw [List.getElem?_append_right (by simp), List.length_map, Nat.add_sub_cancel_left, List.getElem?_map, List.getElem?_map, List.getElem?_map, List.getElem?_eq_getElem hr, List.getElem?_eq_getElem hk] at e
  simp only [Option.map_some, Option.some.injEq, nb, Prod.mk.injEq] at e
  exact e
def BlC (c : Bool) (q : Nat) (sp : List UInt8) : Prop := c = true → q = 0 ∧ sp.length < 16384
theorem rbl_any (a b : ByteArray) (turn : Int) (w : World) (hma : a.size ≤ 140737488355328) (hmb : b.size ≤ 140737488355328) : Calls Tryz.prog 4 #[.string a, .string b, .int .i64 turn] w fun e w' => e = .returned (.bool true) ∧ Below w.heap.size w w' := by
  have HAw := Lib.hid (rawake_any w)
  have HM := Lib.hid hma; have HM2 := Lib.hid hmb; clear hma hmb
  go_enter Tryz.func4, Tryz.ntmps4
  go_wp2_with fail
  refine HAw.out.mono ?_
  rintro e w1 ⟨rfl, hb⟩
  have B1 := Lib.hid hb; clear hb HAw
  by_cases hbig : 1000 < a.size
  · have hI : (1000 : Int) < a.size := by omega
    clear hbig
    go_wp2_with fail
    go_ret
    exact ⟨rfl, B1.out⟩
  have hI : ¬ (1000 : Int) < a.size := by omega
  by_cases hbigb : 1000 < b.size
  · have hIb : (1000 : Int) < b.size := by omega
    clear hbigb hbig
    go_wp2_with fail
    go_ret
    exact ⟨rfl, B1.out⟩
  have hIb : ¬ (1000 : Int) < b.size := by omega
  have HSa := Lib.hid hbig; have HSb := Lib.hid hbigb; clear hbig hbigb
  have HAa := Lib.hid (fun x => all_any a x (by have := HSa.out; omega))
  go_wp2_with fail
  refine (HAa.out _).mono ?_
  intro e w2 hPa
  obtain ⟨ws, ao, cap, p, q, rfl, hsv, hb2, hq, hin, hwl⟩ := hPa.words
  have B2 := Lib.hid (B1.out.trans (hb2.mono B1.out.size))
  have HSV := Lib.hid hsv; have HQ := Lib.hid hq
  have HLA := Lib.hid (ba_len a); have HLB := Lib.hid (ba_len b)
  have HIN : Hid (∀ x ∈ ws, x.at_ ≤ x.nx ∧ x.nx ≤ a.size) := by have := hin; rwa [HLA.out] at this
  have HWL : Hid (ws.length ≤ 1001) := by have := HLA.out; have := HSa.out; unfold Hid; omega
  have hbd := hsv.bound
  clear hPa hb2 hsv hq hin hwl B1 HAa
  obtain ⟨r, hr⟩ : ∃ r : Nat, turn % 4 = r := ⟨(turn % 4).toNat, by omega⟩
  have hr4 : r < 4 := by omega
  have hrI : (r : Int) < 4 := by omega
  have hr0 : (0 : Int) ≤ r := by omega
  have HP := Lib.hid (fun x => pick_any x turn 4 (by decide) (by decide))
  rw [hr] at HP
  obtain ⟨g, hg, hgap, hgs⟩ := gapB_at r hr4
  have HG := Lib.hid hgap; have HGs := Lib.hid hgs
  have hgc : (w2.alloc (.cells #[.string ⟨#[32]⟩, .string ⟨#[10]⟩, .string ⟨#[32, 35, 120, 10, 9]⟩, .string ⟨#[13, 10, 35, 10]⟩] 9)).cell? ⟨w2.heap.size, r, none⟩ = some (.string g) := ((hrow.new w2 gapB 9).cell r).trans hg
  clear hr hg hgap hgs
  go_wp2_with fail
  refine (HP.out _).mono ?_
  rintro e x ⟨rfl, rfl⟩
  go_upto_region 9 with (fail)
  have hbl := (Below.refl w2.heap.size w2).alloc (Nat.le_refl _) (.cells #[.string ⟨#[32]⟩, .string ⟨#[10]⟩, .string ⟨#[32, 35, 120, 10, 9]⟩, .string ⟨#[13, 10, 35, 10]⟩] 9)
  have HI : Hid (Sv (w2.alloc (.cells #[.string ⟨#[32]⟩, .string ⟨#[10]⟩, .string ⟨#[32, 35, 120, 10, 9]⟩, .string ⟨#[13, 10, 35, 10]⟩] 9)) ao ws.length cap 9 (ws.flatMap fun x => (wdD x).toList) ∧ Below w.heap.size w (w2.alloc (.cells #[.string ⟨#[32]⟩, .string ⟨#[10]⟩, .string ⟨#[32, 35, 120, 10, 9]⟩, .string ⟨#[13, 10, 35, 10]⟩] 9))) := ⟨HSV.out.below hbl, B2.out.trans (hbl.mono B2.out.size)⟩
  clear HP hgc hr4 hrI hr0 B2 HSV hbl
  generalize w2.alloc (.cells #[.string ⟨#[32]⟩, .string ⟨#[10]⟩, .string ⟨#[32, 35, 120, 10, 9]⟩, .string ⟨#[13, 10, 35, 10]⟩] 9) = w3 at *
  have HSP : Hid (∀ j, j ≤ ws.length → (tx (spr a.data.toList g.data.toList (ws.take j))).size ≤ j * 1005) := fun j hj => by
    rw [tx_size]
    have h := spr_len (l := a.data.toList) (g := g.data.toList) (B := 1000) (ws.take j) (fun x hx => by
      have := HIN.out x (List.mem_of_mem_take hx)
      have := HSa.out
      unfold wtx; rw [List.length_take, List.length_drop, HLA.out]; omega)
    have h2 : (ws.take j).length = j := by rw [List.length_take]; omega
    have h3 : g.data.toList.length ≤ 5 := by rw [ba_len]; exact HGs.out
    rw [h2] at h
    exact Nat.le_trans h (Nat.mul_le_mul_left _ (by omega))
  go_loopw [11, 12] (fun t11 t12 wr => ∃ j : Nat, j ≤ ws.length ∧ t11 = .string (tx (spr a.data.toList g.data.toList (ws.take j))) ∧ t12 = .int .i64 j ∧ Hid (Sv wr ao ws.length cap 9 (ws.flatMap fun x => (wdD x).toList) ∧ Below w.heap.size w wr)) (fun _ t12 _ => ws.length - (intOf t12).toNat)
  case atStart => exact ⟨0, Nat.zero_le _, rfl, by go_num, HI.out⟩
  case round =>
    clear HI
    obtain ⟨j, hj, rfl, rfl, HJ⟩ := hrel
    by_cases hlt : j < ws.length
    · have hltI : (j : Int) < ws.length := by omega
      have hst := spr_step a g ws j hlt
      obtain ⟨ca, rfl, hcc⟩ := Sv.at wdD_len HJ.out.1 (by decide) j hlt
      obtain ⟨i1, i2⟩ := HIN.out ws[j] (List.getElem_mem _)
      have hsz := HSP.out j hj
      have hgz := HGs.out
      have hw5 := HWL.out
      obtain ⟨d, hd⟩ : ∃ d, ws[j] = d := ⟨_, rfl⟩
      rw [hd] at hst hcc i1 i2
      have c1 := hcc 1 _ rfl
      have c2 := hcc 2 _ rfl
      rw [add_off _ _ _ (by decide)] at c1 c2
      generalize hX : tx (spr a.data.toList g.data.toList (ws.take j)) = T at *
      have HX := Lib.hid hX
      have hT : T.size ≤ 1100000 := by have : j * 1005 ≤ 1001 * 1005 := Nat.mul_le_mul_right _ (by omega); omega
      have hc1 : ¬ 9223372036854775807 < T.size + g.size := by omega
      have hc2 : ¬ 9223372036854775807 < T.size + g.size + (d.nx - d.at_) := by omega
      have j1 : (d.at_ : Int) ≤ d.nx := by omega
      have j2 : (d.nx : Int) ≤ a.size := by omega
      have HST := Lib.hid hst
      clear hst hX hd hcc hw5 hsz hgz
      go_upto_region 11 with (fail)
      refine wp_region_quiet_lit (by kernel_rfl) (by kernel_rfl) ?_
      repeat (go_big_quiet_step (fail))
      refine wpQuiet_nil ?_
      intro _ hw'
      obtain ⟨nq, hw''⟩ := hw'
      subst hw''
      go_wp2_with fail
      go_roundw
      case rel => exact ⟨j + 1, hlt, by rw [HST.out], by go_num, HJ.out.1.below (below_drewN (Below.refl _ _) _), HJ.out.2.trans (below_drewN (Below.refl _ _) _ |>.mono HJ.out.2.size)⟩
      case measure => first | (simp [intOf]; done) | (simp [intOf]; omega)
    · have hltI : ¬ (j : Int) < ws.length := by omega
      obtain rfl : j = ws.length := by omega
      rw [List.take_length]
      have HB3 := Lib.hid HJ.out.2
      obtain ⟨sp, hsp⟩ : ∃ sp, spr a.data.toList g.data.toList ws = sp := ⟨_, rfl⟩
      rw [hsp]
      have HSPR := Lib.hid hsp
      clear HJ hsp HSP HIN hj
      obtain ⟨⟨⟨R1, N1⟩, e1, a1⟩, hr1⟩ : ∃ y, readT a.data.toList = y := ⟨_, rfl⟩
      have HR1 := Lib.hid hr1
      have HT1 := Lib.hid (fun x => text_walk a x (by have := HSa.out; omega))
      clear hr1
      go_wp2_with fail
      refine (HT1.out _).mono ?_
      rintro e y hP1
      obtain ⟨ro, no, so, bo, co, rc, nc, sc, bc, cc, NK, rfl, hG1, -, -, -, hb⟩ := hP1.tree HR1.out (by have := HLA.out; have := HSa.out; omega)
      have HB4 := Lib.hid (HB3.out.trans (hb.mono HB3.out.size)); have HG1 := Lib.hid hG1
      clear hb hG1 hP1 HT1 HB3
      go_upto_region 13 with (fail)
      obtain ⟨g1, hg1⟩ : ∃ g, y.heap.size = g := ⟨_, rfl⟩
      obtain ⟨z, hz, hD1, zb⟩ := TrD.new (ao := so) (bo := bo) (co := co) (ac := sc) (bc := bc) (cc := cc) (e := e1) (a := a1) y hg1 HG1.out
      rw [hg1, hz]
      have HD1 := Lib.hid hD1
      have HB5 := Lib.hid (HB4.out.trans (zb.mono HB4.out.size))
      clear hz hg1 hD1 zb HG1 HB4
      have hqz : (q : Int) = 0 ∨ ¬ (q : Int) = 0 := by omega
      go_cut [79] from 73 to 78 (fun v wx => ∃ c : Bool, v = .bool c ∧ Hid (BlC c q sp) ∧ wx = z)
      case first =>
        by_cases hq0 : q = 0
        · have hq1 : ((q : Int) == 0) = true := by simp; omega
          by_cases hss : sp.length < 16384
          · have hs1 : ((tx sp).size : Int) < 16384 := by rw [tx_size]; omega
            have HC : Hid (BlC true q sp) := fun _ => ⟨hq0, hss⟩
            clear hss hqz hq0
            go_wp2_with fail
            go_meet
            exact ⟨true, rfl, HC, rfl⟩
          · have hs1 : ¬ ((tx sp).size : Int) < 16384 := by rw [tx_size]; omega
            have HC : Hid (BlC false q sp) := fun h => by cases h
            clear hss hqz hq0
            go_wp2_with fail
            go_meet
            exact ⟨false, rfl, HC, rfl⟩
        · have hq1 : ((q : Int) == 0) = false := by simp; omega
          have HC : Hid (BlC false q sp) := fun h => by cases h
          clear hq0 hqz
          go_wp2_with fail
          go_meet
          exact ⟨false, rfl, HC, rfl⟩
      case rest =>
        obtain ⟨c, rfl, HC, rfl⟩ := hcut
        clear hqz
        go_upto_if 79 with (fail)
        go_cut [15, 16] from 80 to 97 (fun _ _ wx => Hid (TrD g1 ro no so bo co rc nc sc bc cc NK R1 N1 e1 a1 wx ∧ Below w.heap.size w wx))
        case first =>
          cases c with
          | false =>
            go_wp2_with fail
            go_meet
            exact ⟨HD1.out, HB5.out⟩
          | true =>
            obtain ⟨hq0, hss⟩ := HC.out rfl
            obtain ⟨hw0, hws⟩ := HQ.out hq0
            obtain ⟨⟨⟨R2, N2⟩, e2, a2⟩, hr2⟩ : ∃ y, readT sp = y := ⟨_, rfl⟩
            have hsr := spread_read HG.out hw0
            rw [← hws, HSPR.out, hr2, HR1.out] at hsr
            simp only [] at hsr
            obtain ⟨he2, s2, s3⟩ := hsr
            subst he2
            have HR2 := Lib.hid hr2
            have HT2 := Lib.hid (fun x => text_walk (tx sp) x (by rw [tx_size]; omega))
            have HSS : Hid (sp.length ≤ 1000000) := by unfold Hid; omega
            have HlR : Hid (R2.length = R1.length) := by have := congrArg List.length s2; unfold Hid; simpa using this
            have HlN : Hid (N2.length = N1.length) := by have := congrArg List.length s3; unfold Hid; simpa using this
            have HRu := Lib.hid (ru_nb s2); have HNd := Lib.hid (nd_b0 s3)
            clear hq0 hss hw0 hws hr2 s2 s3 HQ HG HSPR HC
            go_wp2_with fail
            refine (HT2.out _).mono ?_
            rintro e y hP2
            obtain ⟨ro2, no2, so2, bo2, co2, rc2, nc2, sc2, bc2, cc2, NK2, rfl, hG2, -, -, -, hb⟩ := hP2.tree HR2.out HSS.out
            rw [HlR.out, HlN.out, HRu.out, HNd.out] at hG2
            rw [HlR.out, HlN.out]
            have HD2 := Lib.hid (HD1.out.below hb)
            have HB6 := Lib.hid (HB5.out.trans (hb.mono HB5.out.size)); have HG2 := Lib.hid hG2
            clear hb hG2 hP2 HT2 HB5 HD1
            go_upto_region 15 with (fail)
            obtain ⟨g2, hg2⟩ : ∃ g, y.heap.size = g := ⟨_, rfl⟩
            obtain ⟨z2, hz, z4, z5, zb⟩ := two_blocks y g2 hg2 #[.slice ro2 R1.length rc2, .slice no2 N1.length nc2, .slice so2 R1.length sc2, .slice bo2 N1.length bc2, .slice co2 N1.length cc2] #[.int .i64 e2, .int .i64 a2] 30 33
            rw [hg2, hz]
            have HD3 := Lib.hid (HD2.out.below zb)
            have HB7 := Lib.hid (HB6.out.trans (zb.mono HB6.out.size))
            have HG3 := Lib.hid (HG2.out.below zb)
            have k0 := HD3.out.tr.cell 0; have k1 := HD3.out.tr.cell 1; have d0 := HD3.out.dg.cell 0
            have m0 := z4.cell 0; have m1 := z4.cell 1; have f0 := z5.cell 0
            clear hz hg2 zb z4 z5 HG2 HB6 HD2
            go_wp2_with fail
            refine (sameGr_any z2 ro2 no2 ro no R1.length rc2 N1.length nc2 rc nc NK2 NK _ HG3.out HD3.out.gr).mono ?_
            rintro e w5 ⟨rfl, hb⟩
            have HD4 := Lib.hid (HD3.out.below hb)
            have HB8 := Lib.hid (HB7.out.trans (hb.mono HB7.out.size))
            clear hb k0 k1 d0 m0 m1 f0 HD3 HB7 HG3
            go_wp2_with fail
            go_meet
            exact ⟨HD4.out, HB8.out⟩
        case rest =>
          obtain ⟨hD, hB⟩ := hcut.out
          have HD5 := Lib.hid hD; have HB9 := Lib.hid hB
          clear hD hB HD1 HB5 HQ HG HC HSPR
          obtain ⟨⟨⟨R3, N3⟩, e3, a3⟩, hr3⟩ : ∃ y, readT b.data.toList = y := ⟨_, rfl⟩
          have HR3 := Lib.hid hr3
          have HT3 := Lib.hid (fun x => text_walk b x (by have := HSb.out; omega))
          clear hr3
          go_wp2_with fail
          refine (HT3.out _).mono ?_
          rintro e y hP3
          obtain ⟨ro3, no3, so3, bo3, co3, rc3, nc3, sc3, bc3, cc3, NK3, rfl, hG3, -, -, -, hb⟩ := hP3.tree HR3.out (by have := HLB.out; have := HSb.out; omega)
          have HD6 := Lib.hid (HD5.out.below hb)
          have HB10 := Lib.hid (HB9.out.trans (hb.mono HB9.out.size)); have HG3 := Lib.hid hG3
          clear hb hG3 hP3 HT3 HB9 HD5 hcut
          go_upto_region 18 with (fail)
          obtain ⟨g3, hg3⟩ : ∃ g, y.heap.size = g := ⟨_, rfl⟩
          obtain ⟨z3, hz, hD3, zb⟩ := TrD.new (ao := so3) (bo := bo3) (co := co3) (ac := sc3) (bc := bc3) (cc := cc3) (e := e3) (a := a3) y hg3 HG3.out
          rw [hg3, hz]
          have HD7 := Lib.hid hD3
          have HD8 := Lib.hid (HD6.out.below zb)
          have HB11 := Lib.hid (HB10.out.trans (zb.mono HB10.out.size))
          clear hz hg3 hD3 zb HG3 HB10 HD6
          have d0 := HD8.out.dg.cell 0; have f0 := HD7.out.dg.cell 0
          by_cases he1 : e1 = 0
          · by_cases he3 : e3 = 0
            · subst he1 he3
              obtain ⟨R4, N4, hr4, hRn, hNl⟩ := join_read HR1.out HR3.out
              have HYB : Hid (∀ r ∈ R3, r.body < N3.length) := (preorder HR3.out).2.2.2.1
              have HR4 := Lib.hid hr4; have HRN := Lib.hid hRn
              have hRl : R4.length = R1.length + R3.length := by have := congrArg List.length hRn; simpa using this
              have hb1 := readT_nb (l := a.data.toList)
              have hb3 := readT_nb (l := b.data.toList)
              rw [HR1.out, HLA.out] at hb1
              rw [HR3.out, HLB.out] at hb3
              simp only [] at hb1 hb3
              have HLn : Hid (R4.length = R1.length + R3.length ∧ N4.length = N1.length + N3.length) := ⟨hRl, hNl⟩
              have hab : (a ++ (⟨#[10]⟩ : ByteArray) ++ b).data.toList = a.data.toList ++ (10 :: b.data.toList) := by rw [ba_data, ba_data]; simp
              have HAB := Lib.hid hab
              have HT4 := Lib.hid (fun x => text_walk (a ++ (⟨#[10]⟩ : ByteArray) ++ b) x (by rw [ByteArray.size_append, ByteArray.size_append]; have e : (⟨#[10]⟩ : ByteArray).size = 1 := rfl; have := HSa.out; have := HSb.out; omega))
              have hc1 : ¬ 9223372036854775807 < a.size + 1 := by omega
              have hc2 : ¬ 9223372036854775807 < a.size + 1 + b.size := by omega
              have hn1 : (R1.length : Int) ≤ 1001 := by have := HSa.out; omega
              have hn3 : (R3.length : Int) ≤ 1001 := by have := HSb.out; omega
              have hm1 : (N1.length : Int) ≤ 2002 := by have := HSa.out; omega
              have hm3 : (N3.length : Int) ≤ 2002 := by have := HSb.out; omega
              clear hr4 hRn hRl hNl hab hb1 hb3
              go_wp2_with fail
              refine (HT4.out _).mono ?_
              rintro e y hP4
              have hr4 : readT (a ++ (⟨#[10]⟩ : ByteArray) ++ b).data.toList = ((R4, N4), 0, 0) := by rw [HAB.out]; exact HR4.out
              obtain ⟨ro4, no4, so4, bo4, co4, rc4, nc4, sc4, bc4, cc4, NK4, rfl, hG4, -, -, -, hb⟩ := hP4.tree hr4 (by rw [ba_len, ByteArray.size_append, ByteArray.size_append]; have e : (⟨#[10]⟩ : ByteArray).size = 1 := rfl; have := HSa.out; have := HSb.out; omega)
              rw [HLn.out.1, HLn.out.2] at hG4
              rw [HLn.out.1, HLn.out.2]
              have HD9 := Lib.hid (HD8.out.below hb); have HD10 := Lib.hid (HD7.out.below hb); have HG4 := Lib.hid hG4
              have HB12 := Lib.hid (HB11.out.trans (hb.mono HB11.out.size))
              clear hr4 hb hG4 hP4 HT4 HB11 HD7 HD8 d0 f0 hc1 hc2
              go_upto_region 21 with (fail)
              obtain ⟨g5, hg5⟩ : ∃ g, y.heap.size = g := ⟨_, rfl⟩
              obtain ⟨z5, hz, z6, z7, zb⟩ := two_blocks y g5 hg5 #[.slice ro4 (R1.length + R3.length) rc4, .slice no4 (N1.length + N3.length) nc4, .slice so4 (R1.length + R3.length) sc4, .slice bo4 (N1.length + N3.length) bc4, .slice co4 (N1.length + N3.length) cc4] #[.int .i64 0, .int .i64 0] 30 33
              rw [hg5]
              rw [hz]
              have HJ : Hid (JnI g1 g3 g5 #[.slice ro R1.length rc, .slice no N1.length nc, .slice so R1.length sc, .slice bo N1.length bc, .slice co N1.length cc] #[.slice ro3 R3.length rc3, .slice no3 N3.length nc3, .slice so3 R3.length sc3, .slice bo3 N3.length bc3, .slice co3 N3.length cc3]
                  #[.slice ro4 (R1.length + R3.length) rc4, .slice no4 (N1.length + N3.length) nc4, .slice so4 (R1.length + R3.length) sc4, .slice bo4 (N1.length + N3.length) bc4, .slice co4 (N1.length + N3.length) cc4]
                  ro ro3 ro4 R1.length rc R3.length rc3 (R1.length + R3.length) rc4 (R1.map Rr.ru) (R3.map Rr.ru) (R4.map Rr.ru) w z5) :=
                ⟨HD9.out.tr.below zb, HD10.out.tr.below zb, z6, HD9.out.gr.rul.below zb, HD10.out.gr.rul.below zb, HG4.out.rul.below zb, HB12.out.trans (zb.mono HB12.out.size)⟩
              have HZ7 := Lib.hid z7
              have b1 := HD9.out.gr.rul.bound; have b2 := HD9.out.gr.nod.sv.bound; have b3 := HD10.out.gr.rul.bound; have b4 := HD10.out.gr.nod.sv.bound; have b5 := HG4.out.rul.bound; have b6 := HG4.out.nod.sv.bound
              clear hz hg5 zb z6 z7 HG4 HB12 HD9 HD10
              have k0 := HJ.out.t1.cell 0; have k1 := HJ.out.t1.cell 1
              have m0 := HJ.out.t3.cell 0; have m1 := HJ.out.t3.cell 1
              have q0 := HJ.out.t5.cell 0; have q1 := HJ.out.t5.cell 1
              have x0 := HZ7.out.cell 0
              refine wp_region_quiet_lit (by kernel_rfl) (by kernel_rfl) ?_
              repeat (go_big_quiet_step (fail))
              refine wpQuiet_nil ?_
              intro _ hw'
              obtain ⟨nq, hw''⟩ := hw'
              subst hw''
              go_upto_region 25 with (fail)
              have HJ2 := Lib.hid (HJ.out.below (below_drewN (Below.refl _ _) nq))
              clear k0 k1 m0 m1 q0 q1 x0 HJ HZ7
              go_loopw [23, 24] (fun t23 _ wr => ∃ i : Nat, i ≤ R1.length + R3.length ∧ t23 = .int .i64 i ∧ Hid (JnI g1 g3 g5 #[.slice ro R1.length rc, .slice no N1.length nc, .slice so R1.length sc, .slice bo N1.length bc, .slice co N1.length cc] #[.slice ro3 R3.length rc3, .slice no3 N3.length nc3, .slice so3 R3.length sc3, .slice bo3 N3.length bc3, .slice co3 N3.length cc3] #[.slice ro4 (R1.length + R3.length) rc4, .slice no4 (N1.length + N3.length) nc4, .slice so4 (R1.length + R3.length) sc4, .slice bo4 (N1.length + N3.length) bc4, .slice co4 (N1.length + N3.length) cc4] ro ro3 ro4 R1.length rc R3.length rc3 (R1.length + R3.length) rc4 (R1.map Rr.ru) (R3.map Rr.ru) (R4.map Rr.ru) w wr)) (fun t23 _ _ => R1.length + R3.length - (intOf t23).toNat)
              case atStart => exact ⟨0, Nat.zero_le _, by go_num, HJ2.out⟩
              case round =>
                clear HJ2
                obtain ⟨i, hi, rfl, HI⟩ := hrel
                by_cases hlt : i < R1.length + R3.length
                · have hltI : (i : Int) < (R1.length : Int) + R3.length := by omega
                  have h4 : i < R4.length := by rw [HLn.out.1]; exact hlt
                  obtain ⟨p4, rfl, c40, c41⟩ := HI.out.s4.ru2 (k := i) (by simpa using h4)
                  simp only [List.getElem_map, Rr.ru] at c40 c41
                  have HC0 := Lib.hid c40; have HC1 := Lib.hid c41
                  clear c40 c41
                  have q0 := HI.out.t5.cell 0
                  go_upto_region 28 with (fail)
                  have hbl := (Below.refl wr.heap.size wr).alloc (Nat.le_refl _) (.cells #[.string ⟨#[]⟩, .int .i64 0] 48)
                  have HI2 := Lib.hid (HI.out.below hbl)
                  clear q0
                  by_cases hf : i < R1.length
                  · have hfI : (i : Int) < R1.length := by omega
                    obtain ⟨j1, j2⟩ := join_at1 HRN.out hf h4
                    obtain ⟨p1, rfl, c10, c11⟩ := HI2.out.s1.ru2 (k := i) (by simpa using hf)
                    simp only [List.getElem_map, Rr.ru] at c10 c11
                    have k1 := HI2.out.t1.cell 0
                    obtain ⟨Y, hY⟩ : ∃ Y, R1[i] = Y := ⟨_, rfl⟩
                    rw [hY] at c10 c11 j1 j2
                    have J1 := Lib.hid j1; have J2 := Lib.hid j2
                    clear hY j1 j2 hf
                    go_upto_region 32 with (fail)
                    have hbl3 := (Below.refl wr.heap.size wr).alloc (Nat.le_refl _) (.cells #[.string (tx Y.nm), .int .i64 Y.body] 48)
                    have HI3 := Lib.hid (HI.out.below hbl3)
                    have HN := Lib.hid (hrow.new wr #[.string (tx Y.nm), .int .i64 Y.body] 48)
                    have d0 := HC0.out; have d1 := HC1.out
                    rw [J1.out] at d0
                    rw [J2.out] at d1
                    have d2 := (hbl3.cell (World.block_lt_of_cell? wr _ d0)).trans d0; have d3 := (hbl3.cell (World.block_lt_of_cell? wr _ d1)).trans d1
                    have D2 := Lib.hid d2; have D3 := Lib.hid d3
                    clear hbl3 d0 d1 d2 d3 c10 c11 k1 HI2 HI HC0 HC1 J1 J2
                    generalize wr.alloc (.cells #[.string (tx Y.nm), .int .i64 Y.body] 48) = wx at *
                    generalize wr.heap.size = gg at *
                    have HP4 := Lib.hid (later_all (rule_later D2.out D3.out))
                    have HPN := Lib.hid (later_all (rule_later (p := ⟨gg, 0, none⟩) (HN.out.cell 0) (HN.out.cell 1)))
                    have q0 : ∀ x : Later wx, x.val.cell? ⟨g5, 0, none⟩ = some (.slice (some p4) (R1.length + R3.length) rc4) := fun x => (HI3.out.t5.below x.ok).cell 0
                    refine wp_region_later (by kernel_rfl) (by kernel_rfl) ?_
                    repeat (first | go_big_quiet_step (fail) | (refine wpQuiet_load_part rfl 48 (.tmp 191) rfl (p4.add (i * 2)) rfl _ HP4.out ?_; simp only [Act.put, List.setIfInBounds_toArray, List.set_cons_succ, List.set_cons_zero]) | (refine wpQuiet_load_part rfl 48 (.tmp 24) rfl ⟨gg, 0, none⟩ rfl _ HPN.out ?_; simp only [Act.put, List.setIfInBounds_toArray, List.set_cons_succ, List.set_cons_zero]))
                    refine wpQuiet_nil ?_
                    intro w5 hw5
                    obtain ⟨y, rfl⟩ := hw5
                    have HI5 := Lib.hid (HI3.out.below y.ok)
                    clear HI3 HP4 HPN q0 HN D2 D3
                    generalize y.val = w6 at *
                    clear y
                    go_wp2_with fail
                    go_roundw
                    case rel => exact ⟨i + 1, by omega, by go_num, HI5.out⟩
                    case measure => simp [intOf]; omega
                  · have hfI : ¬ (i : Int) < R1.length := by omega
                    obtain ⟨k, rfl⟩ : ∃ k, i = R1.length + k := ⟨i - R1.length, by omega⟩
                    have hk : k < R3.length := by omega
                    obtain ⟨j1, j2⟩ := join_at3 HRN.out hk h4
                    obtain ⟨p3, rfl, c30, c31⟩ := HI2.out.s3.ru2 (k := k) (by simpa using hk)
                    simp only [List.getElem_map, Rr.ru] at c30 c31
                    have m1 := HI2.out.t3.cell 0
                    have hkI : (k : Int) < R3.length := by omega
                    have hyb := HYB.out R3[k] (List.getElem_mem _)
                    obtain ⟨Y, hY⟩ : ∃ Y, R3[k] = Y := ⟨_, rfl⟩
                    rw [hY] at c30 c31 j1 j2 hyb
                    have hYI : (Y.body : Int) ≤ 2002 := by omega
                    have J1 := Lib.hid j1; have J2 := Lib.hid j2
                    clear hY j1 j2 hk hyb
                    go_upto_region 32 with (fail)
                    have hbl3 := (Below.refl wr.heap.size wr).alloc (Nat.le_refl _) (.cells #[.string (tx Y.nm), .int .i64 ((Y.body : Int) + N1.length)] 48)
                    have HI3 := Lib.hid (HI.out.below hbl3)
                    have HN := Lib.hid (hrow.new wr #[.string (tx Y.nm), .int .i64 ((Y.body : Int) + N1.length)] 48)
                    have d0 := HC0.out; have d1 := HC1.out
                    rw [J1.out] at d0
                    rw [J2.out, Int.natCast_add] at d1
                    have d2 := (hbl3.cell (World.block_lt_of_cell? wr _ d0)).trans d0; have d3 := (hbl3.cell (World.block_lt_of_cell? wr _ d1)).trans d1
                    have D2 := Lib.hid d2; have D3 := Lib.hid d3
                    clear hbl3 d0 d1 d2 d3 c30 c31 m1 HI2 HI HC0 HC1 J1 J2
                    generalize wr.alloc (.cells #[.string (tx Y.nm), .int .i64 ((Y.body : Int) + N1.length)] 48) = wx at *
                    generalize wr.heap.size = gg at *
                    have HP4 := Lib.hid (later_all (rule_later D2.out D3.out))
                    have HPN := Lib.hid (later_all (rule_later (p := ⟨gg, 0, none⟩) (HN.out.cell 0) (HN.out.cell 1)))
                    have q0 : ∀ x : Later wx, x.val.cell? ⟨g5, 0, none⟩ = some (.slice (some p4) (R1.length + R3.length) rc4) := fun x => (HI3.out.t5.below x.ok).cell 0
                    refine wp_region_later (by kernel_rfl) (by kernel_rfl) ?_
                    repeat (first | go_big_quiet_step (fail) | (refine wpQuiet_load_part rfl 48 (.tmp 191) rfl (p4.add ((R1.length + k) * 2)) rfl _ HP4.out ?_; simp only [Act.put, List.setIfInBounds_toArray, List.set_cons_succ, List.set_cons_zero]) | (refine wpQuiet_load_part rfl 48 (.tmp 24) rfl ⟨gg, 0, none⟩ rfl _ HPN.out ?_; simp only [Act.put, List.setIfInBounds_toArray, List.set_cons_succ, List.set_cons_zero]))
                    refine wpQuiet_nil ?_
                    intro w5 hw5
                    obtain ⟨y, rfl⟩ := hw5
                    have HI5 := Lib.hid (HI3.out.below y.ok)
                    clear HI3 HP4 HPN q0 HN D2 D3
                    generalize y.val = w6 at *
                    clear y
                    go_wp2_with fail
                    go_roundw
                    case rel => exact ⟨R1.length + k + 1, by omega, by go_num, HI5.out⟩
                    case measure => simp [intOf]; omega
                · have hltI : ¬ (i : Int) < (R1.length : Int) + R3.length := by omega
                  have HBF := Lib.hid HI.out.bl
                  have q0 := HI.out.t5.cell 0
                  clear HI
                  go_wp2_with fail
                  go_ret
                  exact ⟨rfl, HBF.out⟩
            · have h3 : ((e3 : Int) == 0) = false := by simp; omega
              have h3' : ¬ (e3 : Int) = 0 := by omega
              subst he1
              clear he3
              go_wp2_with fail
              go_ret
              exact ⟨rfl, HB11.out⟩
          · have h3 : ((e1 : Int) == 0) = false := by simp; omega
            have h3' : ¬ (e1 : Int) = 0 := by omega
            clear he1
            go_wp2_with fail
            go_ret
            exact ⟨rfl, HB11.out⟩
end Go.Proofs.YthfefbmkgebmkaaGreatDoor
