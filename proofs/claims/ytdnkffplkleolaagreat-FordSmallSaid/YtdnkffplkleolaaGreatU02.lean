/- Walks and plain laws: Lr. -/
import Derived.Test.YtdnkffplkleolaaGreatT04
import Derived.Test.YtdnkffplkleolaaGreatU01
import Derived.BigRegion
namespace Go.Proofs.YtdnkffplkleolaaGreat
open Go.RowKit

/-- A grammar without great numbers. -/
def fewG (G : Gr) : Prop := okG G ∧ (∀ x ∈ G.nodes, (0 ≤ x.c0 ∧ x.c0 < 2 ^ 64) ∧ (0 ≤ x.c1 ∧ x.c1 < 2 ^ 64) ∧ (0 ≤ x.c2 ∧ x.c2 < 2 ^ 64) ∧ (0 ≤ x.c3 ∧ x.c3 < 2 ^ 64)) ∧ (1 ≤ G.rules.length ∧ G.rules.length ≤ 100) ∧ G.nodes.length ≤ 1000 ∧ ∀ x ∈ G.nodes, x.kids.length ≤ 1000
theorem known_any (w : World) (n : Nat) (h : n < 12) : ∃ G, fewG G ∧ Calls Tryz.prog 18 #[.int .i64 n] w (Gk w G) := by
  have hc : n = 0 ∨ n = 1 ∨ n = 2 ∨ n = 3 ∨ n = 4 ∨ n = 5 ∨ n = 6 ∨ n = 7 ∨ n = 8 ∨ n = 9 ∨ n = 10 ∨ n = 11 := by omega
  rcases hc with rfl | rfl | rfl | rfl | rfl | rfl | rfl | rfl | rfl | rfl | rfl | rfl
  · exact ⟨knG0, by unfold fewG okG; decide +kernel, known_0 w _ rfl⟩
  · exact ⟨knG1, by unfold fewG okG; decide +kernel, known_1 w _ rfl⟩
  · exact ⟨knG2, by unfold fewG okG; decide +kernel, known_2 w _ rfl⟩
  · exact ⟨knG3, by unfold fewG okG; decide +kernel, known_3 w _ rfl⟩
  · exact ⟨knG4, by unfold fewG okG; decide +kernel, known_4 w _ rfl⟩
  · exact ⟨knG5, by unfold fewG okG; decide +kernel, known_5 w _ rfl⟩
  · exact ⟨knG6, by unfold fewG okG; decide +kernel, known_6 w _ rfl⟩
  · exact ⟨knG7, by unfold fewG okG; decide +kernel, known_7 w _ rfl⟩
  · exact ⟨knG8, by unfold fewG okG; decide +kernel, known_8 w _ rfl⟩
  · exact ⟨knG9, by unfold fewG okG; decide +kernel, known_9 w _ rfl⟩
  · exact ⟨knG10, by unfold fewG okG; decide +kernel, known_10 w _ rfl⟩
  · exact ⟨knG11, by unfold fewG okG; decide +kernel, known_11 w _ rfl⟩
/-- The law FordTells, of a grammar of the call's own. -/
theorem tells_own (w : World) {B : Nat} {ro no : Option Addr} {rn rc nn nc : Nat} {NL : List (Nd × (Option Addr × Nat))} {G : Gr} (h : Og B w ro rn rc no nn nc NL G) (hf : fewG G) (wo : Option Addr) (wn wc : Nat) (W : List Nat) (hW : InW w wo wn wc W) (rule place : Int) :
    Calls Tryz.prog 3 #[.agg #[.slice ro rn rc, .slice no nn nc], .slice wo wn wc, .int .i64 rule, .int .i64 place] w fun r w' => r = .returned (.bool true) ∧ Below w.heap.size w w' := by
  obtain ⟨h1, h2, h3, h4, h5⟩ := hf
  have hg := h.gr h1
  have hrl := hg.rul.n_eq ruc_len (by decide)
  have hnl : nn = G.nodes.length := by rw [h.len, ← h.eq]; simp
  exact tells_any w ro rn rc no nn nc NL G hg wo wn wc W hW (clsOk_of h2) mkI mbI (Lib.hid mark_all) (Lib.hid markRu_all) (Lib.hid markNo_all) (Lib.hid markBy_any) (Lib.hid markTw_all) rule place (by omega) (by omega) (fun p hp => by
    have := h5 p.1 (by rw [← h.eq]; exact List.mem_map_of_mem hp); omega)

theorem inw_zero {w : World} {B g n : Nat} (h : w.ownsRow B 5 1 (.slice (some ⟨g, 0, none⟩) n n) n (madeCells (Value.int .u8 0).cells (n * 1)).toList) : InW w (some ⟨g, 0, none⟩) n n (List.replicate n 0) := by
  obtain ⟨o, c, e, hs⟩ := Sv.of_owns h
  simp only [Value.slice.injEq, true_and] at e
  obtain ⟨rfl, rfl⟩ := e
  refine ⟨?_, fun b hb => by have := (List.mem_replicate.1 hb).2; omega⟩
  have e2 : (madeCells (Value.int .u8 0).cells (n * 1)).toList = bys (List.replicate n 0) := by
    rw [Nat.mul_one]
    show (madeCells #[Value.int .u8 0] n).toList = _
    rw [toList_madeCells_one]
    simp [bys]
  rw [e2] at hs
  exact hs
theorem inw_tail {w : World} {g n c : Nat} {W : List Nat} (h : InW w (some ⟨g, 0, none⟩) (n + 1) (c + 1) W) : InW w (some ⟨g, 1, none⟩) n c (W.drop 1) := by
  have hl := h.len
  refine ⟨⟨by simp [bys]; omega, by have := h.sv.le; omega, by have := h.sv.cm; simp only [maxLen] at this ⊢; omega, (fun h => nomatch h), fun j hj => ⟨_, rfl, ?_⟩⟩, fun b hb => h.byt b (List.mem_of_mem_drop hb)⟩
  simp only [bys, List.length_map, List.length_drop] at hj
  obtain ⟨a, ha, hc⟩ := h.sv.cell (1 + j) (by simp [bys]; omega)
  cases ha
  have e : (⟨g, 1, none⟩ : Addr).add j = (⟨g, 0, none⟩ : Addr).add (1 + j) := by unfold Addr.add; by_cases hj0 : j = 0 <;> simp [hj0]
  rw [e, hc]
  simp [bys, Nat.add_comm 1 j]
section
variable (w : World) (ro : Option Addr) (rn rc : Nat) (no : Option Addr) (nn nc : Nat) (NK : List (Nd × (Option Addr × Nat)))
theorem exL (h : GrW w ro rn rc no nn nc NK exG) (wo : Option Addr) (wc : Nat) (hW : InW w wo 2049 wc (List.replicate 2049 0)) : Calls Tryz.prog 11 #[.agg #[.slice ro rn rc, .slice no nn nc], .slice wo 2049 wc, .int .i64 (-1), .int .i64 0] w fun e w' =>
    ∃ ao cap, e = .returned (.tuple #[.agg #[.bool false, .int .i64 0, .int .i64 0, .slice ao 0 cap], .int .i64 3]) ∧ Below w.heap.size w w' := by
  have := pMatch_any w ro rn rc no nn nc NK exG h wo 2049 wc _ hW exCl (-1) 0 (fun h => absurd h (by omega))
  have e : outW exG (List.replicate 2049 0) (-1) 0 = otE 3 := by
    have hr : rightR exG = true := by kernel_rfl
    unfold outW; rw [hr, if_neg (by decide), if_pos (by rw [List.length_replicate]; decide)]
  rw [e] at this
  refine this.mono ?_
  rintro e w' ⟨ao, cap, rfl, ho⟩
  exact ⟨ao, cap, rfl, ho.2⟩
theorem exT (h : GrW w ro rn rc no nn nc NK exG) (wo : Option Addr) (wc : Nat) (hW : InW w wo 2048 wc ((List.replicate 2049 0).drop 1)) : Calls Tryz.prog 12 #[.agg #[.slice ro rn rc, .slice no nn nc], .slice wo 2048 wc, .int .i64 0, .int .i64 2048] w fun e w' =>
    e = .returned (.tuple #[.int .i64 2, .int .i64 0]) ∧ Below w.heap.size w w' := by
  have hs : Short exG 2048 ((List.replicate 2049 0).drop 1) 0 2048 := short_of (rule := 0) (place := 2048) (by kernel_rfl)
  have := pCells_any w ro rn rc no nn nc NK exG h wo 2048 wc _ hW exCl 0 2048 (fun _ => hs)
  have e1 : cellN (outW exG ((List.replicate 2049 0).drop 1) 0 2048) = 2 := by kernel_rfl
  have e2 : (outW exG ((List.replicate 2049 0).drop 1) 0 2048).e = 0 := by kernel_rfl
  rw [e1, e2] at this
  exact this
end
theorem exE (w : World) (wo : Option Addr) (wc : Nat) (hW : InW w wo 2049 wc (List.replicate 2049 0)) : Calls Tryz.prog 12 #[.agg #[.slice none 0 0, .slice none 0 0], .slice wo 2049 wc, .int .i64 (-1), .int .i64 0] w fun e w' =>
    e = .returned (.tuple #[.int .i64 0, .int .i64 4]) ∧ Below w.heap.size w w' := by
  have hg : GrW w none 0 0 none 0 0 [] ⟨[], []⟩ := ⟨Sv.nil w 2, by simp, ⟨Sv.nil w 9, by simp, by simp⟩, rfl⟩
  have := pCells_any w none 0 0 none 0 0 [] ⟨[], []⟩ hg wo 2049 wc _ hW (clsOk_of (by simp)) (-1) 0 (fun h => absurd h (by omega))
  have e : outW ⟨[], []⟩ (List.replicate 2049 0) (-1) 0 = otE 4 := by
    have hr : rightR ⟨[], []⟩ = false := by kernel_rfl
    unfold outW; rw [if_pos hr]
  rw [e] at this
  exact this

set_option maxRecDepth 100000 in
set_option maxHeartbeats 8000000 in
theorem small_any (w : World) : Calls Tryz.prog 4 #[] w fun r w' => r = .returned (.bool true) ∧ Below w.heap.size w w' := by
  have kc := fun (w : World) (C : Array Value) (n c : Nat) => Lib.run_convert_bytes_const (P := Tryz.prog) w 26 5 C n c Tryz.underlying26 Tryz.underlying5
  have B0 := Lib.hid (Below.refl w.heap.size w)
  go_enter Tryz.func4, Tryz.ntmps4
  go_wp2_with fail
  go_loopw [1] (fun i wr => ∃ k : Nat, k ≤ 12 ∧ i = .int .i64 k ∧ Hid (Below w.heap.size w wr)) (fun i _ => 12 - (intOf i).toNat)
  case atStart => exact ⟨0, by omega, rfl, B0⟩
  case round =>
    obtain ⟨k, hk, rfl, B1⟩ := hrel
    clear B0
    by_cases hlt : k < 12
    · have hlt' : (k : Int) < 12 := by omega
      obtain ⟨G, hG, hC⟩ := known_any wr k hlt
      have HG := Lib.hid hG
      have HC := Lib.hid hC
      clear hG hC
      go_wp2_with fail
      refine (HC.out).mono ?_
      rintro e w2 ⟨ro, rn, rc, no, nn, nc, NL, rfl, hg, hb⟩
      have B2 := Lib.hid (B1.out.trans (hb.mono B1.out.size))
      have GG := Lib.hid (hg.mono B1.out.size)
      clear hg hb HC B1
      go_upto_region 5 with (fail)
      have hb : Below w2.heap.size w2 (w2.alloc (.cells #[.slice ro rn rc, .slice no nn nc] 25)) := (Below.refl _ _).alloc (Nat.le_refl _) _
      have OO := Lib.hid (hrow.new w2 #[.slice ro rn rc, .slice no nn nc] 25)
      have GG := Lib.hid (GG.out.below hb)
      have B3 := Lib.hid (B2.out.trans (hb.mono B2.out.size))
      clear hb B2
      generalize w2.alloc _ = w3 at *
      generalize w2.heap.size = g2 at *
      have hrl : 1 ≤ rn ∧ rn ≤ 100 := by have h1 := HG.out.2.2.1; have h2 := (GG.out.gr HG.out.1).rul.n_eq ruc_len (by decide); omega
      go_wp2_with fail
      go_loopw [3] (fun j wi => ∃ m : Nat, m ≤ 256 ∧ j = .int .i64 m ∧ Hid (Below w3.heap.size w3 wi)) (fun j _ => 256 - (intOf j).toNat)
      case atStart => exact ⟨0, by omega, rfl, Below.refl _ _⟩
      case round =>
        obtain ⟨m, hm, rfl, HB⟩ := hrel
        by_cases hml : m < 256
        · have hml' : (m : Int) < 256 := by omega
          have q1 : 0 ≤ (m : Int) % 4 ∧ (m : Int) % 4 < 4 := by omega
          have q2 : 0 ≤ (m : Int) / 4 % 4 ∧ (m : Int) / 4 % 4 < 4 := by omega
          have q3 : 0 ≤ (m : Int) / 16 % 4 ∧ (m : Int) / 16 % 4 < 4 := by omega
          have q4 : 0 ≤ (m : Int) / 64 % 4 ∧ (m : Int) / 64 % 4 < 4 := by omega
          go_upto_region 8 with (fail)
          go_region
          generalize (⟨#[97, 98, 43, 42]⟩ : ByteArray)[m % 4]'_ = b0
          generalize (⟨#[97, 98, 43, 42]⟩ : ByteArray)[m / 4 % 4]'_ = b1
          generalize (⟨#[97, 98, 43, 42]⟩ : ByteArray)[m / 16 % 4]'_ = b2
          generalize (⟨#[97, 98, 43, 42]⟩ : ByteArray)[m / 64 % 4]'_ = b3
          clear q1 q2 q3 q4
          have hb : Below wr.heap.size wr (wr.alloc (.cells #[.int .u8 (b0.toNat : Int), .int .u8 (b1.toNat : Int), .int .u8 (b2.toNat : Int), .int .u8 (b3.toNat : Int)] 5)).drew := ((Below.refl _ _).alloc (Nat.le_refl _) _).drew
          have WW : Hid (InW (wr.alloc (.cells #[.int .u8 (b0.toNat : Int), .int .u8 (b1.toNat : Int), .int .u8 (b2.toNat : Int), .int .u8 (b3.toNat : Int)] 5)).drew (some ⟨wr.heap.size, 0, none⟩) 4 4 [b0.toNat, b1.toNat, b2.toNat, b3.toNat]) := ⟨(Sv.lit wr 5 #[.int .u8 (b0.toNat : Int), .int .u8 (b1.toNat : Int), .int .u8 (b2.toNat : Int), .int .u8 (b3.toNat : Int)] 4 1 (by decide) rfl).below (Below.refl _ _).drew, by
            intro b hb
            simp only [List.mem_cons, List.not_mem_nil, or_false] at hb
            rcases hb with rfl | rfl | rfl | rfl <;> exact UInt8.toNat_lt _⟩
          have HB4 := Lib.hid (HB.out.trans (hb.mono HB.out.size))
          clear hb HB
          generalize (wr.alloc _).drew = w4 at *
          generalize wr.heap.size = gw at *
          generalize [b0.toNat, b1.toNat, b2.toNat, b3.toNat] = bs at *
          have OO4 := Lib.hid (OO.out.below HB4.out)
          have HT := Lib.hid (fun (y : Later w4) (rule place : Int) => tells_own y.val ((GG.out.below HB4.out).below y.ok) HG.out (some ⟨gw, 0, none⟩) 4 4 bs (WW.out.below y.ok) rule place)
          have later : ∀ (p : Addr) (v : Value), w4.cell? p = some v → ∀ y : Later w4, y.val.cell? p = some v := fun p v h y => (y.ok.cell (World.block_lt_of_cell? w4 _ h)).trans h
          have a0 := later _ _ (OO4.out.cell 0)
          have a1 := later _ _ (OO4.out.cell 1)
          clear later WW OO4
          go_upto_region 9 with (fail)
          refine wp_region_later (by kernel_rfl) (by kernel_rfl) ?_
          repeat (go_big_quiet_step ((go_at_call 3; exact Calls.later (HT.out _ _ _))))
          refine wpQuiet_nil ?_
          intro w5 hw5
          obtain ⟨y, rfl⟩ := hw5
          have HB5 := Lib.hid (HB4.out.trans (y.ok.mono HB4.out.size))
          clear a0 a1 HT HB4
          generalize y.val = w5 at *
          go_wp2_with fail
          go_roundw
          case rel => exact ⟨m + 1, by omega, by go_num, HB5⟩
          case measure => simp [intOf]; omega
        · have hme : (256 : Int) ≤ m := by omega
          clear hrl
          go_wp2_with fail
          go_loopw [5] (fun j wi => ∃ m : Nat, m ≤ 6 ∧ j = .int .i64 ((m : Int) - 1) ∧ Hid (Below w3.heap.size w3 wi)) (fun j _ => 6 - (intOf j + 1).toNat)
          case atStart => exact ⟨0, by omega, rfl, HB⟩
          case round =>
            obtain ⟨m2, hm2, rfl, HC⟩ := hrel
            by_cases hml2 : m2 < 6
            · have hml2' : (m2 : Int) - 1 < 5 := by omega
              obtain ⟨c0, c1⟩ := (OO.out.below HC.out).c2
              go_wp2_with fail
              have hb : Below wr.heap.size wr (wr.alloc (.cells #[.int .u8 97, .int .u8 97, .int .u8 98] 5 (3, 4))) := (Below.refl _ _).alloc (Nat.le_refl _) _
              have WW : Hid (InW (wr.alloc (.cells #[.int .u8 97, .int .u8 97, .int .u8 98] 5 (3, 4))) (some ⟨wr.heap.size, 0, none⟩) 3 3 [97, 97, 98]) := ⟨Sv.const wr 5 #[.int .u8 97, .int .u8 97, .int .u8 98] (3, 4) 3 (by unfold maxLen; omega) rfl, by decide⟩
              have HC := Lib.hid (HC.out.trans (hb.mono HC.out.size))
              clear hb
              generalize wr.alloc (.cells #[.int .u8 97, .int .u8 97, .int .u8 98] 5 (3, 4)) = y1 at *
              generalize (⟨wr.heap.size, 0, none⟩ : Addr) = wa1 at *
              refine (tells_own y1 (GG.out.below HC.out) HG.out _ _ _ _ WW.out ((m2 : Int) - 1) 0).mono ?_
              rintro e x1 ⟨rfl, hb⟩
              have HC := Lib.hid (HC.out.trans (hb.mono HC.out.size))
              clear hb WW c0 c1
              obtain ⟨c0, c1⟩ := (OO.out.below HC.out).c2
              go_wp2_with fail
              have hb : Below x1.heap.size x1 (x1.alloc (.cells #[.int .u8 97, .int .u8 97, .int .u8 98] 5 (3, 4))) := (Below.refl _ _).alloc (Nat.le_refl _) _
              have WW : Hid (InW (x1.alloc (.cells #[.int .u8 97, .int .u8 97, .int .u8 98] 5 (3, 4))) (some ⟨x1.heap.size, 0, none⟩) 3 3 [97, 97, 98]) := ⟨Sv.const x1 5 #[.int .u8 97, .int .u8 97, .int .u8 98] (3, 4) 3 (by unfold maxLen; omega) rfl, by decide⟩
              have HC := Lib.hid (HC.out.trans (hb.mono HC.out.size))
              clear hb
              generalize x1.alloc (.cells #[.int .u8 97, .int .u8 97, .int .u8 98] 5 (3, 4)) = y2 at *
              generalize (⟨x1.heap.size, 0, none⟩ : Addr) = wa2 at *
              refine (tells_own y2 (GG.out.below HC.out) HG.out _ _ _ _ WW.out 0 ((m2 : Int) - 1)).mono ?_
              rintro e x2 ⟨rfl, hb⟩
              have HC := Lib.hid (HC.out.trans (hb.mono HC.out.size))
              clear hb WW c0 c1
              go_wp2_with fail
              go_roundw
              case rel => exact ⟨m2 + 1, by omega, by first | go_num | (congr 1; omega), HC⟩
              case measure => simp [intOf]; omega
            · have hge : (5 : Int) ≤ (m2 : Int) - 1 := by omega
              go_wp2_with fail
              go_roundw
              case rel => exact ⟨k + 1, by omega, by go_num, Lib.hid (B3.out.trans (HC.out.mono B3.out.size))⟩
              case measure => simp [intOf]; omega
    · have hke : (12 : Int) ≤ k := by omega
      obtain ⟨i0, hi, hz0, hz1, hz2⟩ := info_parts infoBy
      have Hi := Lib.hid hi; have Hz0 := Lib.hid hz0; have Hz1 := Lib.hid hz1; have Hz2 := Lib.hid hz2
      clear hi hz0 hz1 hz2
      have HBy := Lib.hid (show i0.bytes * 2049 ≤ 281474976710656 by rw [Hz2.out]; omega)
      go_wp2_with (at_make; refine wpList_make_full _ rfl _ _ 26 rfl wr.heap.size 5 i0 _ 1 Tryz.underlying26 Hi.out Hz0.out Hz1.out _ _ _ _ 2049 rfl rfl rfl rfl HBy.out (by unfold maxLen; omega) (Nat.le_refl _) ?_; intro w1 hown1 hg1; have HO1 := Lib.hid hown1; have HG1 := Lib.hid hg1; clear hown1 hg1)
      have hz := inw_zero (HO1.out)
      have HB1 := Lib.hid (B1.out.grown HG1.out B1.out.size (by simp))
      have HZ := Lib.hid hz
      have HT := Lib.hid (inw_tail hz)
      clear hz HO1 HG1 Hi Hz0 Hz1 Hz2 HBy B1 kc
      generalize wr.heap.size = gl at *
      refine (example_any _).mono ?_
      rintro e x1 ⟨ro1, rn1, rc1, no1, nn1, nc1, NL1, rfl, hg, hb⟩
      have G1 := Lib.hid (hg.gr exOk)
      have HB2 := Lib.hid (HB1.out.trans (hb.mono HB1.out.size))
      have HZ := Lib.hid (HZ.out.below hb)
      have HT := Lib.hid (HT.out.below hb)
      clear hg hb HB1
      go_wp2_with fail
      refine (exL x1 _ _ _ _ _ _ _ G1.out _ _ HZ.out).mono ?_
      rintro e x2 ⟨ao2, cap2, rfl, hb⟩
      have HB3 := Lib.hid (HB2.out.trans (hb.mono HB2.out.size))
      have HZ := Lib.hid (HZ.out.below hb)
      have HT := Lib.hid (HT.out.below hb)
      clear hb HB2 G1
      go_upto_region 18 with (fail)
      have hb : Below x2.heap.size x2 (x2.alloc (.cells #[.bool false, .int .i64 0, .int .i64 0, .slice ao2 0 cap2] 34)) := (Below.refl _ _).alloc (Nat.le_refl _) _
      have HB4 := Lib.hid (HB3.out.trans (hb.mono HB3.out.size))
      have HZ := Lib.hid (HZ.out.below hb)
      have HT := Lib.hid (HT.out.below hb)
      clear hb HB3
      generalize x2.alloc _ = x3 at *
      go_wp2_with fail
      refine (exE x3 _ _ HZ.out).mono ?_
      rintro e x4 ⟨rfl, hb⟩
      have HB5 := Lib.hid (HB4.out.trans (hb.mono HB4.out.size))
      have HT := Lib.hid (HT.out.below hb)
      clear hb HB4 HZ
      go_upto_region 19 with (fail)
      have hdr : Below x4.heap.size x4 x4.drew := (Below.refl _ _).drew
      have HB5 := Lib.hid (HB5.out.trans (hdr.mono HB5.out.size))
      have HT := Lib.hid (HT.out.below hdr)
      clear hdr
      go_region_with (first
        | (go_at_call 19; refine (example_any _).mono ?_; rintro e x5 ⟨ro2, rn2, rc2, no2, nn2, nc2, NL2, rfl, hg, hb⟩; have G2 := Lib.hid (hg.gr exOk); have HB6 := Lib.hid (HB5.out.trans (hb.mono HB5.out.size)); have HT2 := Lib.hid (HT.out.below hb); clear hg hb)
        | (go_at_call 12; refine (exT _ _ _ _ _ _ _ _ G2.out _ _ HT2.out).mono ?_; rintro e x6 ⟨rfl, hb⟩; have HB7 := Lib.hid (HB6.out.trans (hb.mono HB6.out.size)); clear hb))
      all_goals
        clear HT HT2 G2 HB5 HB6
        go_wp2_with fail
        refine (awake_any _).mono ?_
        rintro e x7 ⟨rfl, hb⟩
        have HB8 := Lib.hid (HB7.out.trans (hb.mono HB7.out.size))
        clear hb HB7
        go_wp2_with fail
        go_ret
        exact ⟨rfl, HB8.out⟩
end Go.Proofs.YtdnkffplkleolaaGreat
