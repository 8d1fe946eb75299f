/- Walks and plain laws: Tb Tc Td Te. -/
import Derived.Test.YtdnkffplkleolaaGreatM24
import Derived.StillTailTactics
import Derived.Lib.AppendZerosOnto
namespace Go.Proofs.YtdnkffplkleolaaGreat
open Go.RowKit Go.ChangeMaps
set_option maxRecDepth 100000
set_option maxHeartbeats 1000000

theorem find_yes_true_true (K : Env) (hK : K.base.heap.size ≤ K.g) (m : Nat) (w : World) (cs : List Ce) (L : Nat) (ov : Bool) (es : Array MapEntry) (clock : Nat) (KS : List (Ce × (Option Addr × Nat))) (rule p : Nat) (ri : Bool) (re : Nat) (rf : Int) (rt : List Tw) (ao : Option Addr) (cap : Nat)
  (h : TW K m w ⟨cs, true, L, ov⟩ es clock KS) (hl : ∀ w', w'.heap[m]? = some (.map es clock) → (Instr.lookup 81 (.map (some m)) (.agg #[.int .i64 rule, .int .i64 p]) true).run Tryz.prog w' = .ok (.tuple #[.agg #[.bool true, .bool ri, .int .i64 re, .int .i64 rf, .slice ao rt.length cap], .bool true]) w') :
  Calls Tryz.prog 86 #[.pointer (some ⟨K.g, 0, none⟩), .int .i64 rule, .int .i64 p] w fun e w' => e = .returned (.tuple #[.agg #[.bool true, .bool ri, .int .i64 re, .int .i64 rf, .slice ao rt.length cap], .bool true]) ∧ TW K m w' ⟨cs, true, L, ov⟩ es clock KS ∧ PF K m w w' := by
 obtain ⟨HB0, HR0⟩ := box1 w #[.bool false, .bool false, .int .i64 0, .int .i64 0, .slice none 0 0] 151
 have H1 := Lib.hid (h.below HB0.out)
 have HLo : Hid (K.base.heap.size ≤ w.heap.size) := h.low.size
 have HL := Lib.hid hl
 clear h hl
 go_enter Tryz.func86, Tryz.ntmps86
 go_upto_region 1 with (fail)
 revert HB0 HR0 H1
 generalize w.alloc _ = w1
 generalize hh0 : w.heap.size = h0
 intro HB0 HR0 H1
 have HH0 := Lib.hid hh0
 have HF1 : Hid (PF K m w w1) := PF.below (hh0 ▸ HB0.out)
 clear HB0 hh0
 have p0 : w1.cell? ⟨K.g, 0, none⟩ = some (.map (some m)) := H1.out.obj.cell 0
 have hlk := HL.out w1 H1.out.map
 go_upto_region 2 with (fail)
 obtain ⟨HAl, H8⟩ := box1 w1 #[.bool true, .bool ri, .int .i64 re, .int .i64 rf, .slice ao rt.length cap] 151
 have H2 := Lib.hid (H1.out.below HAl.out)
 have HF2 : Hid (PF K m w (w1.alloc (.cells #[.bool true, .bool ri, .int .i64 re, .int .i64 rf, .slice ao rt.length cap] 151))) := HF1.out.trans (PF.below HAl.out)
 have HR2 := Lib.hid (HR0.out.below HAl.out)
 have HLt : Hid (h0 < w1.heap.size) := HR0.out.lt
 clear p0 hlk HAl H1 HF1 HR0 HL
 revert H8 H2 HF2 HR2 HLt
 generalize w1.alloc _ = w2
 generalize w1.heap.size = h8
 intro H8 H2 HF2 HR2 HLt
 have p1 : w2.cell? ⟨K.g, 1, none⟩ = some (.bool true) := H2.out.obj.cell 1
 have pf1 := H2.out.obj.frozen 1
 obtain ⟨b0, b1, b2, b3, b4⟩ := (H8.out).c5
 have HS := Lib.hid (H2.out.setRound hK true)
 have H83 := Lib.hid (hrow.pf H2.out HS.out.2 H8.out (by decide))
 have HR3 := Lib.hid (hrow.pf H2.out HS.out.2 HR2.out (by decide))
 have HF3 : Hid (PF K m w (w2.setCell ⟨K.g, 1, none⟩ (.bool true))) := HF2.out.trans HS.out.2
 have H3 : Hid (TW K m (w2.setCell ⟨K.g, 1, none⟩ (.bool true)) ⟨cs, true, L, ov⟩ es clock KS) := HS.out.1
 go_upto_region 3 with (fail)
 clear p1 pf1 b0 b1 b2 b3 b4 HS H8 H2 HF2 HR2
 revert H83 HR3 HF3 H3
 generalize w2.setCell _ _ = w3
 intro H83 HR3 HF3 H3
 obtain ⟨b0, b1, b2, b3, b4⟩ := (H83.out).c5
 obtain ⟨zq0, zq1, zq2, zq3, zq4⟩ := (HR3.out).c5
 obtain ⟨zf0, zf1, zf2, zf3, zf4⟩ := (HR3.out).f5
 have zr5 := set5_row (.bool true) (.bool ri) (.int .i64 re) (.int .i64 rf) (.slice ao rt.length cap) HR3.out
 have zf5 := set5_fr w3 h0 (.bool true) (.bool ri) (.int .i64 re) (.int .i64 rf) (.slice ao rt.length cap)
 unfold set5 at zr5 zf5
 have ZR5 := Lib.hid zr5
 have ZF5 := Lib.hid zf5
 clear zr5 zf5
 go_wp2_with fail
 revert ZR5 ZF5
 generalize ((((w3.setCell _ _).setCell _ _).setCell _ _).setCell _ _).setCell _ _ = wz
 intro ZR5 ZF5
 obtain ⟨zc0, zc1, zc2, zc3, zc4⟩ := (ZR5.out).c5
 exact bodyPost_ret (v := .tuple #[.agg #[.bool true, .bool ri, .int .i64 re, .int .i64 rf, .slice ao rt.length cap], .bool true]) (by simp [results, Tryz.results86, go_sem, zc0, zc1, zc2, zc3, zc4]) rfl ⟨rfl, H3.out.fr ZF5.out (fun k e => by have e' : k = h0 := e; subst e'; exact ⟨by have := HH0.out; have := HLo.out; omega, _, _, HR3.out, by decide, by decide⟩), HF3.out.new ZF5.out (fun k e => by have e' : k = h0 := e; have := HH0.out; omega)⟩
theorem find_yes_true_false (K : Env) (hK : K.base.heap.size ≤ K.g) (m : Nat) (w : World) (cs : List Ce) (L : Nat) (ov : Bool) (es : Array MapEntry) (clock : Nat) (KS : List (Ce × (Option Addr × Nat))) (rule p : Nat) (ri : Bool) (re : Nat) (rf : Int) (rt : List Tw) (ao : Option Addr) (cap : Nat)
  (h : TW K m w ⟨cs, true, L, ov⟩ es clock KS) (hl : ∀ w', w'.heap[m]? = some (.map es clock) → (Instr.lookup 81 (.map (some m)) (.agg #[.int .i64 rule, .int .i64 p]) true).run Tryz.prog w' = .ok (.tuple #[.agg #[.bool false, .bool ri, .int .i64 re, .int .i64 rf, .slice ao rt.length cap], .bool true]) w') :
  Calls Tryz.prog 86 #[.pointer (some ⟨K.g, 0, none⟩), .int .i64 rule, .int .i64 p] w fun e w' => e = .returned (.tuple #[.agg #[.bool false, .bool ri, .int .i64 re, .int .i64 rf, .slice ao rt.length cap], .bool true]) ∧ TW K m w' ⟨cs, true, L, ov⟩ es clock KS ∧ PF K m w w' := by
 obtain ⟨HB0, HR0⟩ := box1 w #[.bool false, .bool false, .int .i64 0, .int .i64 0, .slice none 0 0] 151
 have H1 := Lib.hid (h.below HB0.out)
 have HLo : Hid (K.base.heap.size ≤ w.heap.size) := h.low.size
 have HL := Lib.hid hl
 clear h hl
 go_enter Tryz.func86, Tryz.ntmps86
 go_upto_region 1 with (fail)
 revert HB0 HR0 H1
 generalize w.alloc _ = w1
 generalize hh0 : w.heap.size = h0
 intro HB0 HR0 H1
 have HH0 := Lib.hid hh0
 have HF1 : Hid (PF K m w w1) := PF.below (hh0 ▸ HB0.out)
 clear HB0 hh0
 have p0 : w1.cell? ⟨K.g, 0, none⟩ = some (.map (some m)) := H1.out.obj.cell 0
 have hlk := HL.out w1 H1.out.map
 go_upto_region 2 with (fail)
 obtain ⟨HAl, H8⟩ := box1 w1 #[.bool false, .bool ri, .int .i64 re, .int .i64 rf, .slice ao rt.length cap] 151
 have H2 := Lib.hid (H1.out.below HAl.out)
 have HF2 : Hid (PF K m w (w1.alloc (.cells #[.bool false, .bool ri, .int .i64 re, .int .i64 rf, .slice ao rt.length cap] 151))) := HF1.out.trans (PF.below HAl.out)
 have HR2 := Lib.hid (HR0.out.below HAl.out)
 have HLt : Hid (h0 < w1.heap.size) := HR0.out.lt
 clear p0 hlk HAl H1 HF1 HR0 HL
 revert H8 H2 HF2 HR2 HLt
 generalize w1.alloc _ = w2
 generalize w1.heap.size = h8
 intro H8 H2 HF2 HR2 HLt
 have p1 : w2.cell? ⟨K.g, 1, none⟩ = some (.bool true) := H2.out.obj.cell 1
 have pf1 := H2.out.obj.frozen 1
 obtain ⟨b0, b1, b2, b3, b4⟩ := (H8.out).c5
 have HS := Lib.hid (H2.out.setRound hK true)
 have H83 := Lib.hid (hrow.pf H2.out HS.out.2 H8.out (by decide))
 have HR3 := Lib.hid (hrow.pf H2.out HS.out.2 HR2.out (by decide))
 have HF3 : Hid (PF K m w (w2.setCell ⟨K.g, 1, none⟩ (.bool true))) := HF2.out.trans HS.out.2
 have H3 : Hid (TW K m (w2.setCell ⟨K.g, 1, none⟩ (.bool true)) ⟨cs, true, L, ov⟩ es clock KS) := HS.out.1
 go_upto_region 3 with (fail)
 clear p1 pf1 b0 b1 b2 b3 b4 HS H8 H2 HF2 HR2
 revert H83 HR3 HF3 H3
 generalize w2.setCell _ _ = w3
 intro H83 HR3 HF3 H3
 obtain ⟨b0, b1, b2, b3, b4⟩ := (H83.out).c5
 obtain ⟨zq0, zq1, zq2, zq3, zq4⟩ := (HR3.out).c5
 obtain ⟨zf0, zf1, zf2, zf3, zf4⟩ := (HR3.out).f5
 have zr5 := set5_row (.bool false) (.bool ri) (.int .i64 re) (.int .i64 rf) (.slice ao rt.length cap) HR3.out
 have zf5 := set5_fr w3 h0 (.bool false) (.bool ri) (.int .i64 re) (.int .i64 rf) (.slice ao rt.length cap)
 unfold set5 at zr5 zf5
 have ZR5 := Lib.hid zr5
 have ZF5 := Lib.hid zf5
 clear zr5 zf5
 go_wp2_with fail
 revert ZR5 ZF5
 generalize ((((w3.setCell _ _).setCell _ _).setCell _ _).setCell _ _).setCell _ _ = wz
 intro ZR5 ZF5
 obtain ⟨zc0, zc1, zc2, zc3, zc4⟩ := (ZR5.out).c5
 exact bodyPost_ret (v := .tuple #[.agg #[.bool false, .bool ri, .int .i64 re, .int .i64 rf, .slice ao rt.length cap], .bool true]) (by simp [results, Tryz.results86, go_sem, zc0, zc1, zc2, zc3, zc4]) rfl ⟨rfl, H3.out.fr ZF5.out (fun k e => by have e' : k = h0 := e; subst e'; exact ⟨by have := HH0.out; have := HLo.out; omega, _, _, HR3.out, by decide, by decide⟩), HF3.out.new ZF5.out (fun k e => by have e' : k = h0 := e; have := HH0.out; omega)⟩
theorem find_no_true (K : Env) (hK : K.base.heap.size ≤ K.g) (m : Nat) (w : World) (cs : List Ce) (L : Nat) (ov : Bool) (es : Array MapEntry) (clock : Nat) (KS : List (Ce × (Option Addr × Nat))) (rule p : Nat)
  (h : TW K m w ⟨cs, true, L, ov⟩ es clock KS) (hl : ∀ w', w'.heap[m]? = some (.map es clock) → (Instr.lookup 81 (.map (some m)) (.agg #[.int .i64 rule, .int .i64 p]) true).run Tryz.prog w' = .ok (.tuple #[.agg #[.bool false, .bool false, .int .i64 0, .int .i64 0, .slice none 0 0], .bool false]) w') :
  Calls Tryz.prog 86 #[.pointer (some ⟨K.g, 0, none⟩), .int .i64 rule, .int .i64 p] w fun e w' => e = .returned (.tuple #[.agg #[.bool false, .bool false, .int .i64 0, .int .i64 0, .slice none 0 0], .bool false]) ∧ TW K m w' ⟨cs, true, L, ov⟩ es clock KS ∧ PF K m w w' := by
 obtain ⟨HB0, HR0⟩ := box1 w #[.bool false, .bool false, .int .i64 0, .int .i64 0, .slice none 0 0] 151
 have H1 := Lib.hid (h.below HB0.out)
 have HLo : Hid (K.base.heap.size ≤ w.heap.size) := h.low.size
 have HL := Lib.hid hl
 clear h hl
 go_enter Tryz.func86, Tryz.ntmps86
 go_upto_region 1 with (fail)
 revert HB0 HR0 H1
 generalize w.alloc _ = w1
 generalize hh0 : w.heap.size = h0
 intro HB0 HR0 H1
 have HH0 := Lib.hid hh0
 have HF1 : Hid (PF K m w w1) := PF.below (hh0 ▸ HB0.out)
 clear HB0 hh0
 have p0 : w1.cell? ⟨K.g, 0, none⟩ = some (.map (some m)) := H1.out.obj.cell 0
 have hlk := HL.out w1 H1.out.map
 go_upto_region 2 with (fail)
 obtain ⟨HAl, H8⟩ := box1 w1 #[.bool false, .bool false, .int .i64 0, .int .i64 0, .slice none 0 0] 151
 have H2 := Lib.hid (H1.out.below HAl.out)
 have HF2 : Hid (PF K m w (w1.alloc (.cells #[.bool false, .bool false, .int .i64 0, .int .i64 0, .slice none 0 0] 151))) := HF1.out.trans (PF.below HAl.out)
 have HR2 := Lib.hid (HR0.out.below HAl.out)
 have HLt : Hid (h0 < w1.heap.size) := HR0.out.lt
 clear p0 hlk HAl H1 HF1 HR0 HL
 revert H8 H2 HF2 HR2 HLt
 generalize w1.alloc _ = w2
 generalize w1.heap.size = h8
 intro H8 H2 HF2 HR2 HLt
 have p1 : w2.cell? ⟨K.g, 1, none⟩ = some (.bool true) := H2.out.obj.cell 1
 have pf1 := H2.out.obj.frozen 1
 obtain ⟨b0, b1, b2, b3, b4⟩ := (H8.out).c5
 have HS := Lib.hid (H2.out.setRound hK true)
 have H83 := Lib.hid (hrow.pf H2.out HS.out.2 H8.out (by decide))
 have HR3 := Lib.hid (hrow.pf H2.out HS.out.2 HR2.out (by decide))
 have HF3 : Hid (PF K m w (w2.setCell ⟨K.g, 1, none⟩ (.bool true))) := HF2.out.trans HS.out.2
 have H3 : Hid (TW K m (w2.setCell ⟨K.g, 1, none⟩ (.bool true)) ⟨cs, true, L, ov⟩ es clock KS) := HS.out.1
 go_upto_region 3 with (fail)
 clear p1 pf1 b0 b1 b2 b3 b4 HS H8 H2 HF2 HR2
 revert H83 HR3 HF3 H3
 generalize w2.setCell _ _ = w3
 intro H83 HR3 HF3 H3
 obtain ⟨b0, b1, b2, b3, b4⟩ := (H83.out).c5
 obtain ⟨zq0, zq1, zq2, zq3, zq4⟩ := (HR3.out).c5
 obtain ⟨zf0, zf1, zf2, zf3, zf4⟩ := (HR3.out).f5
 have zr5 := set5_row (.bool false) (.bool false) (.int .i64 0) (.int .i64 0) (.slice none 0 0) HR3.out
 have zf5 := set5_fr w3 h0 (.bool false) (.bool false) (.int .i64 0) (.int .i64 0) (.slice none 0 0)
 unfold set5 at zr5 zf5
 have ZR5 := Lib.hid zr5
 have ZF5 := Lib.hid zf5
 clear zr5 zf5
 go_wp2_with fail
 revert ZR5 ZF5
 generalize ((((w3.setCell _ _).setCell _ _).setCell _ _).setCell _ _).setCell _ _ = wz
 intro ZR5 ZF5
 obtain ⟨zc0, zc1, zc2, zc3, zc4⟩ := (ZR5.out).c5
 exact bodyPost_ret (v := .tuple #[.agg #[.bool false, .bool false, .int .i64 0, .int .i64 0, .slice none 0 0], .bool false]) (by simp [results, Tryz.results86, go_sem, zc0, zc1, zc2, zc3, zc4]) rfl ⟨rfl, H3.out.fr ZF5.out (fun k e => by have e' : k = h0 := e; subst e'; exact ⟨by have := HH0.out; have := HLo.out; omega, _, _, HR3.out, by decide, by decide⟩), HF3.out.new ZF5.out (fun k e => by have e' : k = h0 := e; have := HH0.out; omega)⟩
theorem find_yes_false_true (K : Env) (hK : K.base.heap.size ≤ K.g) (m : Nat) (w : World) (cs : List Ce) (L : Nat) (ov : Bool) (es : Array MapEntry) (clock : Nat) (KS : List (Ce × (Option Addr × Nat))) (rule p : Nat) (ri : Bool) (re : Nat) (rf : Int) (rt : List Tw) (ao : Option Addr) (cap : Nat)
  (h : TW K m w ⟨cs, false, L, ov⟩ es clock KS) (hl : ∀ w', w'.heap[m]? = some (.map es clock) → (Instr.lookup 81 (.map (some m)) (.agg #[.int .i64 rule, .int .i64 p]) true).run Tryz.prog w' = .ok (.tuple #[.agg #[.bool true, .bool ri, .int .i64 re, .int .i64 rf, .slice ao rt.length cap], .bool true]) w') :
  Calls Tryz.prog 86 #[.pointer (some ⟨K.g, 0, none⟩), .int .i64 rule, .int .i64 p] w fun e w' => e = .returned (.tuple #[.agg #[.bool true, .bool ri, .int .i64 re, .int .i64 rf, .slice ao rt.length cap], .bool true]) ∧ TW K m w' ⟨cs, false, L, ov⟩ es clock KS ∧ PF K m w w' := by
 obtain ⟨HB0, HR0⟩ := box1 w #[.bool false, .bool false, .int .i64 0, .int .i64 0, .slice none 0 0] 151
 have H1 := Lib.hid (h.below HB0.out)
 have HLo : Hid (K.base.heap.size ≤ w.heap.size) := h.low.size
 have HL := Lib.hid hl
 clear h hl
 go_enter Tryz.func86, Tryz.ntmps86
 go_upto_region 1 with (fail)
 revert HB0 HR0 H1
 generalize w.alloc _ = w1
 generalize hh0 : w.heap.size = h0
 intro HB0 HR0 H1
 have HH0 := Lib.hid hh0
 have HF1 : Hid (PF K m w w1) := PF.below (hh0 ▸ HB0.out)
 clear HB0 hh0
 have p0 : w1.cell? ⟨K.g, 0, none⟩ = some (.map (some m)) := H1.out.obj.cell 0
 have hlk := HL.out w1 H1.out.map
 go_upto_region 2 with (fail)
 obtain ⟨HAl, H8⟩ := box1 w1 #[.bool true, .bool ri, .int .i64 re, .int .i64 rf, .slice ao rt.length cap] 151
 have H2 := Lib.hid (H1.out.below HAl.out)
 have HF2 : Hid (PF K m w (w1.alloc (.cells #[.bool true, .bool ri, .int .i64 re, .int .i64 rf, .slice ao rt.length cap] 151))) := HF1.out.trans (PF.below HAl.out)
 have HR2 := Lib.hid (HR0.out.below HAl.out)
 have HLt : Hid (h0 < w1.heap.size) := HR0.out.lt
 clear p0 hlk HAl H1 HF1 HR0 HL
 revert H8 H2 HF2 HR2 HLt
 generalize w1.alloc _ = w2
 generalize w1.heap.size = h8
 intro H8 H2 HF2 HR2 HLt
 have p1 : w2.cell? ⟨K.g, 1, none⟩ = some (.bool false) := H2.out.obj.cell 1
 have pf1 := H2.out.obj.frozen 1
 obtain ⟨b0, b1, b2, b3, b4⟩ := (H8.out).c5
 have HS := Lib.hid (H2.out.setRound hK false)
 have H83 := Lib.hid (hrow.pf H2.out HS.out.2 H8.out (by decide))
 have HR3 := Lib.hid (hrow.pf H2.out HS.out.2 HR2.out (by decide))
 have HF3 : Hid (PF K m w (w2.setCell ⟨K.g, 1, none⟩ (.bool false))) := HF2.out.trans HS.out.2
 have H3 : Hid (TW K m (w2.setCell ⟨K.g, 1, none⟩ (.bool false)) ⟨cs, false, L, ov⟩ es clock KS) := HS.out.1
 go_upto_region 3 with (fail)
 clear p1 pf1 b0 b1 b2 b3 b4 HS H8 H2 HF2 HR2
 revert H83 HR3 HF3 H3
 generalize w2.setCell _ _ = w3
 intro H83 HR3 HF3 H3
 obtain ⟨b0, b1, b2, b3, b4⟩ := (H83.out).c5
 obtain ⟨zq0, zq1, zq2, zq3, zq4⟩ := (HR3.out).c5
 obtain ⟨zf0, zf1, zf2, zf3, zf4⟩ := (HR3.out).f5
 have zr5 := set5_row (.bool true) (.bool ri) (.int .i64 re) (.int .i64 rf) (.slice ao rt.length cap) HR3.out
 have zf5 := set5_fr w3 h0 (.bool true) (.bool ri) (.int .i64 re) (.int .i64 rf) (.slice ao rt.length cap)
 unfold set5 at zr5 zf5
 have ZR5 := Lib.hid zr5
 have ZF5 := Lib.hid zf5
 clear zr5 zf5
 go_wp2_with fail
 revert ZR5 ZF5
 generalize ((((w3.setCell _ _).setCell _ _).setCell _ _).setCell _ _).setCell _ _ = wz
 intro ZR5 ZF5
 obtain ⟨zc0, zc1, zc2, zc3, zc4⟩ := (ZR5.out).c5
 exact bodyPost_ret (v := .tuple #[.agg #[.bool true, .bool ri, .int .i64 re, .int .i64 rf, .slice ao rt.length cap], .bool true]) (by simp [results, Tryz.results86, go_sem, zc0, zc1, zc2, zc3, zc4]) rfl ⟨rfl, H3.out.fr ZF5.out (fun k e => by have e' : k = h0 := e; subst e'; exact ⟨by have := HH0.out; have := HLo.out; omega, _, _, HR3.out, by decide, by decide⟩), HF3.out.new ZF5.out (fun k e => by have e' : k = h0 := e; have := HH0.out; omega)⟩
theorem find_yes_false_false (K : Env) (hK : K.base.heap.size ≤ K.g) (m : Nat) (w : World) (cs : List Ce) (L : Nat) (ov : Bool) (es : Array MapEntry) (clock : Nat) (KS : List (Ce × (Option Addr × Nat))) (rule p : Nat) (ri : Bool) (re : Nat) (rf : Int) (rt : List Tw) (ao : Option Addr) (cap : Nat)
  (h : TW K m w ⟨cs, false, L, ov⟩ es clock KS) (hl : ∀ w', w'.heap[m]? = some (.map es clock) → (Instr.lookup 81 (.map (some m)) (.agg #[.int .i64 rule, .int .i64 p]) true).run Tryz.prog w' = .ok (.tuple #[.agg #[.bool false, .bool ri, .int .i64 re, .int .i64 rf, .slice ao rt.length cap], .bool true]) w') :
  Calls Tryz.prog 86 #[.pointer (some ⟨K.g, 0, none⟩), .int .i64 rule, .int .i64 p] w fun e w' => e = .returned (.tuple #[.agg #[.bool false, .bool ri, .int .i64 re, .int .i64 rf, .slice ao rt.length cap], .bool true]) ∧ TW K m w' ⟨cs, true, L, ov⟩ es clock KS ∧ PF K m w w' := by
 obtain ⟨HB0, HR0⟩ := box1 w #[.bool false, .bool false, .int .i64 0, .int .i64 0, .slice none 0 0] 151
 have H1 := Lib.hid (h.below HB0.out)
 have HLo : Hid (K.base.heap.size ≤ w.heap.size) := h.low.size
 have HL := Lib.hid hl
 clear h hl
 go_enter Tryz.func86, Tryz.ntmps86
 go_upto_region 1 with (fail)
 revert HB0 HR0 H1
 generalize w.alloc _ = w1
 generalize hh0 : w.heap.size = h0
 intro HB0 HR0 H1
 have HH0 := Lib.hid hh0
 have HF1 : Hid (PF K m w w1) := PF.below (hh0 ▸ HB0.out)
 clear HB0 hh0
 have p0 : w1.cell? ⟨K.g, 0, none⟩ = some (.map (some m)) := H1.out.obj.cell 0
 have hlk := HL.out w1 H1.out.map
 go_upto_region 2 with (fail)
 obtain ⟨HAl, H8⟩ := box1 w1 #[.bool false, .bool ri, .int .i64 re, .int .i64 rf, .slice ao rt.length cap] 151
 have H2 := Lib.hid (H1.out.below HAl.out)
 have HF2 : Hid (PF K m w (w1.alloc (.cells #[.bool false, .bool ri, .int .i64 re, .int .i64 rf, .slice ao rt.length cap] 151))) := HF1.out.trans (PF.below HAl.out)
 have HR2 := Lib.hid (HR0.out.below HAl.out)
 have HLt : Hid (h0 < w1.heap.size) := HR0.out.lt
 clear p0 hlk HAl H1 HF1 HR0 HL
 revert H8 H2 HF2 HR2 HLt
 generalize w1.alloc _ = w2
 generalize w1.heap.size = h8
 intro H8 H2 HF2 HR2 HLt
 have p1 : w2.cell? ⟨K.g, 1, none⟩ = some (.bool false) := H2.out.obj.cell 1
 have pf1 := H2.out.obj.frozen 1
 obtain ⟨b0, b1, b2, b3, b4⟩ := (H8.out).c5
 have HS := Lib.hid (H2.out.setRound hK true)
 have H83 := Lib.hid (hrow.pf H2.out HS.out.2 H8.out (by decide))
 have HR3 := Lib.hid (hrow.pf H2.out HS.out.2 HR2.out (by decide))
 have HF3 : Hid (PF K m w (w2.setCell ⟨K.g, 1, none⟩ (.bool true))) := HF2.out.trans HS.out.2
 have H3 : Hid (TW K m (w2.setCell ⟨K.g, 1, none⟩ (.bool true)) ⟨cs, true, L, ov⟩ es clock KS) := HS.out.1
 go_upto_region 3 with (fail)
 clear p1 pf1 b0 b1 b2 b3 b4 HS H8 H2 HF2 HR2
 revert H83 HR3 HF3 H3
 generalize w2.setCell _ _ = w3
 intro H83 HR3 HF3 H3
 obtain ⟨b0, b1, b2, b3, b4⟩ := (H83.out).c5
 obtain ⟨zq0, zq1, zq2, zq3, zq4⟩ := (HR3.out).c5
 obtain ⟨zf0, zf1, zf2, zf3, zf4⟩ := (HR3.out).f5
 have zr5 := set5_row (.bool false) (.bool ri) (.int .i64 re) (.int .i64 rf) (.slice ao rt.length cap) HR3.out
 have zf5 := set5_fr w3 h0 (.bool false) (.bool ri) (.int .i64 re) (.int .i64 rf) (.slice ao rt.length cap)
 unfold set5 at zr5 zf5
 have ZR5 := Lib.hid zr5
 have ZF5 := Lib.hid zf5
 clear zr5 zf5
 go_wp2_with fail
 revert ZR5 ZF5
 generalize ((((w3.setCell _ _).setCell _ _).setCell _ _).setCell _ _).setCell _ _ = wz
 intro ZR5 ZF5
 obtain ⟨zc0, zc1, zc2, zc3, zc4⟩ := (ZR5.out).c5
 exact bodyPost_ret (v := .tuple #[.agg #[.bool false, .bool ri, .int .i64 re, .int .i64 rf, .slice ao rt.length cap], .bool true]) (by simp [results, Tryz.results86, go_sem, zc0, zc1, zc2, zc3, zc4]) rfl ⟨rfl, H3.out.fr ZF5.out (fun k e => by have e' : k = h0 := e; subst e'; exact ⟨by have := HH0.out; have := HLo.out; omega, _, _, HR3.out, by decide, by decide⟩), HF3.out.new ZF5.out (fun k e => by have e' : k = h0 := e; have := HH0.out; omega)⟩
theorem find_no_false (K : Env) (hK : K.base.heap.size ≤ K.g) (m : Nat) (w : World) (cs : List Ce) (L : Nat) (ov : Bool) (es : Array MapEntry) (clock : Nat) (KS : List (Ce × (Option Addr × Nat))) (rule p : Nat)
  (h : TW K m w ⟨cs, false, L, ov⟩ es clock KS) (hl : ∀ w', w'.heap[m]? = some (.map es clock) → (Instr.lookup 81 (.map (some m)) (.agg #[.int .i64 rule, .int .i64 p]) true).run Tryz.prog w' = .ok (.tuple #[.agg #[.bool false, .bool false, .int .i64 0, .int .i64 0, .slice none 0 0], .bool false]) w') :
  Calls Tryz.prog 86 #[.pointer (some ⟨K.g, 0, none⟩), .int .i64 rule, .int .i64 p] w fun e w' => e = .returned (.tuple #[.agg #[.bool false, .bool false, .int .i64 0, .int .i64 0, .slice none 0 0], .bool false]) ∧ TW K m w' ⟨cs, false, L, ov⟩ es clock KS ∧ PF K m w w' := by
 obtain ⟨HB0, HR0⟩ := box1 w #[.bool false, .bool false, .int .i64 0, .int .i64 0, .slice none 0 0] 151
 have H1 := Lib.hid (h.below HB0.out)
 have HLo : Hid (K.base.heap.size ≤ w.heap.size) := h.low.size
 have HL := Lib.hid hl
 clear h hl
 go_enter Tryz.func86, Tryz.ntmps86
 go_upto_region 1 with (fail)
 revert HB0 HR0 H1
 generalize w.alloc _ = w1
 generalize hh0 : w.heap.size = h0
 intro HB0 HR0 H1
 have HH0 := Lib.hid hh0
 have HF1 : Hid (PF K m w w1) := PF.below (hh0 ▸ HB0.out)
 clear HB0 hh0
 have p0 : w1.cell? ⟨K.g, 0, none⟩ = some (.map (some m)) := H1.out.obj.cell 0
 have hlk := HL.out w1 H1.out.map
 go_upto_region 2 with (fail)
 obtain ⟨HAl, H8⟩ := box1 w1 #[.bool false, .bool false, .int .i64 0, .int .i64 0, .slice none 0 0] 151
 have H2 := Lib.hid (H1.out.below HAl.out)
 have HF2 : Hid (PF K m w (w1.alloc (.cells #[.bool false, .bool false, .int .i64 0, .int .i64 0, .slice none 0 0] 151))) := HF1.out.trans (PF.below HAl.out)
 have HR2 := Lib.hid (HR0.out.below HAl.out)
 have HLt : Hid (h0 < w1.heap.size) := HR0.out.lt
 clear p0 hlk HAl H1 HF1 HR0 HL
 revert H8 H2 HF2 HR2 HLt
 generalize w1.alloc _ = w2
 generalize w1.heap.size = h8
 intro H8 H2 HF2 HR2 HLt
 have p1 : w2.cell? ⟨K.g, 1, none⟩ = some (.bool false) := H2.out.obj.cell 1
 have pf1 := H2.out.obj.frozen 1
 obtain ⟨b0, b1, b2, b3, b4⟩ := (H8.out).c5
 have HS := Lib.hid (H2.out.setRound hK false)
 have H83 := Lib.hid (hrow.pf H2.out HS.out.2 H8.out (by decide))
 have HR3 := Lib.hid (hrow.pf H2.out HS.out.2 HR2.out (by decide))
 have HF3 : Hid (PF K m w (w2.setCell ⟨K.g, 1, none⟩ (.bool false))) := HF2.out.trans HS.out.2
 have H3 : Hid (TW K m (w2.setCell ⟨K.g, 1, none⟩ (.bool false)) ⟨cs, false, L, ov⟩ es clock KS) := HS.out.1
 go_upto_region 3 with (fail)
 clear p1 pf1 b0 b1 b2 b3 b4 HS H8 H2 HF2 HR2
 revert H83 HR3 HF3 H3
 generalize w2.setCell _ _ = w3
 intro H83 HR3 HF3 H3
 obtain ⟨b0, b1, b2, b3, b4⟩ := (H83.out).c5
 obtain ⟨zq0, zq1, zq2, zq3, zq4⟩ := (HR3.out).c5
 obtain ⟨zf0, zf1, zf2, zf3, zf4⟩ := (HR3.out).f5
 have zr5 := set5_row (.bool false) (.bool false) (.int .i64 0) (.int .i64 0) (.slice none 0 0) HR3.out
 have zf5 := set5_fr w3 h0 (.bool false) (.bool false) (.int .i64 0) (.int .i64 0) (.slice none 0 0)
 unfold set5 at zr5 zf5
 have ZR5 := Lib.hid zr5
 have ZF5 := Lib.hid zf5
 clear zr5 zf5
 go_wp2_with fail
 revert ZR5 ZF5
 generalize ((((w3.setCell _ _).setCell _ _).setCell _ _).setCell _ _).setCell _ _ = wz
 intro ZR5 ZF5
 obtain ⟨zc0, zc1, zc2, zc3, zc4⟩ := (ZR5.out).c5
 exact bodyPost_ret (v := .tuple #[.agg #[.bool false, .bool false, .int .i64 0, .int .i64 0, .slice none 0 0], .bool false]) (by simp [results, Tryz.results86, go_sem, zc0, zc1, zc2, zc3, zc4]) rfl ⟨rfl, H3.out.fr ZF5.out (fun k e => by have e' : k = h0 := e; subst e'; exact ⟨by have := HH0.out; have := HLo.out; omega, _, _, HR3.out, by decide, by decide⟩), HF3.out.new ZF5.out (fun k e => by have e' : k = h0 := e; have := HH0.out; omega)⟩
theorem find_hit (K : Env) (hK : K.base.heap.size ≤ K.g) (m : Nat) (w : World) (s : St) (es : Array MapEntry) (clock : Nat) (KS : List (Ce × (Option Addr × Nat))) (rule p : Nat) (h : TW K m w s es clock KS) (c : Ce) (hf : s.cells.find? (keyB rule p) = some c) :
  Calls Tryz.prog 86 #[.pointer (some ⟨K.g, 0, none⟩), .int .i64 rule, .int .i64 p] w fun e w' => ∃ ao cap, e = .returned (.tuple #[clv c ao cap, .bool true]) ∧ TW K m w' { s with round := s.round || !c.done } es clock KS ∧ TrW w' ao cap c.res.tree ∧ PF K m w w' := by
 obtain ⟨ao, cap, ht, i, hi, hc, hl⟩ := look_yes h hf
 obtain ⟨cs, rd, L, ov⟩ := s
 obtain ⟨cr, cp, cd, ⟨ri, re, rf, rt, rr⟩⟩ := c
 cases rd <;> cases cd
 ·exact (find_yes_false_false K hK m w cs L ov es clock KS rule p ri re rf rt ao cap h hl).mono fun e w' ⟨h1, h2, h3⟩ => ⟨ao, cap, h1, h2, TrW.pf h h3 ht, h3⟩
 ·exact (find_yes_false_true K hK m w cs L ov es clock KS rule p ri re rf rt ao cap h hl).mono fun e w' ⟨h1, h2, h3⟩ => ⟨ao, cap, h1, h2, TrW.pf h h3 ht, h3⟩
 ·exact (find_yes_true_false K hK m w cs L ov es clock KS rule p ri re rf rt ao cap h hl).mono fun e w' ⟨h1, h2, h3⟩ => ⟨ao, cap, h1, h2, TrW.pf h h3 ht, h3⟩
 ·exact (find_yes_true_true K hK m w cs L ov es clock KS rule p ri re rf rt ao cap h hl).mono fun e w' ⟨h1, h2, h3⟩ => ⟨ao, cap, h1, h2, TrW.pf h h3 ht, h3⟩
theorem find_miss (K : Env) (hK : K.base.heap.size ≤ K.g) (m : Nat) (w : World) (s : St) (es : Array MapEntry) (clock : Nat) (KS : List (Ce × (Option Addr × Nat))) (rule p : Nat) (h : TW K m w s es clock KS) (hf : s.cells.find? (keyB rule p) = none) :
  Calls Tryz.prog 86 #[.pointer (some ⟨K.g, 0, none⟩), .int .i64 rule, .int .i64 p] w fun e w' => e = .returned (.tuple #[.agg #[.bool false, .bool false, .int .i64 0, .int .i64 0, .slice none 0 0], .bool false]) ∧ TW K m w' s es clock KS ∧ PF K m w w' := by
 have hl := look_no h hf
 obtain ⟨cs, rd, L, ov⟩ := s
 cases rd
 ·exact find_no_false K hK m w cs L ov es clock KS rule p h hl
 ·exact find_no_true K hK m w cs L ov es clock KS rule p h hl
theorem EntW.push {es : Array MapEntry} {KS : List (Ce × (Option Addr × Nat))} (h : EntW es KS) (c : Ce) (ao : Option Addr) (cap clock : Nat) : EntW (es.push ⟨ked c, clv c ao cap, clock⟩) (KS ++ [(c, (ao, cap))]) := by
 refine ⟨by simp [h.len], fun i hi => ?_⟩
 by_cases e : i < KS.length
 ·obtain ⟨q, hq, hk, hv⟩ := h.get i e
  have hl : i < es.size := by rw [h.len]; exact e
  refine ⟨q, ?_, ?_, ?_⟩
  ·rw [Array.getElem?_push_lt hl]; rw [Array.getElem?_eq_getElem hl] at hq; exact hq
  ·rw [List.getElem_append_left e]; exact hk
  ·rw [List.getElem_append_left e]; exact hv
 ·have e2 : i = KS.length := by simp at hi; omega
  subst e2
  refine ⟨⟨ked c, clv c ao cap, clock⟩, ?_, ?_, ?_⟩
  ·rw [← h.len]; simp
  ·simp
  ·simp
theorem EntW.set {es : Array MapEntry} {KS : List (Ce × (Option Addr × Nat))} (h : EntW es KS) {i : Nat} (c : Ce) (ao : Option Addr) (cap : Nat) (k : Value) (hk : k = ked c) : EntW (es.modify i fun e => { e with key := k, val := clv c ao cap }) (KS.set i (c, (ao, cap))) := by
 subst hk
 refine ⟨by simp [h.len], fun j hj => ?_⟩
 have hj' : j < KS.length := by simpa using hj
 obtain ⟨q, hq, hk, hv⟩ := h.get j hj'
 by_cases e : i = j
 ·subst e
  refine ⟨{ q with key := ked c, val := clv c ao cap }, ?_, ?_, ?_⟩
  ·rw [Array.getElem?_modify, hq]; simp
  ·simp
  ·simp
 ·refine ⟨q, ?_, ?_, ?_⟩
  ·rw [Array.getElem?_modify, if_neg e]; exact hq
  ·rw [List.getElem_set_ne e]; exact hk
  ·rw [List.getElem_set_ne e]; exact hv
theorem put_new (K : Env) (m : Nat) (w : World) (s : St) (es : Array MapEntry) (clock : Nat) (KS : List (Ce × (Option Addr × Nat))) (rule p : Nat) (d ri : Bool) (re : Nat) (rf : Int) (rt : List Tw) (rr : Nat) (ao : Option Addr) (cap : Nat)
  (h : TW K m w s es clock KS) (ht : TrW w ao cap rt) (hf : s.cells.find? (keyB rule p) = none) :
  Calls Tryz.prog 87 #[.pointer (some ⟨K.g, 0, none⟩), .int .i64 rule, .int .i64 p, .agg #[.bool d, .bool ri, .int .i64 re, .int .i64 rf, .slice ao rt.length cap]] w fun e w' => e = .returned (.tuple #[]) ∧ TW K m w' { s with cells := s.cells ++ [⟨rule, p, d, ⟨ri, re, rf, rt, rr⟩⟩] } (es.push ⟨.agg #[.int .i64 rule, .int .i64 p], (.agg #[.bool d, .bool ri, .int .i64 re, .int .i64 rf, .slice ao rt.length cap]), clock⟩) (clock + 1) (KS ++ [(⟨rule, p, d, ⟨ri, re, rf, rt, rr⟩⟩, (ao, cap))]) ∧ PF K m w w' := by
 obtain ⟨HB0, HR0⟩ := box1 w #[.bool d, .bool ri, .int .i64 re, .int .i64 rf, .slice ao rt.length cap] 151
 have H1 := Lib.hid (h.below HB0.out)
 have HT1 := Lib.hid (ht.step (.below HB0.out))
 have HMu : Hid (∀ w', w'.heap[m]? = some (.map es clock) → (Instr.mapUpdate 81 (.map (some m)) (.agg #[.int .i64 rule, .int .i64 p]) (.agg #[.bool d, .bool ri, .int .i64 re, .int .i64 rf, .slice ao rt.length cap])).run Tryz.prog w' = .ok () (setBlock w' m (.map (es.push ⟨.agg #[.int .i64 rule, .int .i64 p], (.agg #[.bool d, .bool ri, .int .i64 re, .int .i64 rf, .slice ao rt.length cap]), clock⟩) (clock + 1)))) :=
  fun w' hw' => run_map_new cellKey map_und hw' h.ent.isKey ⟨_, _, rfl⟩ (no_key h.eq h.ent hf)
 have HSt : Hid (∀ w', TW K m w' s es clock KS → TrW w' ao cap rt → TW K m (setBlock w' m (.map (es.push ⟨.agg #[.int .i64 rule, .int .i64 p], (.agg #[.bool d, .bool ri, .int .i64 re, .int .i64 rf, .slice ao rt.length cap]), clock⟩) (clock + 1))) { s with cells := s.cells ++ [⟨rule, p, d, ⟨ri, re, rf, rt, rr⟩⟩] } (es.push ⟨.agg #[.int .i64 rule, .int .i64 p], (.agg #[.bool d, .bool ri, .int .i64 re, .int .i64 rf, .slice ao rt.length cap]), clock⟩) (clock + 1) (KS ++ [(⟨rule, p, d, ⟨ri, re, rf, rt, rr⟩⟩, (ao, cap))]) ∧ PF K m w' (setBlock w' m (.map (es.push ⟨.agg #[.int .i64 rule, .int .i64 p], (.agg #[.bool d, .bool ri, .int .i64 re, .int .i64 rf, .slice ao rt.length cap]), clock⟩) (clock + 1)))) :=
  fun w' h' ht' => h'.setMap rfl (by simp [h'.eq]) (h'.ent.push ⟨rule, p, d, ⟨ri, re, rf, rt, rr⟩⟩ ao cap clock) (fun c hc => by
   rcases List.mem_append.1 hc with hc | hc
   ·exact h'.trees c hc
   ·simp only [List.mem_singleton] at hc; subst hc; exact ht')
 clear h ht hf
 go_enter Tryz.func87, Tryz.ntmps87
 go_upto_region 1 with (fail)
 revert HB0 HR0 H1 HT1
 generalize w.alloc _ = w1
 generalize hh0 : w.heap.size = h0
 intro HB0 HR0 H1 HT1
 have HF1 : Hid (PF K m w w1) := PF.below (hh0 ▸ HB0.out)
 clear HB0 hh0
 have p0 : w1.cell? ⟨K.g, 0, none⟩ = some (.map (some m)) := H1.out.obj.cell 0
 obtain ⟨b0, b1, b2, b3, b4⟩ := (HR0.out).c5
 go_still_tail 8, (by kernel_rfl)
 change wpList _ _ _ _ _ w1.drew
 have HD := Lib.hid ((Below.refl w1.heap.size w1).drew)
 have H2 := Lib.hid (H1.out.below HD.out)
 have HT2 := Lib.hid (HT1.out.step (.below HD.out))
 have HF2 := Lib.hid (HF1.out.trans (PF.below HD.out))
 clear p0 b0 b1 b2 b3 b4 HD H1 HF1 HR0 HT1
 revert H2 HF2 HT2
 generalize w1.drew = w2
 intro H2 HT2 HF2
 have hmu := HMu.out w2 H2.out.map
 have HS := Lib.hid (HSt.out w2 H2.out HT2.out)
 go_wp2_with fail
 go_end0
 exact ⟨rfl, HS.out.1, HF2.out.trans HS.out.2⟩
theorem put_old (K : Env) (m : Nat) (w : World) (s : St) (es : Array MapEntry) (clock : Nat) (KS : List (Ce × (Option Addr × Nat))) (rule p : Nat) (d ri : Bool) (re : Nat) (rf : Int) (rt : List Tw) (rr : Nat) (ao : Option Addr) (cap : Nat)
  (h : TW K m w s es clock KS) (ht : TrW w ao cap rt) (i : Nat) (hi : (s.cells.map key)[i]? = some (rule, p)) (hnd : (s.cells.map key).Nodup) :
  Calls Tryz.prog 87 #[.pointer (some ⟨K.g, 0, none⟩), .int .i64 rule, .int .i64 p, .agg #[.bool d, .bool ri, .int .i64 re, .int .i64 rf, .slice ao rt.length cap]] w fun e w' => e = .returned (.tuple #[]) ∧ TW K m w' { s with cells := s.cells.set i ⟨rule, p, d, ⟨ri, re, rf, rt, rr⟩⟩ } (es.modify i fun e => { e with key := .agg #[.int .i64 rule, .int .i64 p], val := (.agg #[.bool d, .bool ri, .int .i64 re, .int .i64 rf, .slice ao rt.length cap]) }) clock (KS.set i (⟨rule, p, d, ⟨ri, re, rf, rt, rr⟩⟩, (ao, cap))) ∧ PF K m w w' := by
 obtain ⟨HB0, HR0⟩ := box1 w #[.bool d, .bool ri, .int .i64 re, .int .i64 rf, .slice ao rt.length cap] 151
 have H1 := Lib.hid (h.below HB0.out)
 have HT1 := Lib.hid (ht.step (.below HB0.out))
 have hil : i < KS.length := by have := (List.getElem?_eq_some_iff.1 hi).1; rw [← h.eq] at this; simpa using this
 have hki : ((KS[i]'hil).1).rule = rule ∧ ((KS[i]'hil).1).place = p := by
  rw [← h.eq] at hi
  simpa [key, hil] using hi
 have HMu : Hid (∀ w', w'.heap[m]? = some (.map es clock) → (Instr.mapUpdate 81 (.map (some m)) (.agg #[.int .i64 rule, .int .i64 p]) (.agg #[.bool d, .bool ri, .int .i64 re, .int .i64 rf, .slice ao rt.length cap])).run Tryz.prog w' = .ok () (setBlock w' m (.map (es.modify i fun e => { e with key := .agg #[.int .i64 rule, .int .i64 p], val := (.agg #[.bool d, .bool ri, .int .i64 re, .int .i64 rf, .slice ao rt.length cap]) }) clock))) := by
  intro w' hw'
  obtain ⟨q, hq, hk, _⟩ := h.ent.get i hil
  refine run_map_old cellKey map_und hw' h.ent.isKey ⟨_, _, rfl⟩ hq (by rw [hk, ked, hki.1, hki.2]) (fun j hj y hy e => ?_)
  have hjl : j < KS.length := by omega
  obtain ⟨q', hq', hk', _⟩ := h.ent.get j hjl
  rw [hq'] at hy
  cases hy
  rw [hk'] at e
  have hb := keyB_iff (ked_eq e)
  have hj2 : (s.cells.map key)[j]? = some (rule, p) := by rw [← h.eq]; simp [hjl, key, hb.1, hb.2]
  obtain ⟨g1, g2⟩ := List.getElem?_eq_some_iff.1 hj2
  obtain ⟨g3, g4⟩ := List.getElem?_eq_some_iff.1 hi
  exact List.pairwise_iff_getElem.1 hnd j i g1 g3 hj (g2.trans g4.symm)
 have HSt : Hid (∀ w', TW K m w' s es clock KS → TrW w' ao cap rt → TW K m (setBlock w' m (.map (es.modify i fun e => { e with key := .agg #[.int .i64 rule, .int .i64 p], val := (.agg #[.bool d, .bool ri, .int .i64 re, .int .i64 rf, .slice ao rt.length cap]) }) clock)) { s with cells := s.cells.set i ⟨rule, p, d, ⟨ri, re, rf, rt, rr⟩⟩ } (es.modify i fun e => { e with key := .agg #[.int .i64 rule, .int .i64 p], val := (.agg #[.bool d, .bool ri, .int .i64 re, .int .i64 rf, .slice ao rt.length cap]) }) clock (KS.set i (⟨rule, p, d, ⟨ri, re, rf, rt, rr⟩⟩, (ao, cap))) ∧ PF K m w' (setBlock w' m (.map (es.modify i fun e => { e with key := .agg #[.int .i64 rule, .int .i64 p], val := (.agg #[.bool d, .bool ri, .int .i64 re, .int .i64 rf, .slice ao rt.length cap]) }) clock))) :=
  fun w' h' ht' => h'.setMap rfl (by rw [List.map_set, h'.eq]) (h'.ent.set ⟨rule, p, d, ⟨ri, re, rf, rt, rr⟩⟩ ao cap _ rfl) (fun c hc => (List.mem_or_eq_of_mem_set hc).elim (h'.trees c) (fun e => by rw [e]; exact ht'))
 clear h ht hi hnd hki hil
 go_enter Tryz.func87, Tryz.ntmps87
 go_upto_region 1 with (fail)
 revert HB0 HR0 H1 HT1
 generalize w.alloc _ = w1
 generalize hh0 : w.heap.size = h0
 intro HB0 HR0 H1 HT1
 have HF1 : Hid (PF K m w w1) := PF.below (hh0 ▸ HB0.out)
 clear HB0 hh0
 have p0 : w1.cell? ⟨K.g, 0, none⟩ = some (.map (some m)) := H1.out.obj.cell 0
 obtain ⟨b0, b1, b2, b3, b4⟩ := (HR0.out).c5
 go_still_tail 8, (by kernel_rfl)
 change wpList _ _ _ _ _ w1.drew
 have HD := Lib.hid ((Below.refl w1.heap.size w1).drew)
 have H2 := Lib.hid (H1.out.below HD.out)
 have HT2 := Lib.hid (HT1.out.step (.below HD.out))
 have HF2 := Lib.hid (HF1.out.trans (PF.below HD.out))
 clear p0 b0 b1 b2 b3 b4 HD H1 HF1 HR0 HT1
 revert H2 HF2 HT2
 generalize w1.drew = w2
 intro H2 HT2 HF2
 have hmu := HMu.out w2 H2.out.map
 have HS := Lib.hid (HSt.out w2 H2.out HT2.out)
 go_wp2_with fail
 go_end0
 exact ⟨rfl, HS.out.1, HF2.out.trans HS.out.2⟩
end Go.Proofs.YtdnkffplkleolaaGreat
namespace Go.Proofs.YtdnkffplkleolaaGreat
open Go.RowKit Go.ChangeMaps
set_option maxRecDepth 100000
set_option maxHeartbeats 1000000

theorem below_box {B : Nat} {w w2 wz : World} {h8 : Nat} (h : Below B w w2) (hf : Fr (fun k => k = h8) w2 wz) (hh : B ≤ h8) (hB : B ≤ w.heap.size) : Below B w wz :=
 h.trans (hf.below (Nat.le_trans hB h.size) (fun k hk e => by have e' : k = h8 := e; omega))
theorem pmiss_any (w : World) (far : Int) : Calls Tryz.prog 107 #[.int .i64 far] w fun e w' => e = .returned (gtv (failR far) none 0) ∧ Below w.heap.size w w' := by
 have HB := Lib.hid (fun x => al1 (Below.refl w.heap.size w) (.cells x 124))
 go_enter Tryz.func107, Tryz.ntmps107
 go_wp2_with fail
 exact bodyPost_ret (v := gtv (failR far) none 0) (by simp [results, Tryz.results107, go_sem, gtv, gcs, failR]) rfl ⟨rfl, HB.out _⟩
theorem pto_any (w : World) (en : Nat) : Calls Tryz.prog 139 #[.int .i64 en] w fun e w' => e = .returned (gtv (toR en) none 0) ∧ Below w.heap.size w w' := by
 have HB := Lib.hid (fun x => al1 (Below.refl w.heap.size w) (.cells x 124))
 go_enter Tryz.func139, Tryz.ntmps139
 go_wp2_with fail
 exact bodyPost_ret (v := gtv (toR en) none 0) (by simp [results, Tryz.results139, go_sem, gtv, gcs, toR]) rfl ⟨rfl, HB.out _⟩
theorem ptried_any (w : World) (r : Rs) (ao : Option Addr) (cap : Nat) (far : Int) : Calls Tryz.prog 140 #[gtv r ao cap, .int .i64 far] w fun e w' => e = .returned (gtv (triR r far) ao cap) ∧ Below w.heap.size w w' := by
 obtain ⟨ri, re, rf, rt, rr⟩ := r
 simp only [gtv, gcs, triR]
 obtain ⟨HB0, HR0, HZ0⟩ := box2 w #[.bool ri, .int .i64 re, .int .i64 rf, .slice ao rt.length cap] #[.bool false, .int .i64 0, .int .i64 0, .slice none 0 0] 124 124
 generalize hmx : max rf far = mx
 have HMx := Lib.hid hmx
 have hif : (if rf < far then far else rf) = mx := by rw [← hmx]; split <;> omega
 have HIf := Lib.hid hif
 clear hmx hif
 go_enter Tryz.func140, Tryz.ntmps140
 go_upto_region 1 with (fail)
 revert HB0 HR0 HZ0
 generalize (w.alloc _).alloc _ = w1
 generalize hh0 : w.heap.size + 1 = h1
 generalize hh1 : w.heap.size = h0
 intro HB0 HR0 HZ0
 have hne : h0 ≠ h1 := by omega
 have HH0 := Lib.hid hh1
 have HH1 : Hid (h0 ≤ h0 ∧ h0 ≤ h1) := ⟨by omega, by omega⟩
 clear hh0 hh1
 obtain ⟨b0, b1, b2, b3⟩ := (HR0.out).c4
 obtain ⟨bf0, bf1, bf2, bf3⟩ := (HR0.out).f4
 have HS : Hid (hrow (w1.setCell ⟨h0, 2, none⟩ (.int .i64 (if rf < far then far else rf))) h0 #[.bool ri, .int .i64 re, .int .i64 (if rf < far then far else rf), .slice ao rt.length cap] 124) := heap_setCell_same _ _ _ _ _ _ HR0.out.h
 have HZ1 := Lib.hid (HZ0.out.fr (Fr.setCell w1 ⟨h0, 2, none⟩ (.int .i64 (if rf < far then far else rf))) (fun e => hne e.symm))
 have HB1 := Lib.hid (HB0.out.setCell (p := ⟨h0, 2, none⟩) HH1.out.1 (.int .i64 (if rf < far then far else rf)))
 go_upto_region 2 with (fail)
 clear b0 b1 b2 b3 bf0 bf1 bf2 bf3 HB0 HR0 HZ0
 rw [HIf.out] at HS HZ1 HB1 ⊢
 revert HS HZ1 HB1
 generalize w1.setCell _ _ = w2
 intro HS HZ1 HB1
 obtain ⟨c0, c1, c2, c3⟩ := (HS.out).c4
 obtain ⟨zq0, zq1, zq2, zq3⟩ := (HZ1.out).c4
 obtain ⟨zf0, zf1, zf2, zf3⟩ := (HZ1.out).f4
 obtain ⟨ZR4, ZF4⟩ := set4_box (.bool ri) (.int .i64 re) (.int .i64 mx) (.slice ao rt.length cap) (HZ1.out)
 go_wp2_with fail
 revert ZR4 ZF4
 generalize (((w2.setCell _ _).setCell _ _).setCell _ _).setCell _ _ = wz
 intro ZR4 ZF4
 obtain ⟨zc0, zc1, zc2, zc3⟩ := (ZR4.out).c4
 exact bodyPost_ret (v := .agg #[.bool ri, .int .i64 re, .int .i64 mx, .slice ao rt.length cap]) (by simp [results, Tryz.results140, go_sem, zc0, zc1, zc2, zc3]) rfl (⟨rfl, by rw [HH0.out]; exact below_box HB1.out ZF4.out HH1.out.2 (by have := HH0.out; omega)⟩)
end Go.Proofs.YtdnkffplkleolaaGreat
namespace Go.Proofs.YtdnkffplkleolaaGreat
open Go.RowKit Go.ChangeMaps
set_option maxRecDepth 100000
set_option maxHeartbeats 1000000

theorem twU : Tryz.prog.underlying 32 = some (.slice 74) := by kernel_rfl
theorem clone_any (w : World) (ao : Option Addr) (cap : Nat) (t : List Tw) (h : Sv w ao t.length cap 5 (t.flatMap twc)) (hl : t.length ≤ 100000000) :
  Calls Tryz.prog 58 #[.slice ao t.length cap] w fun e w' => ∃ go gc, e = .returned (.slice go t.length gc) ∧ NewT w w' go gc t := by
 have HS := Lib.hid h
 cases ao with
 | none =>
  have hc : cap = 0 := h.nn rfl
  have hn : t.length = 0 := by have := h.le; omega
  have ht : t = [] := List.eq_nil_of_length_eq_zero hn
  subst ht
  subst hc
  clear h
  have hq : ∀ (w : World) (n c : Nat), (binOp .eql 32 (.slice none n c) (.slice none 0 0)).run Tryz.prog w = .ok (.bool true) w := fun w n c => Lib.run_eql_slice_nil (P := Tryz.prog) w 32 74 none n c 0 0 twU
  simp only [List.length_nil]
  go_enter Tryz.func58, Tryz.ntmps58
  go_wp2_with fail
  go_ret
  exact ⟨none, 0, rfl, Below.refl _ _, Sv.nil w 5, fun _ h => nomatch h⟩
 | some a =>
  clear h
  have HO := Lib.hid (twc_one t)
  have HT : Hid (∀ (v : Value) (w' : World), Own w w' 74 5 v (0 + t.length) ([] ++ t.flatMap twc) → ∃ ao cap, v = .slice ao t.length cap ∧ NewT w w' ao cap t) := fun v w' h => NewT.of (Nat.zero_add _) (by rwa [List.nil_append] at h)
  have HLn : Hid ((0 + t.length) * 40 ≤ 140737488355328 ∧ 0 + t.length ≤ maxLen) := by unfold Hid maxLen; omega
  generalize t.length = n at *
  have hq : ∀ (w : World) (a : Addr) (n c : Nat), (binOp .eql 32 (.slice (some a) n c) (.slice none 0 0)).run Tryz.prog w = .ok (.bool false) w := fun w a n c => Lib.run_eql_slice_nil (P := Tryz.prog) w 32 74 (some a) n c 0 0 twU
  go_enter Tryz.func58, Tryz.ntmps58
  go_wp2_with (at_builtin; refine wpList_apps w _ rfl _ _ 32 74 rfl elemTwR _ 0 [] rfl (Own.lit w 74 #[] 0 5 (by decide) rfl) (some a) n cap (t.flatMap twc) rfl (HS.out.below ((Below.refl _ _).alloc (Nat.le_refl _) _)) HO.out HLn.out.1 HLn.out.2 ?_; intro v' w3 hO1; have HO1 := Lib.hid hO1; clear hO1)
  go_ret
  obtain ⟨go, gc, rfl, hn⟩ := HT.out _ _ HO1.out
  exact ⟨go, gc, rfl, hn⟩

theorem grow_any (w : World) (n : Nat) (hl : n ≤ 1000000000) :
  Calls Tryz.prog 150 #[.slice none 0 0, .int .i64 n] w fun e w' => ∃ v, e = .returned v ∧ Own w w' 74 5 v 0 [] := by
 rcases Nat.eq_zero_or_pos n with rfl | hp
 ·go_enter Tryz.func150, Tryz.ntmps150
  go_wp2_with fail
  go_ret
  exact ⟨_, rfl, Own.nil w _ 5⟩
 ·obtain ⟨i, hi, hz, hz1, hz2⟩ := info_parts (elemTwR).i
  have hgc := grownCap_ge w n 0 74
  have hgm := grownCap_le_maxLen w n 0 74 (by unfold maxLen; omega)
  have hrz : ∀ ty, (Builtin.append_ #[32, 3] ty #[.slice none 0 0, .int .i64 n]).run Tryz.prog w =
    .ok (.slice (some ⟨w.heap.size, 0, none⟩) n (grownCap w n 0 74)) (w.drew.alloc (.cells (#[] ++ Builtin.zeroCells (Value.agg #[.int .i64 0, .int .i64 0, .int .i64 0, .int .i64 0, .int .i64 0]).cells n ++ Builtin.zeroCells (Value.agg #[.int .i64 0, .int .i64 0, .int .i64 0, .int .i64 0, .int .i64 0]).cells (grownCap w n 0 74 - n)) 74)) := fun ty => by
   have h := Lib.run_append_grow_zeros (P := Tryz.prog) w 32 3 ty 74 i _ .i64 .i64 twU (by kernel_rfl) hi hz none 0 0 [] (run_firstCells_none w.drew i.size 0 0 0) n hp (by omega) (by omega) (by omega) (by rw [hz2]; omega) (growslice_fits (by omega) (by rw [hz2]; omega))
   simpa using h
  have HOw : Hid (Own w (w.drew.alloc (.cells (#[] ++ Builtin.zeroCells (Value.agg #[.int .i64 0, .int .i64 0, .int .i64 0, .int .i64 0, .int .i64 0]).cells n ++ Builtin.zeroCells (Value.agg #[.int .i64 0, .int .i64 0, .int .i64 0, .int .i64 0, .int .i64 0]).cells (grownCap w n 0 74 - n)) 74)) 74 5 (.slice (some ⟨w.heap.size, 0, none⟩) 0 (grownCap w n 0 74)) 0 []) := by
   refine ⟨⟨rfl, .inr ⟨w.heap.size, _, _, rfl, Nat.le_refl _, heap_alloc_new w.drew _, Nat.zero_le _, hgm, ?_, by simp⟩⟩, (Below.refl _ _).drew.alloc (Nat.le_refl _) _⟩
   simp only [Array.size_append, size_zeroCells, Value.cells, Array.size_empty, Nat.zero_add]
   rw [← Nat.add_mul]
   simp
   omega
  clear hi hz hz1 hz2
  generalize grownCap w n 0 74 = G at *
  have hG : G ≤ 9223372036854775807 := by unfold maxLen at hgm; omega
  clear hgm
  generalize Builtin.zeroCells _ n = z1 at *
  generalize Builtin.zeroCells _ (G - n) = z2 at *
  go_enter Tryz.func150, Tryz.ntmps150
  go_wp2_with (at_builtin; refine Lib.wpList_append_run _ rfl _ _ _ _ rfl _ _ rfl rfl _ _ (hrz _) ?_)
  go_ret
  exact ⟨_, rfl, by have h := HOw.out; rw [Array.empty_append] at h; exact h⟩
end Go.Proofs.YtdnkffplkleolaaGreat
namespace Go.Proofs.YtdnkffplkleolaaGreat
open Go.RowKit Go.ChangeMaps
set_option maxRecDepth 100000
set_option maxHeartbeats 2000000

def szK (na nb k : Nat) : Nat := if k = 0 then 0 else if k = 1 then na else na + nb
def ceK (A B : List Value) (k : Nat) : List Value := if k = 0 then [] else if k = 1 then A else A ++ B

theorem concat_any (w : World) (g : Nat) (ao bo : Option Addr) (ac bc : Nat) (ta tb : List Tw) (hr : hrow w g #[.slice ao ta.length ac, .slice bo tb.length bc] 32) (ha : Sv w ao ta.length ac 5 (ta.flatMap twc)) (hb : Sv w bo tb.length bc 5 (tb.flatMap twc)) (hla : ta.length ≤ 100000000) (hlb : tb.length ≤ 100000000) :
  Calls Tryz.prog 147 #[.slice (some ⟨g, 0, none⟩) 2 2] w fun e w' => ∃ go gc, e = .returned (.slice go (ta ++ tb).length gc) ∧ NewT w w' go gc (ta ++ tb) := by
 have HR := Lib.hid hr
 have HA := Lib.hid ha
 have HB := Lib.hid hb
 have hab := ha.bound
 have hbb := hb.bound
 have HT : Hid (∀ (v : Value) (w' : World), Own w w' 74 5 v (ta.length + tb.length) (ta.flatMap twc ++ tb.flatMap twc) → ∃ ao cap, v = .slice ao (ta ++ tb).length cap ∧ NewT w w' ao cap (ta ++ tb)) := fun v w' h => by
  rw [← List.flatMap_append, ← List.length_append] at h
  exact NewT.of rfl h
 have HO1 := Lib.hid (twc_one ta)
 have HO2 := Lib.hid (twc_one tb)
 obtain ⟨c0, c1⟩ := (hr).c2
 generalize (ta ++ tb).length = nab at *
 generalize ta.length = na at *
 generalize tb.length = nb at *
 have HL1 : Hid ((0 + na) * 40 ≤ 140737488355328 ∧ 0 + na ≤ maxLen) := by unfold Hid maxLen; omega
 have HL2 : Hid ((na + nb) * 40 ≤ 140737488355328 ∧ na + nb ≤ maxLen) := by unfold Hid maxLen; omega
 clear hr ha hb
 go_enter Tryz.func147, Tryz.ntmps147
 go_wp2_with fail
 go_loopw [3, 11] (fun s i wr => ∃ k : Nat, k ≤ 2 ∧ i = .int .i64 k ∧ s = .int .i64 (szK na nb k : Nat) ∧ w = wr) (fun _ i _ => 2 - (intOf i).toNat)
 case atStart => exact ⟨0, by omega, rfl, rfl, rfl⟩
 case round =>
  obtain ⟨k, hk, rfl, rfl, rfl⟩ := hrel
  have hk3 : k = 0 ∨ k = 1 ∨ k = 2 := by omega
  rcases hk3 with rfl | rfl | rfl
  ·have e0 : szK na nb 0 = 0 := rfl
   rw [e0]
   clear e0
   go_wp2_with fail
   go_roundw
   case rel => exact ⟨1, by omega, rfl, rfl, trivial⟩
   case measure => simp [intOf]
  ·have e0 : szK na nb 1 = na := rfl
   rw [e0]
   clear e0
   go_wp2_with fail
   go_roundw
   case rel => exact ⟨2, by omega, rfl, by simp [szK], trivial⟩
   case measure => simp [intOf]
  ·have e0 : szK na nb 2 = na + nb := rfl
   rw [e0]
   clear e0
   go_wp2_with fail
   refine (grow_any w (na + nb) (by omega)).mono ?_
   rintro e w1 ⟨v, rfl, ho⟩
   have HOw := Lib.hid ho
   clear ho c0 c1
   go_wp2_with fail
   go_loopw [6, 27] (fun v i wx => ∃ k : Nat, k ≤ 2 ∧ i = .int .i64 k ∧ Hid (Own w wx 74 5 v (szK na nb k) (ceK (ta.flatMap twc) (tb.flatMap twc) k))) (fun _ i _ => 2 - (intOf i).toNat)
   case atStart => exact ⟨0, by omega, rfl, HOw.out⟩
   case round =>
    obtain ⟨k, hk, rfl, HI⟩ := hrel
    clear HOw
    have hk3 : k = 0 ∨ k = 1 ∨ k = 2 := by omega
    rcases hk3 with rfl | rfl | rfl
    ·have c0 : wr.cell? ⟨g, 0, none⟩ = some (.slice ao na ac) := (HR.out.below HI.out.2).cell 0
     have H0 : Hid (Own w wr 74 5 u6 0 []) := HI.out
     have HA1 := Lib.hid (HA.out.below HI.out.2)
     clear HI
     go_wp2_with (at_builtin; refine wpList_apps w _ rfl _ _ 32 74 rfl elemTwR _ 0 [] rfl H0.out ao na ac (ta.flatMap twc) rfl HA1.out HO1.out HL1.out.1 HL1.out.2 ?_; intro v' w3 hO1; have HN := Lib.hid hO1; clear hO1)
     go_roundw
     case rel => exact ⟨1, by omega, rfl, by have h := HN.out; rw [Nat.zero_add, List.nil_append] at h; exact h⟩
     case measure => simp [intOf]
    ·have c1 : wr.cell? ⟨g, 1, none⟩ = some (.slice bo nb bc) := (HR.out.below HI.out.2).cell 1
     have H0 : Hid (Own w wr 74 5 u6 na (ta.flatMap twc)) := HI.out
     have HB1 := Lib.hid (HB.out.below HI.out.2)
     clear HI
     go_wp2_with (at_builtin; refine wpList_apps w _ rfl _ _ 32 74 rfl elemTwR _ na _ rfl H0.out bo nb bc (tb.flatMap twc) rfl HB1.out HO2.out HL2.out.1 HL2.out.2 ?_; intro v' w3 hO1; have HN := Lib.hid hO1; clear hO1)
     go_roundw
     case rel => exact ⟨2, by omega, rfl, HN.out⟩
     case measure => simp [intOf]
    ·go_wp2_with fail
     go_ret
     obtain ⟨go, gc, rfl, hn⟩ := HT.out _ _ HI.out
     exact ⟨go, gc, rfl, hn⟩
end Go.Proofs.YtdnkffplkleolaaGreat
