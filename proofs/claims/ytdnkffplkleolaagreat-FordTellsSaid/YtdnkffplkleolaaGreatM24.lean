/- Walks and plain laws: Ro Lo Ta. -/
import Derived.Test.YtdnkffplkleolaaGreatM23
import Derived.Deep.RegionHeld3
import Derived.Test.YtdnkffplkleolaaGreatM10
import Derived.KernelRfl
import Derived.Test.YtdnkffplkleolaaGreatM18
namespace Go.Proofs.YtdnkffplkleolaaGreat
open Go.RowKit
set_option maxRecDepth 100000
set_option maxHeartbeats 4000000

/-- What is told of a match. -/
structure Ot where
 is : Bool
 en : Int
 far : Int
 tree : List Tw
 n : Int
 e : Int
def otE (e : Int) : Ot := ⟨false, 0, 0, [], 0, e⟩
def outK (o : Rs × St) : Ot := if o.2.round then otE 13 else if o.1.is then ⟨true, o.1.en, o.1.far, o.1.tree, o.2.cells.length, 0⟩ else ⟨false, 0, o.1.far, [], o.2.cells.length, 0⟩
def outW (G : Gr) (W : List Nat) (rule place : Int) : Ot :=
 if rightR G = false then otE 4 else if 2048 < W.length then otE 3 else if rule < 0 ∨ G.rules.length ≤ rule then otE 2 else if place < 0 ∨ W.length < place then otE 6 else outK (runR G W rule.toNat place.toNat)
/-- It is told, with a tree of its own. -/
def Told (w : World) (o : Ot) (e : Ending) (w' : World) : Prop := ∃ ao cap, e = .returned (.tuple #[.agg #[.bool o.is, .int .i64 o.en, .int .i64 o.far, .slice ao o.tree.length cap], .int .i64 o.n, .int .i64 o.e]) ∧ Below w.heap.size w w' ∧ TrW w' ao cap o.tree

def set4 (w : World) (g : Nat) (x0 x1 x2 x3 : Value) : World := (((w.setCell ⟨g, 0, none⟩ x0).setCell ⟨g, 1, none⟩ x1).setCell ⟨g, 2, none⟩ x2).setCell ⟨g, 3, none⟩ x3
theorem set4_fr (w : World) (g : Nat) (x0 x1 x2 x3 : Value) : Fr (fun k => k = g) w (set4 w g x0 x1 x2 x3) :=
 (((Fr.setCell w ⟨g, 0, none⟩ x0).trans (Fr.setCell _ ⟨g, 1, none⟩ x1) (fun _ _ h => h)).trans (Fr.setCell _ ⟨g, 2, none⟩ x2) (fun _ _ h => h)).trans (Fr.setCell _ ⟨g, 3, none⟩ x3) (fun _ _ h => h)
theorem set4_row {w : World} {g : Nat} {a0 a1 a2 a3 : Value} {t : TypeId} (x0 x1 x2 x3 : Value) (h : hrow w g #[a0, a1, a2, a3] t) : hrow (set4 w g x0 x1 x2 x3) g #[x0, x1, x2, x3] t := by
 have h1 : hrow (w.setCell ⟨g, 0, none⟩ x0) g #[x0, a1, a2, a3] t := heap_setCell_same _ _ _ _ _ _ h.h
 have h2 : hrow ((w.setCell ⟨g, 0, none⟩ x0).setCell ⟨g, 1, none⟩ x1) g #[x0, x1, a2, a3] t := heap_setCell_same _ _ _ _ _ _ h1.h
 have h3 : hrow (((w.setCell ⟨g, 0, none⟩ x0).setCell ⟨g, 1, none⟩ x1).setCell ⟨g, 2, none⟩ x2) g #[x0, x1, x2, a3] t := heap_setCell_same _ _ _ _ _ _ h2.h
 exact heap_setCell_same _ _ _ _ _ _ h3.h

theorem box1 (w : World) (v : Array Value) (t : TypeId) : Hid (Below w.heap.size w (w.alloc (.cells v t))) ∧ Hid (hrow (w.alloc (.cells v t)) w.heap.size v t) :=
 ⟨(Below.refl _ _).alloc (Nat.le_refl _) _, hrow.new w v t⟩
theorem box2 (w : World) (a b : Array Value) (ta tb : TypeId) : Hid (Below w.heap.size w ((w.alloc (.cells a ta)).alloc (.cells b tb))) ∧ Hid (hrow ((w.alloc (.cells a ta)).alloc (.cells b tb)) w.heap.size a ta) ∧ Hid (hrow ((w.alloc (.cells a ta)).alloc (.cells b tb)) (w.heap.size + 1) b tb) :=
 ⟨al2 (Below.refl w.heap.size w) _ _, (hrow.new w a ta).below ((Below.refl _ _).alloc (Nat.le_refl _) _), by have h := hrow.new (w.alloc (.cells a ta)) b tb; rw [World.size_alloc] at h; exact h⟩
theorem set4_box {w : World} {g : Nat} {a0 a1 a2 a3 : Value} {t : TypeId} (x0 x1 x2 x3 : Value) (h : hrow w g #[a0, a1, a2, a3] t) : Hid (hrow ((((w.setCell ⟨g, 0, none⟩ x0).setCell ⟨g, 1, none⟩ x1).setCell ⟨g, 2, none⟩ x2).setCell ⟨g, 3, none⟩ x3) g #[x0, x1, x2, x3] t) ∧ Hid (Fr (fun k => k = g) w ((((w.setCell ⟨g, 0, none⟩ x0).setCell ⟨g, 1, none⟩ x1).setCell ⟨g, 2, none⟩ x2).setCell ⟨g, 3, none⟩ x3)) :=
 ⟨set4_row x0 x1 x2 x3 h, set4_fr w g x0 x1 x2 x3⟩
theorem set4_cell {w : World} {g : Nat} {x0 x1 x2 x3 : Value} {a : Addr} {x : Value} (h : w.cell? a = some x) (hk : a.block ≠ g) : ((((w.setCell ⟨g, 0, none⟩ x0).setCell ⟨g, 1, none⟩ x1).setCell ⟨g, 2, none⟩ x2).setCell ⟨g, 3, none⟩ x3).drew.cell? a = some x := by
 have e := ((set4_fr w g x0 x1 x2 x3).trans (Fr.of_below (F := fun _ => False) (Below.refl _ _).drew) (fun _ _ h => h.elim)).block a.block (World.block_lt_of_cell? _ _ h) hk
 unfold set4 at e
 generalize ((((w.setCell ⟨g, 0, none⟩ x0).setCell ⟨g, 1, none⟩ x1).setCell ⟨g, 2, none⟩ x2).setCell ⟨g, 3, none⟩ x3).drew = w' at e ⊢
 exact (World.cell?_of_block (a := a) e).trans h
theorem told_below {w w2 wz : World} {h8 : Nat} (h : Below w.heap.size w w2) (hf : Fr (fun k => k = h8) w2 wz) (hh : w.heap.size ≤ h8) : Below w.heap.size w wz :=
 h.trans (hf.below h.size (fun k hk e => by have e' : k = h8 := e; omega))
section
variable (w : World) (ro : Option Addr) (rn rc : Nat) (no : Option Addr) (nn nc : Nat) (NK : List (Nd × (Option Addr × Nat))) (G : Gr) (hG : GrW w ro rn rc no nn nc NK G) (wo : Option Addr) (wn wc : Nat) (W : List Nat) (hW : InW w wo wn wc W) (hcl : ClsOk G) (hw : wn ≤ 2048)
include hG hW
theorem rmatch_shape (rule place : Int) (hr : rightR G = false) :
  Calls Tryz.prog 13 #[grv ro rn rc no nn nc, .slice wo wn wc, .int .i64 rule, .int .i64 place] w (Told w (outW G W rule place)) := by
 have HFin : Hid (outW G W rule place = otE 4) := by unfold Hid outW; rw [if_pos hr]
 have HRv := Lib.hid hr
 clear hr
 have hrl : G.rules.length = rn := hG.rul.n_eq ruc_len (by decide)
 have hrb := hG.rul.bound
 have hwb := hW.sv.bound
 have hwl := hW.len
 have HRr := Lib.hid (fun (b : Bool) (w' : World) (hb : rightR G = b) (hw' : Below w.heap.size w w') => rright_lit (w := w) ro rn rc no nn nc NK G b hG hb hw')
 obtain ⟨HB0, HR0, HZ0⟩ := box2 w #[.slice ro rn rc, .slice no nn nc] #[.bool false, .int .i64 0, .int .i64 0, .slice none 0 0] 25 34
 unfold grv
 go_enter Tryz.func13, Tryz.ntmps13
 go_wp2_with fail
 revert HB0 HR0 HZ0
 generalize (w.alloc _).alloc _ = w1
 generalize hh8 : w.heap.size + 1 = h8
 intro HB0 HR0 HZ0
 have HH8 := Lib.hid hh8
 clear hh8
 refine (HRr.out false _ HRv.out HB0.out).mono ?_
 rintro e w2 ⟨rfl, hb2⟩
 have HB2 := Lib.hid (HB0.out.trans (hb2.mono HB0.out.size))
 have HR2 := Lib.hid (HR0.out.below hb2)
 have HZ2 := Lib.hid (HZ0.out.below hb2)
 clear hb2 HB0 HR0 HZ0
 obtain ⟨zq0, zq1, zq2, zq3⟩ := (HZ2.out).c4
 obtain ⟨zf0, zf1, zf2, zf3⟩ := (HZ2.out).f4
 obtain ⟨ZR4, ZF4⟩ := set4_box (.bool false) (.int .i64 0) (.int .i64 0) (.slice none 0 0) (HZ2.out)
 go_wp2_with fail
 revert ZR4 ZF4
 generalize (((w2.setCell _ _).setCell _ _).setCell _ _).setCell _ _ = wz
 intro ZR4 ZF4
 obtain ⟨zc0, zc1, zc2, zc3⟩ := (ZR4.out).c4
 exact bodyPost_ret (v := .tuple #[.agg #[.bool false, .int .i64 0, .int .i64 0, .slice none 0 0], .int .i64 0, .int .i64 4]) (by simp [results, Tryz.results13, go_sem, zc0, zc1, zc2, zc3]) rfl (⟨none, 0, by rw [HFin.out]; rfl, told_below HB2.out ZF4.out (by have := HH8.out; omega), by rw [HFin.out]; exact TrW.nil _⟩)
include hw
theorem rmatch_rule_lo (rule place : Int) (hr : rightR G = true) (h1 : rule < 0) :
  Calls Tryz.prog 13 #[grv ro rn rc no nn nc, .slice wo wn wc, .int .i64 rule, .int .i64 place] w (Told w (outW G W rule place)) := by
 have hrl : G.rules.length = rn := hG.rul.n_eq ruc_len (by decide)
 have hrb := hG.rul.bound
 have hwb := hW.sv.bound
 have hwl := hW.len
 have HRr := Lib.hid (fun (b : Bool) (w' : World) (hb : rightR G = b) (hw' : Below w.heap.size w w') => rright_lit (w := w) ro rn rc no nn nc NK G b hG hb hw')
 obtain ⟨HB0, HR0, HZ0⟩ := box2 w #[.slice ro rn rc, .slice no nn nc] #[.bool false, .int .i64 0, .int .i64 0, .slice none 0 0] 25 34
 have HFin : Hid (outW G W rule place = otE 2) := by unfold Hid outW; rw [if_neg (by simp [hr]), if_neg (by omega), if_pos (by omega)]
 have HRv := Lib.hid hr
 clear hr hwl hrl
 unfold grv
 go_enter Tryz.func13, Tryz.ntmps13
 go_wp2_with fail
 revert HB0 HR0 HZ0
 generalize (w.alloc _).alloc _ = w1
 generalize hh8 : w.heap.size + 1 = h8
 intro HB0 HR0 HZ0
 have HH8 := Lib.hid hh8
 clear hh8
 refine (HRr.out true _ HRv.out HB0.out).mono ?_
 rintro e w2 ⟨rfl, hb2⟩
 have HB2 := Lib.hid (HB0.out.trans (hb2.mono HB0.out.size))
 have HR2 := Lib.hid (HR0.out.below hb2)
 have HZ2 := Lib.hid (HZ0.out.below hb2)
 clear hb2 HB0 HR0 HZ0
 have g0 : w2.cell? ⟨w.heap.size, 0, none⟩ = some (.slice ro rn rc) := HR2.out.cell 0
 obtain ⟨zq0, zq1, zq2, zq3⟩ := (HZ2.out).c4
 obtain ⟨zf0, zf1, zf2, zf3⟩ := (HZ2.out).f4
 obtain ⟨ZR4, ZF4⟩ := set4_box (.bool false) (.int .i64 0) (.int .i64 0) (.slice none 0 0) (HZ2.out)
 go_wp2_with fail
 revert ZR4 ZF4
 generalize (((w2.setCell _ _).setCell _ _).setCell _ _).setCell _ _ = wz
 intro ZR4 ZF4
 obtain ⟨zc0, zc1, zc2, zc3⟩ := (ZR4.out).c4
 exact bodyPost_ret (v := .tuple #[.agg #[.bool false, .int .i64 0, .int .i64 0, .slice none 0 0], .int .i64 0, .int .i64 2]) (by simp [results, Tryz.results13, go_sem, zc0, zc1, zc2, zc3]) rfl (⟨none, 0, by rw [HFin.out]; rfl, told_below HB2.out ZF4.out (by have := HH8.out; omega), by rw [HFin.out]; exact TrW.nil _⟩)
theorem rmatch_rule_hi (rule place : Int) (hr : rightR G = true) (h1 : 0 ≤ rule) (h2 : rn ≤ rule) :
  Calls Tryz.prog 13 #[grv ro rn rc no nn nc, .slice wo wn wc, .int .i64 rule, .int .i64 place] w (Told w (outW G W rule place)) := by
 have hrl : G.rules.length = rn := hG.rul.n_eq ruc_len (by decide)
 have hrb := hG.rul.bound
 have hwb := hW.sv.bound
 have hwl := hW.len
 have HRr := Lib.hid (fun (b : Bool) (w' : World) (hb : rightR G = b) (hw' : Below w.heap.size w w') => rright_lit (w := w) ro rn rc no nn nc NK G b hG hb hw')
 obtain ⟨HB0, HR0, HZ0⟩ := box2 w #[.slice ro rn rc, .slice no nn nc] #[.bool false, .int .i64 0, .int .i64 0, .slice none 0 0] 25 34
 have HFin : Hid (outW G W rule place = otE 2) := by unfold Hid outW; rw [if_neg (by simp [hr]), if_neg (by omega), if_pos (by omega)]
 have HRv := Lib.hid hr
 clear hr hwl hrl
 unfold grv
 go_enter Tryz.func13, Tryz.ntmps13
 go_wp2_with fail
 revert HB0 HR0 HZ0
 generalize (w.alloc _).alloc _ = w1
 generalize hh8 : w.heap.size + 1 = h8
 intro HB0 HR0 HZ0
 have HH8 := Lib.hid hh8
 clear hh8
 refine (HRr.out true _ HRv.out HB0.out).mono ?_
 rintro e w2 ⟨rfl, hb2⟩
 have HB2 := Lib.hid (HB0.out.trans (hb2.mono HB0.out.size))
 have HR2 := Lib.hid (HR0.out.below hb2)
 have HZ2 := Lib.hid (HZ0.out.below hb2)
 clear hb2 HB0 HR0 HZ0
 have g0 : w2.cell? ⟨w.heap.size, 0, none⟩ = some (.slice ro rn rc) := HR2.out.cell 0
 obtain ⟨zq0, zq1, zq2, zq3⟩ := (HZ2.out).c4
 obtain ⟨zf0, zf1, zf2, zf3⟩ := (HZ2.out).f4
 obtain ⟨ZR4, ZF4⟩ := set4_box (.bool false) (.int .i64 0) (.int .i64 0) (.slice none 0 0) (HZ2.out)
 go_wp2_with fail
 revert ZR4 ZF4
 generalize (((w2.setCell _ _).setCell _ _).setCell _ _).setCell _ _ = wz
 intro ZR4 ZF4
 obtain ⟨zc0, zc1, zc2, zc3⟩ := (ZR4.out).c4
 exact bodyPost_ret (v := .tuple #[.agg #[.bool false, .int .i64 0, .int .i64 0, .slice none 0 0], .int .i64 0, .int .i64 2]) (by simp [results, Tryz.results13, go_sem, zc0, zc1, zc2, zc3]) rfl (⟨none, 0, by rw [HFin.out]; rfl, told_below HB2.out ZF4.out (by have := HH8.out; omega), by rw [HFin.out]; exact TrW.nil _⟩)
theorem rmatch_place_lo (rule place : Int) (hr : rightR G = true) (h1 : 0 ≤ rule) (h2 : rule < rn) (h3 : place < 0) :
  Calls Tryz.prog 13 #[grv ro rn rc no nn nc, .slice wo wn wc, .int .i64 rule, .int .i64 place] w (Told w (outW G W rule place)) := by
 have hrl : G.rules.length = rn := hG.rul.n_eq ruc_len (by decide)
 have hrb := hG.rul.bound
 have hwb := hW.sv.bound
 have hwl := hW.len
 have HRr := Lib.hid (fun (b : Bool) (w' : World) (hb : rightR G = b) (hw' : Below w.heap.size w w') => rright_lit (w := w) ro rn rc no nn nc NK G b hG hb hw')
 obtain ⟨HB0, HR0, HZ0⟩ := box2 w #[.slice ro rn rc, .slice no nn nc] #[.bool false, .int .i64 0, .int .i64 0, .slice none 0 0] 25 34
 have HFin : Hid (outW G W rule place = otE 6) := by unfold Hid outW; rw [if_neg (by simp [hr]), if_neg (by omega), if_neg (by omega), if_pos (by omega)]
 have HRv := Lib.hid hr
 clear hr hwl hrl
 unfold grv
 go_enter Tryz.func13, Tryz.ntmps13
 go_wp2_with fail
 revert HB0 HR0 HZ0
 generalize (w.alloc _).alloc _ = w1
 generalize hh8 : w.heap.size + 1 = h8
 intro HB0 HR0 HZ0
 have HH8 := Lib.hid hh8
 clear hh8
 refine (HRr.out true _ HRv.out HB0.out).mono ?_
 rintro e w2 ⟨rfl, hb2⟩
 have HB2 := Lib.hid (HB0.out.trans (hb2.mono HB0.out.size))
 have HR2 := Lib.hid (HR0.out.below hb2)
 have HZ2 := Lib.hid (HZ0.out.below hb2)
 clear hb2 HB0 HR0 HZ0
 have g0 : w2.cell? ⟨w.heap.size, 0, none⟩ = some (.slice ro rn rc) := HR2.out.cell 0
 obtain ⟨zq0, zq1, zq2, zq3⟩ := (HZ2.out).c4
 obtain ⟨zf0, zf1, zf2, zf3⟩ := (HZ2.out).f4
 obtain ⟨ZR4, ZF4⟩ := set4_box (.bool false) (.int .i64 0) (.int .i64 0) (.slice none 0 0) (HZ2.out)
 go_wp2_with fail
 revert ZR4 ZF4
 generalize (((w2.setCell _ _).setCell _ _).setCell _ _).setCell _ _ = wz
 intro ZR4 ZF4
 obtain ⟨zc0, zc1, zc2, zc3⟩ := (ZR4.out).c4
 exact bodyPost_ret (v := .tuple #[.agg #[.bool false, .int .i64 0, .int .i64 0, .slice none 0 0], .int .i64 0, .int .i64 6]) (by simp [results, Tryz.results13, go_sem, zc0, zc1, zc2, zc3]) rfl (⟨none, 0, by rw [HFin.out]; rfl, told_below HB2.out ZF4.out (by have := HH8.out; omega), by rw [HFin.out]; exact TrW.nil _⟩)
theorem rmatch_place_hi (rule place : Int) (hr : rightR G = true) (h1 : 0 ≤ rule) (h2 : rule < rn) (h3 : 0 ≤ place) (h4 : wn < place) :
  Calls Tryz.prog 13 #[grv ro rn rc no nn nc, .slice wo wn wc, .int .i64 rule, .int .i64 place] w (Told w (outW G W rule place)) := by
 have hrl : G.rules.length = rn := hG.rul.n_eq ruc_len (by decide)
 have hrb := hG.rul.bound
 have hwb := hW.sv.bound
 have hwl := hW.len
 have HRr := Lib.hid (fun (b : Bool) (w' : World) (hb : rightR G = b) (hw' : Below w.heap.size w w') => rright_lit (w := w) ro rn rc no nn nc NK G b hG hb hw')
 obtain ⟨HB0, HR0, HZ0⟩ := box2 w #[.slice ro rn rc, .slice no nn nc] #[.bool false, .int .i64 0, .int .i64 0, .slice none 0 0] 25 34
 have HFin : Hid (outW G W rule place = otE 6) := by unfold Hid outW; rw [if_neg (by simp [hr]), if_neg (by omega), if_neg (by omega), if_pos (by omega)]
 have HRv := Lib.hid hr
 clear hr hwl hrl
 unfold grv
 go_enter Tryz.func13, Tryz.ntmps13
 go_wp2_with fail
 revert HB0 HR0 HZ0
 generalize (w.alloc _).alloc _ = w1
 generalize hh8 : w.heap.size + 1 = h8
 intro HB0 HR0 HZ0
 have HH8 := Lib.hid hh8
 clear hh8
 refine (HRr.out true _ HRv.out HB0.out).mono ?_
 rintro e w2 ⟨rfl, hb2⟩
 have HB2 := Lib.hid (HB0.out.trans (hb2.mono HB0.out.size))
 have HR2 := Lib.hid (HR0.out.below hb2)
 have HZ2 := Lib.hid (HZ0.out.below hb2)
 clear hb2 HB0 HR0 HZ0
 have g0 : w2.cell? ⟨w.heap.size, 0, none⟩ = some (.slice ro rn rc) := HR2.out.cell 0
 obtain ⟨zq0, zq1, zq2, zq3⟩ := (HZ2.out).c4
 obtain ⟨zf0, zf1, zf2, zf3⟩ := (HZ2.out).f4
 obtain ⟨ZR4, ZF4⟩ := set4_box (.bool false) (.int .i64 0) (.int .i64 0) (.slice none 0 0) (HZ2.out)
 go_wp2_with fail
 revert ZR4 ZF4
 generalize (((w2.setCell _ _).setCell _ _).setCell _ _).setCell _ _ = wz
 intro ZR4 ZF4
 obtain ⟨zc0, zc1, zc2, zc3⟩ := (ZR4.out).c4
 exact bodyPost_ret (v := .tuple #[.agg #[.bool false, .int .i64 0, .int .i64 0, .slice none 0 0], .int .i64 0, .int .i64 6]) (by simp [results, Tryz.results13, go_sem, zc0, zc1, zc2, zc3]) rfl (⟨none, 0, by rw [HFin.out]; rfl, told_below HB2.out ZF4.out (by have := HH8.out; omega), by rw [HFin.out]; exact TrW.nil _⟩)
include hcl
theorem rmatch_round (rule p : Nat) (hok : Ask G wn rule p) (xe : Nat) (xf : Int) (xt : List Tw) (xr : Nat) (cs : List Ce) (L : Nat) (ov : Bool) (xi : Bool) (ho : runR G W rule p = (⟨xi, xe, xf, xt, xr⟩, ⟨cs, true, L, ov⟩)) :
  Calls Tryz.prog 13 #[grv ro rn rc no nn nc, .slice wo wn wc, .int .i64 rule, .int .i64 p] w (Told w (outK (⟨xi, xe, xf, xt, xr⟩, ⟨cs, true, L, ov⟩))) := by
 have hrl : G.rules.length = rn := hG.rul.n_eq ruc_len (by decide)
 have hrb := hG.rul.bound
 have hwb := hW.sv.bound
 have hwl := hW.len
 have HRr := Lib.hid (fun (b : Bool) (w' : World) (hb : rightR G = b) (hw' : Below w.heap.size w w') => rright_lit (w := w) ro rn rc no nn nc NK G b hG hb hw')
 obtain ⟨HB0, HR0, HZ0⟩ := box2 w #[.slice ro rn rc, .slice no nn nc] #[.bool false, .int .i64 0, .int .i64 0, .slice none 0 0] 25 34
 have hr1 := hok.r1
 have hp1 := hok.p1
 have HRun := Lib.hid (fun (w' : World) (hb : Below w.heap.size w w') => ho ▸ rrun_any (hG.below hb) (hW.below hb) hcl hw hok.right rule p (by omega) (by omega))
 have HRv := Lib.hid hok.right
 rw [hrl] at hr1
 have q0 : (0 : Int) ≤ rule := by omega
 have q1 : (0 : Int) ≤ p := by omega
 have q2 : (wn : Int) ≤ 2048 := by omega
 clear hrl hwl hok ho
 unfold grv
 go_enter Tryz.func13, Tryz.ntmps13
 go_wp2_with fail
 revert HB0 HR0 HZ0
 generalize (w.alloc _).alloc _ = w1
 generalize hh8 : w.heap.size + 1 = h8
 intro HB0 HR0 HZ0
 have HH8 := Lib.hid hh8
 clear hh8
 refine (HRr.out true _ HRv.out HB0.out).mono ?_
 rintro e w2 ⟨rfl, hb2⟩
 have HB2 := Lib.hid (HB0.out.trans (hb2.mono HB0.out.size))
 have HR2 := Lib.hid (HR0.out.below hb2)
 have HZ2 := Lib.hid (HZ0.out.below hb2)
 clear hb2 HB0 HR0 HZ0
 obtain ⟨g0, g1⟩ := (HR2.out).c2
 have HRn := Lib.hid (HRun.out w2 HB2.out)
 have HAl := Lib.hid (Below.refl w2.heap.size w2 |>.alloc (Nat.le_refl _) (.cells #[.slice ro rn rc, .slice no nn nc, .slice wo wn wc, .slice none 0 0, .bool false, .int .i64 20000, .bool false] 62))
 clear HRun
 go_upto_region 11 with (go_at_call 23; refine (HRn.out).mono ?_; rintro e w6 ⟨v6, KS6, o6, c6, rfl, i1, i2, i3⟩; simp only [rsv, rcs] at i2 ⊢; have I1 := Lib.hid i1; have I2 := Lib.hid i2; have I3 := Lib.hid ((RF.below HAl.out).trans i3); clear i1 i2 i3)
 have HB6 : Hid (Below w.heap.size w w6) := HB2.out.trans (I1.out.low.mono HB2.out.size)
 have HZ6 := Lib.hid (HZ2.out.rf I3.out (by decide) (by decide))
 obtain ⟨HA6, H9⟩ := box1 w6 #[.bool xi, .int .i64 xe, .int .i64 xf, .slice o6 xt.length c6, .int .i64 xr] 64
 have L1 := Lib.hid (I1.out.below HA6.out)
 have L2 := Lib.hid (I2.out.step (.below HA6.out))
 have L3 := Lib.hid (HB6.out.trans (HA6.out.mono HB6.out.size))
 have L4 := Lib.hid (HZ6.out.below HA6.out)
 have HNe : Hid (h8 < w6.heap.size) := HZ6.out.lt
 have HNe2 : Hid (h8 < w2.heap.size) := HZ2.out.lt
 clear I1 I2 I3 HB6 HZ6 HA6 g0 g1 HRn HAl HR2 HZ2
 revert H9 L1 L2 L3 L4 HNe
 generalize w6.alloc _ = w7
 generalize w6.heap.size = h9
 intro H9 L1 L2 L3 L4 HNe
 obtain ⟨e0, e1, e2, e3, -⟩ := (H9.out).c5
 have p4 : w7.cell? ⟨w2.heap.size, 4, none⟩ = some (.bool true) := L1.out.obj.cell 4
 obtain ⟨ao6, cap6, hv6, hc6, hd6⟩ := L1.out.slc
 subst hv6
 have p3 : w7.cell? ⟨w2.heap.size, 3, none⟩ = some (.slice ao6 KS6.length cap6) := L1.out.obj.cell 3
 have HKl : Hid (KS6.length = cs.length) := by have h := congrArg List.length L1.out.eq; show KS6.length = cs.length; simpa using h
 obtain ⟨zq0, zq1, zq2, zq3⟩ := (L4.out).c4
 obtain ⟨zf0, zf1, zf2, zf3⟩ := (L4.out).f4
 obtain ⟨ZR4, ZF4⟩ := set4_box (.bool false) (.int .i64 0) (.int .i64 0) (.slice none 0 0) (L4.out)
 go_wp2_with fail
 revert ZR4 ZF4
 generalize (((w7.setCell _ _).setCell _ _).setCell _ _).setCell _ _ = wz
 intro ZR4 ZF4
 obtain ⟨zc0, zc1, zc2, zc3⟩ := (ZR4.out).c4
 exact bodyPost_ret (v := .tuple #[.agg #[.bool false, .int .i64 0, .int .i64 0, .slice none 0 0], .int .i64 0, .int .i64 13]) (by simp [results, Tryz.results13, go_sem, zc0, zc1, zc2, zc3]) rfl (⟨none, 0, rfl, told_below L3.out ZF4.out (by have := HH8.out; omega), TrW.nil _⟩)
theorem rmatch_no (rule p : Nat) (hok : Ask G wn rule p) (xe : Nat) (xf : Int) (xt : List Tw) (xr : Nat) (cs : List Ce) (L : Nat) (ov : Bool) (ho : runR G W rule p = (⟨false, xe, xf, xt, xr⟩, ⟨cs, false, L, ov⟩)) :
  Calls Tryz.prog 13 #[grv ro rn rc no nn nc, .slice wo wn wc, .int .i64 rule, .int .i64 p] w (Told w (outK (⟨false, xe, xf, xt, xr⟩, ⟨cs, false, L, ov⟩))) := by
 have hrl : G.rules.length = rn := hG.rul.n_eq ruc_len (by decide)
 have hrb := hG.rul.bound
 have hwb := hW.sv.bound
 have hwl := hW.len
 have HRr := Lib.hid (fun (b : Bool) (w' : World) (hb : rightR G = b) (hw' : Below w.heap.size w w') => rright_lit (w := w) ro rn rc no nn nc NK G b hG hb hw')
 obtain ⟨HB0, HR0, HZ0⟩ := box2 w #[.slice ro rn rc, .slice no nn nc] #[.bool false, .int .i64 0, .int .i64 0, .slice none 0 0] 25 34
 have hr1 := hok.r1
 have hp1 := hok.p1
 have HRun := Lib.hid (fun (w' : World) (hb : Below w.heap.size w w') => ho ▸ rrun_any (hG.below hb) (hW.below hb) hcl hw hok.right rule p (by omega) (by omega))
 have HRv := Lib.hid hok.right
 rw [hrl] at hr1
 have q0 : (0 : Int) ≤ rule := by omega
 have q1 : (0 : Int) ≤ p := by omega
 have q2 : (wn : Int) ≤ 2048 := by omega
 clear hrl hwl hok ho
 unfold grv
 go_enter Tryz.func13, Tryz.ntmps13
 go_wp2_with fail
 revert HB0 HR0 HZ0
 generalize (w.alloc _).alloc _ = w1
 generalize hh8 : w.heap.size + 1 = h8
 intro HB0 HR0 HZ0
 have HH8 := Lib.hid hh8
 clear hh8
 refine (HRr.out true _ HRv.out HB0.out).mono ?_
 rintro e w2 ⟨rfl, hb2⟩
 have HB2 := Lib.hid (HB0.out.trans (hb2.mono HB0.out.size))
 have HR2 := Lib.hid (HR0.out.below hb2)
 have HZ2 := Lib.hid (HZ0.out.below hb2)
 clear hb2 HB0 HR0 HZ0
 obtain ⟨g0, g1⟩ := (HR2.out).c2
 have HRn := Lib.hid (HRun.out w2 HB2.out)
 have HAl := Lib.hid (Below.refl w2.heap.size w2 |>.alloc (Nat.le_refl _) (.cells #[.slice ro rn rc, .slice no nn nc, .slice wo wn wc, .slice none 0 0, .bool false, .int .i64 20000, .bool false] 62))
 clear HRun
 go_upto_region 11 with (go_at_call 23; refine (HRn.out).mono ?_; rintro e w6 ⟨v6, KS6, o6, c6, rfl, i1, i2, i3⟩; simp only [rsv, rcs] at i2 ⊢; have I1 := Lib.hid i1; have I2 := Lib.hid i2; have I3 := Lib.hid ((RF.below HAl.out).trans i3); clear i1 i2 i3)
 have HB6 : Hid (Below w.heap.size w w6) := HB2.out.trans (I1.out.low.mono HB2.out.size)
 have HZ6 := Lib.hid (HZ2.out.rf I3.out (by decide) (by decide))
 obtain ⟨HA6, H9⟩ := box1 w6 #[.bool false, .int .i64 xe, .int .i64 xf, .slice o6 xt.length c6, .int .i64 xr] 64
 have L1 := Lib.hid (I1.out.below HA6.out)
 have L2 := Lib.hid (I2.out.step (.below HA6.out))
 have L3 := Lib.hid (HB6.out.trans (HA6.out.mono HB6.out.size))
 have L4 := Lib.hid (HZ6.out.below HA6.out)
 have HNe : Hid (h8 < w6.heap.size) := HZ6.out.lt
 have HNe2 : Hid (h8 < w2.heap.size) := HZ2.out.lt
 clear I1 I2 I3 HB6 HZ6 HA6 g0 g1 HRn HAl HR2 HZ2
 revert H9 L1 L2 L3 L4 HNe
 generalize w6.alloc _ = w7
 generalize w6.heap.size = h9
 intro H9 L1 L2 L3 L4 HNe
 obtain ⟨e0, e1, e2, e3, -⟩ := (H9.out).c5
 have p4 : w7.cell? ⟨w2.heap.size, 4, none⟩ = some (.bool false) := L1.out.obj.cell 4
 obtain ⟨ao6, cap6, hv6, hc6, hd6⟩ := L1.out.slc
 subst hv6
 have p3 : w7.cell? ⟨w2.heap.size, 3, none⟩ = some (.slice ao6 KS6.length cap6) := L1.out.obj.cell 3
 have HKl : Hid (KS6.length = cs.length) := by have h := congrArg List.length L1.out.eq; show KS6.length = cs.length; simpa using h
 have hn1 : h9 ≠ h8 := by have := L4.out.lt; have := HNe.out; omega
 have hn2 : w2.heap.size ≠ h8 := by have := HNe2.out; omega
 obtain ⟨zq0, zq1, zq2, zq3⟩ := (L4.out).c4
 obtain ⟨zf0, zf1, zf2, zf3⟩ := (L4.out).f4
 go_upto_region 14 with (fail)
 go_region_held3 (fun w' => w'.cell? ⟨h9, 1, none⟩ = some (.int .i64 xe) ∧ w'.cell? ⟨h9, 2, none⟩ = some (.int .i64 xf) ∧ w'.cell? ⟨h9, 3, none⟩ = some (.slice o6 xt.length c6) ∧ w'.cell? ⟨w2.heap.size, 3, none⟩ = some (.slice ao6 KS6.length cap6)) (first | (with_reducible exact ⟨set4_cell e1 hn1, set4_cell e2 hn1, set4_cell e3 hn1, set4_cell p3 hn2⟩) | go_keep) (fail)
 have zr4 := set4_row (.bool false) (.int .i64 0) (.int .i64 xf) (.slice none 0 0) (L4.out)
 have zf4 := set4_fr w7 h8 (.bool false) (.int .i64 0) (.int .i64 xf) (.slice none 0 0)
 have zd4 := (Below.refl (set4 w7 h8 (.bool false) (.int .i64 0) (.int .i64 xf) (.slice none 0 0)).heap.size (set4 w7 h8 (.bool false) (.int .i64 0) (.int .i64 xf) (.slice none 0 0))).drew
 replace zr4 := zr4.below zd4
 replace zf4 := zf4.trans (Fr.of_below (F := fun _ => False) zd4) (fun _ _ h => h.elim)
 clear zd4
 unfold set4 at zr4 zf4
 have ZR4 := Lib.hid zr4
 have ZF4 := Lib.hid zf4
 clear zr4 zf4
 revert ZR4 ZF4
 generalize ((((w7.setCell _ _).setCell _ _).setCell _ _).setCell _ _).drew = wz
 intro ZR4 ZF4
 obtain ⟨zc0, zc1, zc2, zc3⟩ := (ZR4.out).c4
 go_wp2_with fail
 exact bodyPost_ret (v := .tuple #[.agg #[.bool false, .int .i64 0, .int .i64 xf, .slice none 0 0], .int .i64 KS6.length, .int .i64 0]) (by simp [results, Tryz.results13, go_sem, zc0, zc1, zc2, zc3]) rfl (⟨none, 0, by rw [HKl.out]; rfl, told_below L3.out ZF4.out (by have := HH8.out; omega), TrW.nil _⟩)
theorem rmatch_yes (rule p : Nat) (hok : Ask G wn rule p) (xe : Nat) (xf : Int) (xt : List Tw) (xr : Nat) (cs : List Ce) (L : Nat) (ov : Bool) (ho : runR G W rule p = (⟨true, xe, xf, xt, xr⟩, ⟨cs, false, L, ov⟩)) :
  Calls Tryz.prog 13 #[grv ro rn rc no nn nc, .slice wo wn wc, .int .i64 rule, .int .i64 p] w (Told w (outK (⟨true, xe, xf, xt, xr⟩, ⟨cs, false, L, ov⟩))) := by
 have hrl : G.rules.length = rn := hG.rul.n_eq ruc_len (by decide)
 have hrb := hG.rul.bound
 have hwb := hW.sv.bound
 have hwl := hW.len
 have HRr := Lib.hid (fun (b : Bool) (w' : World) (hb : rightR G = b) (hw' : Below w.heap.size w w') => rright_lit (w := w) ro rn rc no nn nc NK G b hG hb hw')
 obtain ⟨HB0, HR0, HZ0⟩ := box2 w #[.slice ro rn rc, .slice no nn nc] #[.bool false, .int .i64 0, .int .i64 0, .slice none 0 0] 25 34
 have hr1 := hok.r1
 have hp1 := hok.p1
 have HRun := Lib.hid (fun (w' : World) (hb : Below w.heap.size w w') => ho ▸ rrun_any (hG.below hb) (hW.below hb) hcl hw hok.right rule p (by omega) (by omega))
 have HRv := Lib.hid hok.right
 rw [hrl] at hr1
 have q0 : (0 : Int) ≤ rule := by omega
 have q1 : (0 : Int) ≤ p := by omega
 have q2 : (wn : Int) ≤ 2048 := by omega
 clear hrl hwl hok ho
 unfold grv
 go_enter Tryz.func13, Tryz.ntmps13
 go_wp2_with fail
 revert HB0 HR0 HZ0
 generalize (w.alloc _).alloc _ = w1
 generalize hh8 : w.heap.size + 1 = h8
 intro HB0 HR0 HZ0
 have HH8 := Lib.hid hh8
 clear hh8
 refine (HRr.out true _ HRv.out HB0.out).mono ?_
 rintro e w2 ⟨rfl, hb2⟩
 have HB2 := Lib.hid (HB0.out.trans (hb2.mono HB0.out.size))
 have HR2 := Lib.hid (HR0.out.below hb2)
 have HZ2 := Lib.hid (HZ0.out.below hb2)
 clear hb2 HB0 HR0 HZ0
 obtain ⟨g0, g1⟩ := (HR2.out).c2
 have HRn := Lib.hid (HRun.out w2 HB2.out)
 have HAl := Lib.hid (Below.refl w2.heap.size w2 |>.alloc (Nat.le_refl _) (.cells #[.slice ro rn rc, .slice no nn nc, .slice wo wn wc, .slice none 0 0, .bool false, .int .i64 20000, .bool false] 62))
 clear HRun
 go_upto_region 11 with (go_at_call 23; refine (HRn.out).mono ?_; rintro e w6 ⟨v6, KS6, o6, c6, rfl, i1, i2, i3⟩; simp only [rsv, rcs] at i2 ⊢; have I1 := Lib.hid i1; have I2 := Lib.hid i2; have I3 := Lib.hid ((RF.below HAl.out).trans i3); clear i1 i2 i3)
 have HB6 : Hid (Below w.heap.size w w6) := HB2.out.trans (I1.out.low.mono HB2.out.size)
 have HZ6 := Lib.hid (HZ2.out.rf I3.out (by decide) (by decide))
 obtain ⟨HA6, H9⟩ := box1 w6 #[.bool true, .int .i64 xe, .int .i64 xf, .slice o6 xt.length c6, .int .i64 xr] 64
 have L1 := Lib.hid (I1.out.below HA6.out)
 have L2 := Lib.hid (I2.out.step (.below HA6.out))
 have L3 := Lib.hid (HB6.out.trans (HA6.out.mono HB6.out.size))
 have L4 := Lib.hid (HZ6.out.below HA6.out)
 have HNe : Hid (h8 < w6.heap.size) := HZ6.out.lt
 have HNe2 : Hid (h8 < w2.heap.size) := HZ2.out.lt
 clear I1 I2 I3 HB6 HZ6 HA6 g0 g1 HRn HAl HR2 HZ2
 revert H9 L1 L2 L3 L4 HNe
 generalize w6.alloc _ = w7
 generalize w6.heap.size = h9
 intro H9 L1 L2 L3 L4 HNe
 obtain ⟨e0, e1, e2, e3, -⟩ := (H9.out).c5
 have p4 : w7.cell? ⟨w2.heap.size, 4, none⟩ = some (.bool false) := L1.out.obj.cell 4
 obtain ⟨ao6, cap6, hv6, hc6, hd6⟩ := L1.out.slc
 subst hv6
 have p3 : w7.cell? ⟨w2.heap.size, 3, none⟩ = some (.slice ao6 KS6.length cap6) := L1.out.obj.cell 3
 have HKl : Hid (KS6.length = cs.length) := by have h := congrArg List.length L1.out.eq; show KS6.length = cs.length; simpa using h
 have hn1 : h9 ≠ h8 := by have := L4.out.lt; have := HNe.out; omega
 have hn2 : w2.heap.size ≠ h8 := by have := HNe2.out; omega
 obtain ⟨zq0, zq1, zq2, zq3⟩ := (L4.out).c4
 obtain ⟨zf0, zf1, zf2, zf3⟩ := (L4.out).f4
 go_upto_region 15 with (fail)
 go_region_held3 (fun w' => w'.cell? ⟨h9, 1, none⟩ = some (.int .i64 xe) ∧ w'.cell? ⟨h9, 2, none⟩ = some (.int .i64 xf) ∧ w'.cell? ⟨h9, 3, none⟩ = some (.slice o6 xt.length c6) ∧ w'.cell? ⟨w2.heap.size, 3, none⟩ = some (.slice ao6 KS6.length cap6)) (first | (with_reducible exact ⟨set4_cell e1 hn1, set4_cell e2 hn1, set4_cell e3 hn1, set4_cell p3 hn2⟩) | go_keep) (fail)
 have zr4 := set4_row (.bool true) (.int .i64 xe) (.int .i64 xf) (.slice o6 xt.length c6) (L4.out)
 have zf4 := set4_fr w7 h8 (.bool true) (.int .i64 xe) (.int .i64 xf) (.slice o6 xt.length c6)
 have zd4 := (Below.refl (set4 w7 h8 (.bool true) (.int .i64 xe) (.int .i64 xf) (.slice o6 xt.length c6)).heap.size (set4 w7 h8 (.bool true) (.int .i64 xe) (.int .i64 xf) (.slice o6 xt.length c6))).drew
 replace zr4 := zr4.below zd4
 replace zf4 := zf4.trans (Fr.of_below (F := fun _ => False) zd4) (fun _ _ h => h.elim)
 clear zd4
 unfold set4 at zr4 zf4
 have ZR4 := Lib.hid zr4
 have ZF4 := Lib.hid zf4
 clear zr4 zf4
 revert ZR4 ZF4
 generalize ((((w7.setCell _ _).setCell _ _).setCell _ _).setCell _ _).drew = wz
 intro ZR4 ZF4
 obtain ⟨zc0, zc1, zc2, zc3⟩ := (ZR4.out).c4
 go_wp2_with fail
 exact bodyPost_ret (v := .tuple #[.agg #[.bool true, .int .i64 xe, .int .i64 xf, .slice o6 xt.length c6], .int .i64 KS6.length, .int .i64 0]) (by simp [results, Tryz.results13, go_sem, zc0, zc1, zc2, zc3]) rfl (⟨o6, c6, by rw [HKl.out]; rfl, told_below L3.out ZF4.out (by have := HH8.out; omega), sv_fr2 L2.out ZF4.out (fun k cs' e hr => by have e' : k = h8 := e; subst e'; exact row_ne hr L4.out (by decide) rfl)⟩)
theorem rmatch_any (rule place : Int) :
  Calls Tryz.prog 13 #[grv ro rn rc no nn nc, .slice wo wn wc, .int .i64 rule, .int .i64 place] w (Told w (outW G W rule place)) := by
 have hrl : G.rules.length = rn := hG.rul.n_eq ruc_len (by decide)
 have hwl := hW.len
 by_cases hr : rightR G = false
 ·exact rmatch_shape w ro rn rc no nn nc NK G hG wo wn wc W hW rule place hr
 have hr' : rightR G = true := by cases h : rightR G <;> simp_all
 by_cases h1 : rule < 0
 ·exact rmatch_rule_lo w ro rn rc no nn nc NK G hG wo wn wc W hW hw rule place hr' h1
 by_cases h2 : (rn : Int) ≤ rule
 ·exact rmatch_rule_hi w ro rn rc no nn nc NK G hG wo wn wc W hW hw rule place hr' (by omega) h2
 by_cases h3 : place < 0
 ·exact rmatch_place_lo w ro rn rc no nn nc NK G hG wo wn wc W hW hw rule place hr' (by omega) (by omega) h3
 by_cases h4 : (wn : Int) < place
 ·exact rmatch_place_hi w ro rn rc no nn nc NK G hG wo wn wc W hW hw rule place hr' (by omega) (by omega) (by omega) h4
 obtain ⟨r, rfl⟩ := Int.eq_ofNat_of_zero_le (show 0 ≤ rule by omega)
 obtain ⟨p, rfl⟩ := Int.eq_ofNat_of_zero_le (show 0 ≤ place by omega)
 have hok : Ask G wn r p := ⟨hr', by omega, by omega, by omega, by omega⟩
 have ho : outW G W (r : Int) (p : Int) = outK (runR G W r p) := by
  unfold outW
  rw [if_neg hr, if_neg (by omega), if_neg (by omega), if_neg (by omega), Int.toNat_natCast, Int.toNat_natCast]
 rw [ho]
 generalize hq : runR G W r p = o
 obtain ⟨⟨xi, xe, xf, xt, xr⟩, ⟨cs, rd, L, ov⟩⟩ := o
 cases rd
 ·cases xi
  ·exact rmatch_no w ro rn rc no nn nc NK G hG wo wn wc W hW hcl hw r p hok xe xf xt xr cs L ov hq
  ·exact rmatch_yes w ro rn rc no nn nc NK G hG wo wn wc W hW hcl hw r p hok xe xf xt xr cs L ov hq
 ·exact rmatch_round w ro rn rc no nn nc NK G hG wo wn wc W hW hcl hw r p hok xe xf xt xr cs L ov xi hq
end
end Go.Proofs.YtdnkffplkleolaaGreat
namespace Go.Proofs.YtdnkffplkleolaaGreat

def lateG : Gr := gramN [ofN 7 [wordN ⟨#[99]⟩, callN 0 0]]
def exO : Ot := ⟨true, 3, 2, [⟨0, 0, 0, 3, 1⟩, ⟨0, 0, 1, 3, 1⟩, ⟨0, 0, 2, 3, 1⟩, ⟨1, 0, 2, 3, 0⟩], 4, 0⟩
theorem ex_out : outW exG [97, 97, 98] 0 0 = exO := by kernel_rfl
theorem kn_out : outW knG0 [98, 97] 0 0 = otE 13 := by kernel_rfl
theorem lc_out : outW lateG [99] 0 0 = ⟨true, 1, -1, [⟨0, 0, 0, 1, 0⟩], 1, 0⟩ := by kernel_rfl
theorem la_out : outW lateG [97] 0 0 = otE 13 := by kernel_rfl
end Go.Proofs.YtdnkffplkleolaaGreat
namespace Go.Proofs.YtdnkffplkleolaaGreat
open Go.RowKit Go.ChangeMaps

def ked (c : Ce) : Value := .agg #[.int .i64 c.rule, .int .i64 c.place]
def clv (c : Ce) (ao : Option Addr) (cap : Nat) : Value := .agg #[.bool c.done, .bool c.res.is, .int .i64 c.res.en, .int .i64 c.res.far, .slice ao c.res.tree.length cap]
def gcs (r : Rs) (ao : Option Addr) (cap : Nat) : Array Value := #[.bool r.is, .int .i64 r.en, .int .i64 r.far, .slice ao r.tree.length cap]
def gtv (r : Rs) (ao : Option Addr) (cap : Nat) : Value := .agg (gcs r ao cap)
/-- The entries are the cells, in their order. -/
structure EntW (es : Array MapEntry) (KS : List (Ce × (Option Addr × Nat))) : Prop where
 len : es.size = KS.length
 get : ∀ i (h : i < KS.length), ∃ q, es[i]? = some q ∧ q.key = ked (KS[i]'h).1 ∧ q.val = clv (KS[i]'h).1 (KS[i]'h).2.1 (KS[i]'h).2.2
structure TW (K : Env) (m : Nat) (w : World) (s : St) (es : Array MapEntry) (clock : Nat) (KS : List (Ce × (Option Addr × Nat))) : Prop where
 obj : hrow w K.g #[.map (some m), .bool s.round, .slice K.ro K.rn K.rc, .slice K.no K.nn K.nc, .slice K.wo K.wn K.wc] 85
 map : w.heap[m]? = some (.map es clock)
 low : Below K.base.heap.size K.base w
 hm : K.base.heap.size ≤ m
 eq : KS.map (·.1) = s.cells
 ent : EntW es KS
 trees : ∀ c ∈ KS, TrW w c.2.1 c.2.2 c.1.res.tree
/-- All but the match's own object and its map is as it was. -/
def PF (K : Env) (m : Nat) (w w' : World) : Prop := Fr (fun k => k = K.g ∨ k = m) w w'
section
variable {K : Env} {m : Nat} {w w' w'' : World} {s : St} {es : Array MapEntry} {clock : Nat} {KS : List (Ce × (Option Addr × Nat))}
theorem TW.ne (h : TW K m w s es clock KS) : m ≠ K.g := by
 intro e
 have h1 := h.map
 rw [e, h.obj.h] at h1
 cases h1
theorem TW.below (h : TW K m w s es clock KS) (hb : Below w.heap.size w w') : TW K m w' s es clock KS :=
 ⟨h.obj.below hb, (hb.block m (lt_block h.map)).trans h.map, h.low.trans (hb.mono h.low.size), h.hm, h.eq, h.ent, fun c hc => (h.trees c hc).step (.below hb)⟩
/-- A block of the match's own since its start, of another type, is written. -/
theorem TW.fr (h : TW K m w s es clock KS) {F : Nat → Prop} (hf : Fr F w w') (hF : ∀ k, F k → K.base.heap.size ≤ k ∧ ∃ cs ty, hrow w k cs ty ∧ ty ≠ 85 ∧ ty ≠ 74) : TW K m w' s es clock KS := by
 refine ⟨h.obj.fr hf (fun hx => ?_), (hf.block m (lt_block h.map) (fun hx => ?_)).trans h.map, h.low.trans (hf.below h.low.size (fun k hk hx => by have := (hF k hx).1; omega)), h.hm, h.eq, h.ent, fun c hc => sv_fr2 (h.trees c hc) hf (fun k cs hx hr => ?_)⟩
 ·obtain ⟨_, cs, ty, hr, h1, _⟩ := hF _ hx
  exact row_ne hr h.obj h1 rfl
 ·obtain ⟨_, cs, ty, hr, _⟩ := hF _ hx
  have h1 := h.map
  rw [hr.h] at h1
  cases h1
 ·obtain ⟨_, cs', ty, hr', _, h1⟩ := hF _ hx
  exact row_ne hr' hr h1 rfl
theorem TrW.pf (h : TW K m w s es clock KS) (hf : PF K m w w') {ao : Option Addr} {cap : Nat} {t : List Tw} (ht : TrW w ao cap t) : TrW w' ao cap t :=
 sv_fr2 ht hf (fun k cs e hr => by
  rcases e with e | e
  ·subst e; exact row_ne hr h.obj (by decide) rfl
  ·subst e
   have h1 := h.map
   rw [hr.h] at h1
   cases h1)
theorem hrow.pf {k : Nat} {cs : Array Value} {ty : TypeId} (h : TW K m w s es clock KS) (hf : PF K m w w') (hr : hrow w k cs ty) (ht : ty ≠ 85) : hrow w' k cs ty :=
 hr.fr hf (fun e => by
  rcases e with e | e
  ·subst e; exact row_ne hr h.obj ht rfl
  ·subst e
   have h1 := h.map
   rw [hr.h] at h1
   cases h1)
theorem PF.refl (w : World) : PF K m w w := Fr.refl _ w
theorem PF.trans (h : PF K m w w') (k : PF K m w' w'') : PF K m w w'' := Fr.trans h k (fun _ _ h => h)
theorem PF.below (hb : Below w.heap.size w w') : PF K m w w' := Fr.of_below hb
/-- A box that is newer than a world is written. -/
theorem PF.new (h : PF K m w w') {F : Nat → Prop} (hf : Fr F w' w'') (hF : ∀ k, F k → w.heap.size ≤ k) : PF K m w w'' :=
 Fr.trans h (hf.weak (G := fun k => F k ∨ k = K.g ∨ k = m) (fun _ h => .inl h)) (fun i hi h => h.elim (fun e => by have := hF i e; omega) id)
theorem TW.setRound (hK : K.base.heap.size ≤ K.g) (h : TW K m w s es clock KS) (b : Bool) : TW K m (w.setCell ⟨K.g, 1, none⟩ (.bool b)) { s with round := b } es clock KS ∧ PF K m w (w.setCell ⟨K.g, 1, none⟩ (.bool b)) := by
 have hf := Fr.setCell w ⟨K.g, 1, none⟩ (.bool b)
 refine ⟨⟨heap_setCell_same _ _ _ _ _ _ h.obj.h, (hf.block m (lt_block h.map) (fun e => h.ne e)).trans h.map, h.low.setCell (p := ⟨K.g, 1, none⟩) hK _, h.hm, h.eq, h.ent, fun c hc => sv_fr2 (h.trees c hc) hf (fun k cs e hr => ?_)⟩, hf.weak (fun k e => .inl e)⟩
 have e' : k = K.g := e
 subst e'
 exact row_ne hr h.obj (by decide) rfl
/-- The map is written. -/
theorem TW.setMap (h : TW K m w s es clock KS) {s' : St} {es' : Array MapEntry} {clock' : Nat} {KS' : List (Ce × (Option Addr × Nat))} (hr : s'.round = s.round) (he : KS'.map (·.1) = s'.cells) (hn : EntW es' KS') (ht : ∀ c ∈ KS', TrW w c.2.1 c.2.2 c.1.res.tree) :
  TW K m (setBlock w m (.map es' clock')) s' es' clock' KS' ∧ PF K m w (setBlock w m (.map es' clock')) := by
 have hl := lt_block h.map
 have hf : Fr (fun k => k = m) w (setBlock w m (.map es' clock')) := ⟨rfl, rfl, rfl, by simp [setBlock], fun k _ hk => by simp [setBlock, Array.getElem?_setIfInBounds_ne (Ne.symm hk)]⟩
 refine ⟨⟨?_, by simp [setBlock, hl], h.low.trans (hf.below h.low.size (fun k hk e => by have := h.hm; omega)), h.hm, he, hn, fun c hc => sv_fr2 (ht c hc) hf (fun k cs e hr => ?_)⟩, hf.weak (fun k e => .inr e)⟩
 ·rw [hr]; exact h.obj.fr hf (fun e => h.ne e.symm)
 ·subst e
  have h1 := h.map
  rw [hr.h] at h1
  cases h1
end

theorem cellKey : KeyT Tryz.prog 180 (fun v => ∃ a b, v = .agg #[.int .i64 a, .int .i64 b]) := keyPair (e := 3) (by kernel_rfl) (by kernel_rfl) (by kernel_rfl)
theorem map_und : Tryz.prog.underlying 81 = some (.map 180 151) := by kernel_rfl
theorem zeroCell (w : World) : (zeroValue 151).run Tryz.prog w = .ok (.agg #[.bool false, .bool false, .int .i64 0, .int .i64 0, .slice none 0 0]) w := by kernel_rfl
theorem EntW.keys {es : Array MapEntry} {KS : List (Ce × (Option Addr × Nat))} (h : EntW es KS) : ∀ x ∈ es.toList, ∃ c ∈ KS, x.key = ked c.1 := by
 intro x hx
 obtain ⟨i, hi, rfl⟩ := List.getElem_of_mem hx
 have hl : i < KS.length := by have := h.len; simp at hi; omega
 obtain ⟨q, hq, hk, _⟩ := h.get i hl
 refine ⟨_, List.getElem_mem hl, ?_⟩
 have e : es.toList[i]? = some q := by simpa using hq
 rw [List.getElem?_eq_getElem hi] at e
 cases e
 exact hk
theorem EntW.isKey {es : Array MapEntry} {KS : List (Ce × (Option Addr × Nat))} (h : EntW es KS) : ∀ x ∈ es.toList, ∃ a b, x.key = .agg #[.int .i64 a, .int .i64 b] := by
 intro x hx
 obtain ⟨c, _, e⟩ := h.keys x hx
 exact ⟨_, _, e⟩
theorem ked_eq {c : Ce} {rule p : Nat} (h : ked c = .agg #[.int .i64 rule, .int .i64 p]) : keyB rule p c = true := by
 simp [ked] at h
 simp [keyB]
 omega
theorem keyB_iff {c : Ce} {rule p : Nat} (h : keyB rule p c = true) : c.rule = rule ∧ c.place = p := by simpa [keyB] using h
theorem look_yes {K : Env} {m : Nat} {w : World} {s : St} {es : Array MapEntry} {clock : Nat} {KS : List (Ce × (Option Addr × Nat))} (h : TW K m w s es clock KS) {rule p : Nat} {c : Ce} (hf : s.cells.find? (keyB rule p) = some c) :
  ∃ ao cap, TrW w ao cap c.res.tree ∧ ∃ i, ∃ hi : i < KS.length, KS[i]'hi = (c, (ao, cap)) ∧ ∀ w', w'.heap[m]? = some (.map es clock) → (Instr.lookup 81 (.map (some m)) (.agg #[.int .i64 rule, .int .i64 p]) true).run Tryz.prog w' = .ok (.tuple #[clv c ao cap, .bool true]) w' := by
 rw [← h.eq] at hf
 obtain ⟨i, hi, he, hn⟩ := List.find?_eq_some_iff_getElem.1 hf |>.2
 have hil : i < KS.length := by simpa using hi
 have hc : (KS[i]'hil).1 = c := by simpa using he
 have hkb : keyB rule p c = true := (List.find?_eq_some_iff_append.1 hf).1
 refine ⟨(KS[i]'hil).2.1, (KS[i]'hil).2.2, by have := h.trees _ (List.getElem_mem hil); rw [hc] at this; exact this, i, hil, by rw [← hc], fun w' hw' => ?_⟩
 obtain ⟨q, hq, hk, hv⟩ := h.ent.get i hil
 have hb := keyB_iff hkb
 have hq2 : q.key = .agg #[.int .i64 rule, .int .i64 p] := by rw [hk, hc, ked, hb.1, hb.2]
 have := run_look_yes cellKey map_und hw' h.ent.isKey ⟨_, _, rfl⟩ hq hq2 (fun j hj y hy e => by
  have hjl : j < KS.length := by omega
  obtain ⟨q', hq', hk', _⟩ := h.ent.get j hjl
  rw [hq'] at hy
  cases hy
  rw [hk'] at e
  have hn' := hn j hj
  rw [List.getElem_map] at hn'
  rw [ked_eq e] at hn'
  simp at hn') true
 rw [this, hv, hc]
 rfl
theorem no_key {s : St} {es : Array MapEntry} {KS : List (Ce × (Option Addr × Nat))} (he : KS.map (·.1) = s.cells) (h : EntW es KS) {rule p : Nat} (hf : s.cells.find? (keyB rule p) = none) : ∀ x ∈ es.toList, x.key ≠ .agg #[.int .i64 rule, .int .i64 p] := by
 intro x hx e
 obtain ⟨c, hc, hk⟩ := h.keys x hx
 rw [hk] at e
 have := List.find?_eq_none.1 hf c.1 (by rw [← he]; exact List.mem_map.2 ⟨c, hc, rfl⟩)
 exact this (ked_eq e)
theorem look_no {K : Env} {m : Nat} {w : World} {s : St} {es : Array MapEntry} {clock : Nat} {KS : List (Ce × (Option Addr × Nat))} (h : TW K m w s es clock KS) {rule p : Nat} (hf : s.cells.find? (keyB rule p) = none) (w' : World) (hw' : w'.heap[m]? = some (.map es clock)) :
  (Instr.lookup 81 (.map (some m)) (.agg #[.int .i64 rule, .int .i64 p]) true).run Tryz.prog w' = .ok (.tuple #[.agg #[.bool false, .bool false, .int .i64 0, .int .i64 0, .slice none 0 0], .bool false]) w' :=
 run_look_no cellKey map_und hw' h.ent.isKey ⟨_, _, rfl⟩ (no_key h.eq h.ent hf) (zeroCell w') true
end Go.Proofs.YtdnkffplkleolaaGreat
