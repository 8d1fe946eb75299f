/- Walks and plain laws: Tr Ts Tu. -/
import Derived.Test.YtdnkffplkleolaaM28
import Derived.Test.YtdnkffplkleolaaM29
namespace Go.Proofs.Ytdnkffplkleolaa
open Go.RowKit Go.ChangeMaps
set_option maxRecDepth 100000
set_option maxHeartbeats 4000000

theorem cloneO_any (w : World) (ao : Option Addr) (cap : Nat) (t : List Tw) (h : Sv w ao t.length cap 5 (t.flatMap twc)) (hl : t.length ≤ 100000000) :
  Calls Try.prog 41 #[.slice ao t.length cap] w fun e w' => ∃ go gc, e = .returned (.slice go t.length gc) ∧ Own w w' 43 5 (.slice go t.length gc) t.length (t.flatMap twc) := by
 have HS := Lib.hid h
 cases ao with
 | none =>
  have hc : cap = 0 := h.nn rfl
  have hn : t.length = 0 := by have := h.le; omega
  have ht : t = [] := List.eq_nil_of_length_eq_zero hn
  subst ht
  subst hc
  clear h
  have hq : ∀ (w : World) (n c : Nat), (binOp .eql 30 (.slice none n c) (.slice none 0 0)).run Try.prog w = .ok (.bool true) w := fun w n c => Lib.run_eql_slice_nil (P := Try.prog) w 30 43 none n c 0 0 twU
  simp only [List.length_nil]
  go_enter Try.func41, Try.ntmps41
  go_wp2_with fail
  go_ret
  exact ⟨none, 0, rfl, Own.nil w _ 5⟩
 | some a =>
  clear h
  have HO := Lib.hid (twc_one t)
  have HT : Hid (∀ (v : Value) (w' : World), Own w w' 43 5 v (0 + t.length) ([] ++ t.flatMap twc) → ∃ ao cap, v = .slice ao t.length cap ∧ Own w w' 43 5 (.slice ao t.length cap) t.length (t.flatMap twc)) := fun v w' h => by
   rw [List.nil_append, Nat.zero_add] at h
   obtain ⟨ao, cap, e, _⟩ := h.sv
   subst e
   exact ⟨ao, cap, rfl, h⟩
  have HLn : Hid ((0 + t.length) * 40 ≤ 140737488355328 ∧ 0 + t.length ≤ maxLen) := by unfold Hid maxLen; omega
  generalize t.length = n at *
  have hq : ∀ (w : World) (a : Addr) (n c : Nat), (binOp .eql 30 (.slice (some a) n c) (.slice none 0 0)).run Try.prog w = .ok (.bool false) w := fun w a n c => Lib.run_eql_slice_nil (P := Try.prog) w 30 43 (some a) n c 0 0 twU
  go_enter Try.func41, Try.ntmps41
  go_wp2_with (at_builtin; refine wpList_apps w _ rfl _ _ 30 43 rfl elemTwR _ 0 [] rfl (Own.lit w 43 #[] 0 5 (by decide) rfl) (some a) n cap (t.flatMap twc) rfl (HS.out.below ((Below.refl _ _).alloc (Nat.le_refl _) _)) HO.out HLn.out.1 HLn.out.2 ?_; intro v' w3 hO1; have HO1 := Lib.hid hO1; clear hO1)
  go_ret
  obtain ⟨go, gc, rfl, hn⟩ := HT.out _ _ HO1.out
  exact ⟨go, gc, rfl, hn⟩

theorem Own.fr {w0 w w' : World} {e : TypeId} {size n : Nat} {v : Value} {xs : List Value} (h : Own w0 w e size v n xs) {k : Nat} {cs : Array Value} {ty : TypeId} (hr : hrow w k cs ty) (ht : ty ≠ e) (hk : w0.heap.size ≤ k) (hf : Fr (fun i => i = k) w w') : Own w0 w' e size v n xs :=
 ⟨owns_fr h.1 hf (fun j hj e => by have e' : j = k := e; subst e'; exact owns_ne h.1 hr ht hj), h.2.trans (hf.below h.2.size (fun i hi e => by have e' : i = k := e; omega))⟩
/-- The map of what is known, behind a pointer. -/
def MapAt (w : World) (po : Option Addr) (n : Int) : Prop := ∃ g m es clock, po = some ⟨g, 0, none⟩ ∧ w.cell? ⟨g, 0, none⟩ = some (.map (some m)) ∧ w.heap[m]? = some (.map es clock) ∧ (es.size : Int) = n
/-- What a match tells. -/
def MTold (w : World) (o : Ot) (e : Ending) (w' : World) : Prop := ∃ ao cap po, e = .returned (.tuple #[.agg #[.bool o.is, .int .i64 o.en, .int .i64 o.far, .slice ao o.tree.length cap], .pointer po, .int .i64 o.e]) ∧ Own w w' 43 5 (.slice ao o.tree.length cap) o.tree.length (o.tree.flatMap twc) ∧ (o.e = 0 → MapAt w' po o.n)
theorem Own.none {w w' : World} (h : Below w.heap.size w w') : Own w w' 43 5 (.slice none 0 0) 0 [] := (Own.nil w _ 5).below h
theorem gright_lit {w : World} {ro : Option Addr} {rn rc : Nat} {no : Option Addr} {nn nc : Nat} {NK : List (Nd × (Option Addr × Nat))} {G : Gr} {w' : World} (b : Bool) (hG : GrW w ro rn rc no nn nc NK G) (hb : rightR G = b) (hw' : Below w.heap.size w w') : Calls Try.prog 39 #[.agg #[.slice ro rn rc, .slice no nn nc]] w' fun e w'' => e = .returned (.bool b) ∧ Below w'.heap.size w' w'' := by
 rw [← hb, ← rightP_rightR]
 exact gright_any w' ro rn rc no nn nc NK G (hG.below hw')
section
variable (w : World) (ro : Option Addr) (rn rc : Nat) (no : Option Addr) (nn nc : Nat) (NK : List (Nd × (Option Addr × Nat))) (G : Gr) (hG : GrW w ro rn rc no nn nc NK G) (wo : Option Addr) (wn wc : Nat) (W : List Nat) (hW : InW w wo wn wc W)
include hG hW
theorem pmatch_shape (rule place : Int) (hr : rightR G = false)  :
  Calls Try.prog 19 #[grv ro rn rc no nn nc, .slice wo wn wc, .int .i64 rule, .int .i64 place] w (MTold w (outW G W rule place)) := by
 have hrl : G.rules.length = rn := hG.rul.n_eq ruc_len (by decide)
 have hrb := hG.rul.bound
 have hwb := hW.sv.bound
 have hwl := hW.len
 have HRr := Lib.hid (fun (b : Bool) (w' : World) (hb : rightR G = b) (hw' : Below w.heap.size w w') => gright_lit b hG hb hw')
 obtain ⟨HB0, HR0, HZ0⟩ := box2 w #[.slice ro rn rc, .slice no nn nc] #[.bool false, .int .i64 0, .int .i64 0, .slice none 0 0] 25 32
 have HFin : Hid (outW G W rule place = otE 4) := by unfold Hid outW; rw [if_pos hr]
 have HRv := Lib.hid hr
 clear hr hwl hrl
 unfold grv
 go_enter Try.func19, Try.ntmps19
 go_wp2_with fail
 revert HB0 HR0 HZ0
 generalize (w.alloc _).alloc _ = w1
 generalize hh8 : w.heap.size + 1 = h8
 intro HB0 HR0 HZ0
 have HH8 := Lib.hid hh8
 clear hh8
 refine (HRr.out false _ HRv.out HB0.out).mono ?_
 rintro e w2 ⟨rfl, hb2⟩
 have HB2 := Lib.hid (HB0.out.trans (hb2.mono HB0.out.size))
 have HR2 := Lib.hid (HR0.out.below hb2)
 have HZ2 := Lib.hid (HZ0.out.below hb2)
 clear hb2 HB0 HR0 HZ0
 obtain ⟨zq0, zq1, zq2, zq3⟩ := (HZ2.out).c4
 obtain ⟨zf0, zf1, zf2, zf3⟩ := (HZ2.out).f4
 obtain ⟨ZR4, ZF4⟩ := set4_box (.bool false) (.int .i64 0) (.int .i64 0) (.slice none 0 0) (HZ2.out)
 go_wp2_with fail
 revert ZR4 ZF4
 generalize (((w2.setCell _ _).setCell _ _).setCell _ _).setCell _ _ = wz
 intro ZR4 ZF4
 obtain ⟨zc0, zc1, zc2, zc3⟩ := (ZR4.out).c4
 exact bodyPost_ret (v := .tuple #[.agg #[.bool false, .int .i64 0, .int .i64 0, .slice none 0 0], .pointer none, .int .i64 4]) (by simp [results, Try.results19, go_sem, zc0, zc1, zc2, zc3]) rfl (by rw [HFin.out]; exact ⟨none, 0, none, rfl, Own.none (told_below HB2.out ZF4.out (by have := HH8.out; omega)), fun h => absurd h (by decide)⟩)
theorem pmatch_long (rule place : Int) (hr : rightR G = true) (hlo : 2048 < wn) :
  Calls Try.prog 19 #[grv ro rn rc no nn nc, .slice wo wn wc, .int .i64 rule, .int .i64 place] w (MTold w (outW G W rule place)) := by
 have hrl : G.rules.length = rn := hG.rul.n_eq ruc_len (by decide)
 have hrb := hG.rul.bound
 have hwb := hW.sv.bound
 have hwl := hW.len
 have HRr := Lib.hid (fun (b : Bool) (w' : World) (hb : rightR G = b) (hw' : Below w.heap.size w w') => gright_lit b hG hb hw')
 obtain ⟨HB0, HR0, HZ0⟩ := box2 w #[.slice ro rn rc, .slice no nn nc] #[.bool false, .int .i64 0, .int .i64 0, .slice none 0 0] 25 32
 have HFin : Hid (outW G W rule place = otE 3) := by unfold Hid outW; rw [if_neg (by simp [hr]), if_pos (by omega)]
 have HRv := Lib.hid hr
 clear hr hwl hrl
 unfold grv
 go_enter Try.func19, Try.ntmps19
 go_wp2_with fail
 revert HB0 HR0 HZ0
 generalize (w.alloc _).alloc _ = w1
 generalize hh8 : w.heap.size + 1 = h8
 intro HB0 HR0 HZ0
 have HH8 := Lib.hid hh8
 clear hh8
 refine (HRr.out true _ HRv.out HB0.out).mono ?_
 rintro e w2 ⟨rfl, hb2⟩
 have HB2 := Lib.hid (HB0.out.trans (hb2.mono HB0.out.size))
 have HR2 := Lib.hid (HR0.out.below hb2)
 have HZ2 := Lib.hid (HZ0.out.below hb2)
 clear hb2 HB0 HR0 HZ0
 obtain ⟨zq0, zq1, zq2, zq3⟩ := (HZ2.out).c4
 obtain ⟨zf0, zf1, zf2, zf3⟩ := (HZ2.out).f4
 obtain ⟨ZR4, ZF4⟩ := set4_box (.bool false) (.int .i64 0) (.int .i64 0) (.slice none 0 0) (HZ2.out)
 go_wp2_with fail
 revert ZR4 ZF4
 generalize (((w2.setCell _ _).setCell _ _).setCell _ _).setCell _ _ = wz
 intro ZR4 ZF4
 obtain ⟨zc0, zc1, zc2, zc3⟩ := (ZR4.out).c4
 exact bodyPost_ret (v := .tuple #[.agg #[.bool false, .int .i64 0, .int .i64 0, .slice none 0 0], .pointer none, .int .i64 3]) (by simp [results, Try.results19, go_sem, zc0, zc1, zc2, zc3]) rfl (by rw [HFin.out]; exact ⟨none, 0, none, rfl, Own.none (told_below HB2.out ZF4.out (by have := HH8.out; omega)), fun h => absurd h (by decide)⟩)
variable (hw : wn ≤ 2048)
include hw
theorem pmatch_rule_lo (rule place : Int) (hr : rightR G = true) (h1 : rule < 0) :
  Calls Try.prog 19 #[grv ro rn rc no nn nc, .slice wo wn wc, .int .i64 rule, .int .i64 place] w (MTold w (outW G W rule place)) := by
 have hrl : G.rules.length = rn := hG.rul.n_eq ruc_len (by decide)
 have hrb := hG.rul.bound
 have hwb := hW.sv.bound
 have hwl := hW.len
 have HRr := Lib.hid (fun (b : Bool) (w' : World) (hb : rightR G = b) (hw' : Below w.heap.size w w') => gright_lit b hG hb hw')
 obtain ⟨HB0, HR0, HZ0⟩ := box2 w #[.slice ro rn rc, .slice no nn nc] #[.bool false, .int .i64 0, .int .i64 0, .slice none 0 0] 25 32
 have HFin : Hid (outW G W rule place = otE 2) := by unfold Hid outW; rw [if_neg (by simp [hr]), if_neg (by omega), if_pos (by omega)]
 have HRv := Lib.hid hr
 clear hr hwl hrl
 unfold grv
 go_enter Try.func19, Try.ntmps19
 go_wp2_with fail
 revert HB0 HR0 HZ0
 generalize (w.alloc _).alloc _ = w1
 generalize hh8 : w.heap.size + 1 = h8
 intro HB0 HR0 HZ0
 have HH8 := Lib.hid hh8
 clear hh8
 refine (HRr.out true _ HRv.out HB0.out).mono ?_
 rintro e w2 ⟨rfl, hb2⟩
 have HB2 := Lib.hid (HB0.out.trans (hb2.mono HB0.out.size))
 have HR2 := Lib.hid (HR0.out.below hb2)
 have HZ2 := Lib.hid (HZ0.out.below hb2)
 clear hb2 HB0 HR0 HZ0
 have g0 : w2.cell? ⟨w.heap.size, 0, none⟩ = some (.slice ro rn rc) := HR2.out.cell 0
 obtain ⟨zq0, zq1, zq2, zq3⟩ := (HZ2.out).c4
 obtain ⟨zf0, zf1, zf2, zf3⟩ := (HZ2.out).f4
 obtain ⟨ZR4, ZF4⟩ := set4_box (.bool false) (.int .i64 0) (.int .i64 0) (.slice none 0 0) (HZ2.out)
 go_wp2_with fail
 revert ZR4 ZF4
 generalize (((w2.setCell _ _).setCell _ _).setCell _ _).setCell _ _ = wz
 intro ZR4 ZF4
 obtain ⟨zc0, zc1, zc2, zc3⟩ := (ZR4.out).c4
 exact bodyPost_ret (v := .tuple #[.agg #[.bool false, .int .i64 0, .int .i64 0, .slice none 0 0], .pointer none, .int .i64 2]) (by simp [results, Try.results19, go_sem, zc0, zc1, zc2, zc3]) rfl (by rw [HFin.out]; exact ⟨none, 0, none, rfl, Own.none (told_below HB2.out ZF4.out (by have := HH8.out; omega)), fun h => absurd h (by decide)⟩)
theorem pmatch_rule_hi (rule place : Int) (hr : rightR G = true) (h1 : 0 ≤ rule) (h2 : rn ≤ rule) :
  Calls Try.prog 19 #[grv ro rn rc no nn nc, .slice wo wn wc, .int .i64 rule, .int .i64 place] w (MTold w (outW G W rule place)) := by
 have hrl : G.rules.length = rn := hG.rul.n_eq ruc_len (by decide)
 have hrb := hG.rul.bound
 have hwb := hW.sv.bound
 have hwl := hW.len
 have HRr := Lib.hid (fun (b : Bool) (w' : World) (hb : rightR G = b) (hw' : Below w.heap.size w w') => gright_lit b hG hb hw')
 obtain ⟨HB0, HR0, HZ0⟩ := box2 w #[.slice ro rn rc, .slice no nn nc] #[.bool false, .int .i64 0, .int .i64 0, .slice none 0 0] 25 32
 have HFin : Hid (outW G W rule place = otE 2) := by unfold Hid outW; rw [if_neg (by simp [hr]), if_neg (by omega), if_pos (by omega)]
 have HRv := Lib.hid hr
 clear hr hwl hrl
 unfold grv
 go_enter Try.func19, Try.ntmps19
 go_wp2_with fail
 revert HB0 HR0 HZ0
 generalize (w.alloc _).alloc _ = w1
 generalize hh8 : w.heap.size + 1 = h8
 intro HB0 HR0 HZ0
 have HH8 := Lib.hid hh8
 clear hh8
 refine (HRr.out true _ HRv.out HB0.out).mono ?_
 rintro e w2 ⟨rfl, hb2⟩
 have HB2 := Lib.hid (HB0.out.trans (hb2.mono HB0.out.size))
 have HR2 := Lib.hid (HR0.out.below hb2)
 have HZ2 := Lib.hid (HZ0.out.below hb2)
 clear hb2 HB0 HR0 HZ0
 have g0 : w2.cell? ⟨w.heap.size, 0, none⟩ = some (.slice ro rn rc) := HR2.out.cell 0
 obtain ⟨zq0, zq1, zq2, zq3⟩ := (HZ2.out).c4
 obtain ⟨zf0, zf1, zf2, zf3⟩ := (HZ2.out).f4
 obtain ⟨ZR4, ZF4⟩ := set4_box (.bool false) (.int .i64 0) (.int .i64 0) (.slice none 0 0) (HZ2.out)
 go_wp2_with fail
 revert ZR4 ZF4
 generalize (((w2.setCell _ _).setCell _ _).setCell _ _).setCell _ _ = wz
 intro ZR4 ZF4
 obtain ⟨zc0, zc1, zc2, zc3⟩ := (ZR4.out).c4
 exact bodyPost_ret (v := .tuple #[.agg #[.bool false, .int .i64 0, .int .i64 0, .slice none 0 0], .pointer none, .int .i64 2]) (by simp [results, Try.results19, go_sem, zc0, zc1, zc2, zc3]) rfl (by rw [HFin.out]; exact ⟨none, 0, none, rfl, Own.none (told_below HB2.out ZF4.out (by have := HH8.out; omega)), fun h => absurd h (by decide)⟩)
theorem pmatch_place_lo (rule place : Int) (hr : rightR G = true) (h1 : 0 ≤ rule) (h2 : rule < rn) (h3 : place < 0) :
  Calls Try.prog 19 #[grv ro rn rc no nn nc, .slice wo wn wc, .int .i64 rule, .int .i64 place] w (MTold w (outW G W rule place)) := by
 have hrl : G.rules.length = rn := hG.rul.n_eq ruc_len (by decide)
 have hrb := hG.rul.bound
 have hwb := hW.sv.bound
 have hwl := hW.len
 have HRr := Lib.hid (fun (b : Bool) (w' : World) (hb : rightR G = b) (hw' : Below w.heap.size w w') => gright_lit b hG hb hw')
 obtain ⟨HB0, HR0, HZ0⟩ := box2 w #[.slice ro rn rc, .slice no nn nc] #[.bool false, .int .i64 0, .int .i64 0, .slice none 0 0] 25 32
 have HFin : Hid (outW G W rule place = otE 6) := by unfold Hid outW; rw [if_neg (by simp [hr]), if_neg (by omega), if_neg (by omega), if_pos (by omega)]
 have HRv := Lib.hid hr
 clear hr hwl hrl
 unfold grv
 go_enter Try.func19, Try.ntmps19
 go_wp2_with fail
 revert HB0 HR0 HZ0
 generalize (w.alloc _).alloc _ = w1
 generalize hh8 : w.heap.size + 1 = h8
 intro HB0 HR0 HZ0
 have HH8 := Lib.hid hh8
 clear hh8
 refine (HRr.out true _ HRv.out HB0.out).mono ?_
 rintro e w2 ⟨rfl, hb2⟩
 have HB2 := Lib.hid (HB0.out.trans (hb2.mono HB0.out.size))
 have HR2 := Lib.hid (HR0.out.below hb2)
 have HZ2 := Lib.hid (HZ0.out.below hb2)
 clear hb2 HB0 HR0 HZ0
 have g0 : w2.cell? ⟨w.heap.size, 0, none⟩ = some (.slice ro rn rc) := HR2.out.cell 0
 obtain ⟨zq0, zq1, zq2, zq3⟩ := (HZ2.out).c4
 obtain ⟨zf0, zf1, zf2, zf3⟩ := (HZ2.out).f4
 obtain ⟨ZR4, ZF4⟩ := set4_box (.bool false) (.int .i64 0) (.int .i64 0) (.slice none 0 0) (HZ2.out)
 go_wp2_with fail
 revert ZR4 ZF4
 generalize (((w2.setCell _ _).setCell _ _).setCell _ _).setCell _ _ = wz
 intro ZR4 ZF4
 obtain ⟨zc0, zc1, zc2, zc3⟩ := (ZR4.out).c4
 exact bodyPost_ret (v := .tuple #[.agg #[.bool false, .int .i64 0, .int .i64 0, .slice none 0 0], .pointer none, .int .i64 6]) (by simp [results, Try.results19, go_sem, zc0, zc1, zc2, zc3]) rfl (by rw [HFin.out]; exact ⟨none, 0, none, rfl, Own.none (told_below HB2.out ZF4.out (by have := HH8.out; omega)), fun h => absurd h (by decide)⟩)
theorem pmatch_place_hi (rule place : Int) (hr : rightR G = true) (h1 : 0 ≤ rule) (h2 : rule < rn) (h3 : 0 ≤ place) (h4 : wn < place) :
  Calls Try.prog 19 #[grv ro rn rc no nn nc, .slice wo wn wc, .int .i64 rule, .int .i64 place] w (MTold w (outW G W rule place)) := by
 have hrl : G.rules.length = rn := hG.rul.n_eq ruc_len (by decide)
 have hrb := hG.rul.bound
 have hwb := hW.sv.bound
 have hwl := hW.len
 have HRr := Lib.hid (fun (b : Bool) (w' : World) (hb : rightR G = b) (hw' : Below w.heap.size w w') => gright_lit b hG hb hw')
 obtain ⟨HB0, HR0, HZ0⟩ := box2 w #[.slice ro rn rc, .slice no nn nc] #[.bool false, .int .i64 0, .int .i64 0, .slice none 0 0] 25 32
 have HFin : Hid (outW G W rule place = otE 6) := by unfold Hid outW; rw [if_neg (by simp [hr]), if_neg (by omega), if_neg (by omega), if_pos (by omega)]
 have HRv := Lib.hid hr
 clear hr hwl hrl
 unfold grv
 go_enter Try.func19, Try.ntmps19
 go_wp2_with fail
 revert HB0 HR0 HZ0
 generalize (w.alloc _).alloc _ = w1
 generalize hh8 : w.heap.size + 1 = h8
 intro HB0 HR0 HZ0
 have HH8 := Lib.hid hh8
 clear hh8
 refine (HRr.out true _ HRv.out HB0.out).mono ?_
 rintro e w2 ⟨rfl, hb2⟩
 have HB2 := Lib.hid (HB0.out.trans (hb2.mono HB0.out.size))
 have HR2 := Lib.hid (HR0.out.below hb2)
 have HZ2 := Lib.hid (HZ0.out.below hb2)
 clear hb2 HB0 HR0 HZ0
 have g0 : w2.cell? ⟨w.heap.size, 0, none⟩ = some (.slice ro rn rc) := HR2.out.cell 0
 obtain ⟨zq0, zq1, zq2, zq3⟩ := (HZ2.out).c4
 obtain ⟨zf0, zf1, zf2, zf3⟩ := (HZ2.out).f4
 obtain ⟨ZR4, ZF4⟩ := set4_box (.bool false) (.int .i64 0) (.int .i64 0) (.slice none 0 0) (HZ2.out)
 go_wp2_with fail
 revert ZR4 ZF4
 generalize (((w2.setCell _ _).setCell _ _).setCell _ _).setCell _ _ = wz
 intro ZR4 ZF4
 obtain ⟨zc0, zc1, zc2, zc3⟩ := (ZR4.out).c4
 exact bodyPost_ret (v := .tuple #[.agg #[.bool false, .int .i64 0, .int .i64 0, .slice none 0 0], .pointer none, .int .i64 6]) (by simp [results, Try.results19, go_sem, zc0, zc1, zc2, zc3]) rfl (by rw [HFin.out]; exact ⟨none, 0, none, rfl, Own.none (told_below HB2.out ZF4.out (by have := HH8.out; omega)), fun h => absurd h (by decide)⟩)
end
end Go.Proofs.Ytdnkffplkleolaa
namespace Go.Proofs.Ytdnkffplkleolaa
open Go.RowKit Go.ChangeMaps
set_option maxRecDepth 100000
set_option maxHeartbeats 4000000

def envP (w : World) (ro : Option Addr) (rn rc : Nat) (no : Option Addr) (nn nc : Nat) (NK : List (Nd × (Option Addr × Nat))) (G : Gr) (wo : Option Addr) (wn wc : Nat) (W : List Nat) : Env := ⟨w, w.heap.size + 1, ro, rn, rc, no, nn, nc, NK, G, wo, wn, wc, W⟩
theorem envP_ok {w : World} {ro : Option Addr} {rn rc : Nat} {no : Option Addr} {nn nc : Nat} {NK : List (Nd × (Option Addr × Nat))} {G : Gr} {wo : Option Addr} {wn wc : Nat} {W : List Nat} (hG : GrW w ro rn rc no nn nc NK G) (hW : InW w wo wn wc W) (hc : ClsOk G) (hw : wn ≤ 2048) (hr : rightR G = true) : EnvOk (envP w ro rn rc no nn nc NK G wo wn wc W) :=
 ⟨hG, hW.sv, gok_of hr hc, Nat.le_succ _, hW.len, hw, hW.byt⟩
theorem envP_tw (w : World) (ro : Option Addr) (rn rc : Nat) (no : Option Addr) (nn nc : Nat) (NK : List (Nd × (Option Addr × Nat))) (G : Gr) (wo : Option Addr) (wn wc : Nat) (W : List Nat) :
  TW (envP w ro rn rc no nn nc NK G wo wn wc W) w.heap.size ((w.alloc (.map #[] 0)).alloc (.cells #[.map (some w.heap.size), .bool false, .slice ro rn rc, .slice no nn nc, .slice wo wn wc] 73)) ⟨[], false, 20000, false⟩ #[] 0 [] := by
 refine ⟨?_, ?_, ((Below.refl _ _).alloc (Nat.le_refl _) _).alloc (by simp) _, Nat.le_refl _, rfl, ⟨rfl, fun i h => absurd h (by simp)⟩, fun _ hc => (nomatch hc)⟩
 ·have h := hrow.new (w.alloc (.map #[] 0)) #[.map (some w.heap.size), .bool false, .slice ro rn rc, .slice no nn nc, .slice wo wn wc] 73
  rw [World.size_alloc] at h
  exact h
 ·have h1 : (w.alloc (.map #[] 0)).heap[w.heap.size]? = some (.map #[] 0) := heap_alloc_new w _
  exact (((Below.refl _ _).alloc (Nat.le_refl _) (.cells #[.map (some w.heap.size), .bool false, .slice ro rn rc, .slice no nn nc, .slice wo wn wc] 73) : Below (w.alloc (.map #[] 0)).heap.size (w.alloc (.map #[] 0)) _).block _ (by simp)).trans h1
theorem prun_any {w : World} {ro : Option Addr} {rn rc : Nat} {no : Option Addr} {nn nc : Nat} {NK : List (Nd × (Option Addr × Nat))} {G : Gr} {wo : Option Addr} {wn wc : Nat} {W : List Nat} (hG : GrW w ro rn rc no nn nc NK G) (hW : InW w wo wn wc W) (hc : ClsOk G) (hw : wn ≤ 2048) (hr : rightR G = true) (rule p : Nat) (hru : rule < G.rules.length) (hp : p ≤ wn) (hov : (runR G W rule p).2.over = false) :
  Calls Try.prog 40 #[.pointer (some ⟨w.heap.size + 1, 0, none⟩), .int .i64 rule, .int .i64 p] ((w.alloc (.map #[] 0)).alloc (.cells #[.map (some w.heap.size), .bool false, .slice ro rn rc, .slice no nn nc, .slice wo wn wc] 73))
   (PEnd (envP w ro rn rc no nn nc NK G wo wn wc W) w.heap.size ((w.alloc (.map #[] 0)).alloc (.cells #[.map (some w.heap.size), .bool false, .slice ro rn rc, .slice no nn nc, .slice wo wn wc] 73)) (runR G W rule p)) :=
 prule_any (envP w ro rn rc no nn nc NK G wo wn wc W) (envP_ok hG hW hc hw hr) w.heap.size _ ⟨[], false, 20000, false⟩ #[] 0 [] rule p (envP_tw w ro rn rc no nn nc NK G wo wn wc W) 20000 (peval _ (envP_ok hG hW hc hw hr) w.heap.size 20000) (Nat.le_refl _) (Nat.le_refl _) (by decide) (st0_ok _ _ _) rfl hru (hW.len ▸ hp) hov
theorem hrow.pf2 {K : Env} {m : Nat} {w w' : World} (hf : PF K m w w') {k : Nat} {cs : Array Value} {ty : TypeId} (hr : hrow w k cs ty) (h1 : k ≠ K.g) (h2 : k ≠ m) : hrow w' k cs ty := hr.fr hf (fun e => e.elim h1 h2)
section
variable (w : World) (ro : Option Addr) (rn rc : Nat) (no : Option Addr) (nn nc : Nat) (NK : List (Nd × (Option Addr × Nat))) (G : Gr) (hG : GrW w ro rn rc no nn nc NK G) (wo : Option Addr) (wn wc : Nat) (W : List Nat) (hW : InW w wo wn wc W) (hcl : ClsOk G) (hw : wn ≤ 2048)
include hG hW hcl hw
theorem pmatch_round (rule p : Nat) (hok : Ask G wn rule p) (xe : Nat) (xf : Int) (xt : List Tw) (xr : Nat) (cs : List Ce) (L : Nat) (xi : Bool) (ho : runR G W rule p = (⟨xi, xe, xf, xt, xr⟩, ⟨cs, true, L, false⟩)) :
  Calls Try.prog 19 #[grv ro rn rc no nn nc, .slice wo wn wc, .int .i64 rule, .int .i64 p] w (MTold w (outK (⟨xi, xe, xf, xt, xr⟩, ⟨cs, true, L, false⟩))) := by
 have hrl : G.rules.length = rn := hG.rul.n_eq ruc_len (by decide)
 have hrb := hG.rul.bound
 have hwb := hW.sv.bound
 have hwl := hW.len
 have HRr := Lib.hid (fun (b : Bool) (w' : World) (hb : rightR G = b) (hw' : Below w.heap.size w w') => gright_lit b hG hb hw')
 obtain ⟨HB0, HR0, HZ0⟩ := box2 w #[.slice ro rn rc, .slice no nn nc] #[.bool false, .int .i64 0, .int .i64 0, .slice none 0 0] 25 32
 have hr1 := hok.r1
 have hp1 := hok.p1
 have HRun := Lib.hid (fun (w' : World) (hb : Below w.heap.size w w') => ho ▸ prun_any (hG.below hb) (hW.below hb) hcl hw hok.right rule p (by omega) (by omega) (by rw [ho]))
 have HRv := Lib.hid hok.right
 rw [hrl] at hr1
 have q0 : (0 : Int) ≤ rule := by omega
 have q1 : (0 : Int) ≤ p := by omega
 have q2 : (wn : Int) ≤ 2048 := by omega
 have hmm := @run_makeMap Try.prog
 clear hrl hwl hok ho
 unfold grv
 go_enter Try.func19, Try.ntmps19
 go_wp2_with fail
 revert HB0 HR0 HZ0
 generalize (w.alloc _).alloc _ = w1
 generalize hh8 : w.heap.size + 1 = h8
 intro HB0 HR0 HZ0
 have HH8 := Lib.hid hh8
 clear hh8
 refine (HRr.out true _ HRv.out HB0.out).mono ?_
 rintro e w2 ⟨rfl, hb2⟩
 have HB2 := Lib.hid (HB0.out.trans (hb2.mono HB0.out.size))
 have HR2 := Lib.hid (HR0.out.below hb2)
 have HZ2 := Lib.hid (HZ0.out.below hb2)
 clear hb2 HB0 HR0 HZ0
 obtain ⟨g0, g1⟩ := (HR2.out).c2
 have m0 : (w2.alloc (.map #[] 0)).cell? ⟨w.heap.size, 0, none⟩ = some (.slice ro rn rc) := (HR2.out.below ((Below.refl _ _).alloc (Nat.le_refl _) (.map #[] 0))).cell 0
 have m1 : (w2.alloc (.map #[] 0)).cell? ⟨w.heap.size, 1, none⟩ = some (.slice no nn nc) := (HR2.out.below ((Below.refl _ _).alloc (Nat.le_refl _) (.map #[] 0))).cell 1
 have HRn := Lib.hid (HRun.out w2 HB2.out)
 have HAl : Hid (Below w2.heap.size w2 ((w2.alloc (.map #[] 0)).alloc (.cells #[.map (some w2.heap.size), .bool false, .slice ro rn rc, .slice no nn nc, .slice wo wn wc] 73))) := ((Below.refl _ _).alloc (Nat.le_refl _) _).alloc (by simp) _
 have HZa := Lib.hid (HZ2.out.below HAl.out)
 have hl8 : h8 < w2.heap.size := HZ2.out.lt
 have HL8 := Lib.hid hl8
 clear HRun hl8
 go_upto_region 11 with (go_at_call 40; refine (HRn.out).mono ?_; rintro e w6 ⟨es6, clock6, KS6, o6, c6, rfl, i1, i2, i3⟩; simp only [gtv, gcs] at i1 i2 ⊢; have I1 := Lib.hid i1; have I2 := Lib.hid i2; have HZ6 := Lib.hid (hrow.pf2 i3 HZa.out (by have := HL8.out; show h8 ≠ w2.heap.size + 1; omega) (by have := HL8.out; omega)); clear i1 i2 i3)
 have HB6 : Hid (Below w.heap.size w w6) := HB2.out.trans (I1.out.low.mono HB2.out.size)
 obtain ⟨HA6, H9⟩ := box1 w6 #[.bool xi, .int .i64 xe, .int .i64 xf, .slice o6 xt.length c6] 100
 have L1 := Lib.hid (I1.out.below HA6.out)
 have L2 := Lib.hid (I2.out.step (.below HA6.out))
 have L3 := Lib.hid (HB6.out.trans (HA6.out.mono HB6.out.size))
 have L4 := Lib.hid (HZ6.out.below HA6.out)
 have L5 : Hid (h8 < w6.heap.size) := HZ6.out.lt
 clear I1 I2 HB6 HZ6 HA6 g0 g1 m0 m1 HRn HAl HR2 HZ2 HZa hmm
 revert H9 L1 L2 L3 L4 L5
 generalize w6.alloc _ = w7
 generalize w6.heap.size = h9
 intro H9 L1 L2 L3 L4 L5
 obtain ⟨e0, e1, e2, e3⟩ := (H9.out).c4
 have p1 : w7.cell? ⟨w2.heap.size + 1, 1, none⟩ = some (.bool true) := L1.out.obj.cell 1
 have HMa : Hid (∀ w', Fr (fun k => k = h8) w7 w' → MapAt w' (some ⟨w2.heap.size + 1, 0, none⟩) (cs.length : Int)) := fun w' hf => by
  refine ⟨w2.heap.size + 1, w2.heap.size, es6, clock6, rfl, ?_, (hf.block _ (lt_block L1.out.map) (fun e => by have e' : w2.heap.size = h8 := e; have := HL8.out; omega)).trans L1.out.map, ?_⟩
  ·exact (L1.out.obj.fr hf (fun e => by have e' : w2.heap.size + 1 = h8 := e; have := HL8.out; omega)).cell 0
  ·have h1 := L1.out.ent.len
   have h2 := congrArg List.length L1.out.eq
   simp only [List.length_map] at h2
   rw [h1, h2]
 obtain ⟨zq0, zq1, zq2, zq3⟩ := (L4.out).c4
 obtain ⟨zf0, zf1, zf2, zf3⟩ := (L4.out).f4
 obtain ⟨ZR4, ZF4⟩ := set4_box (.bool false) (.int .i64 0) (.int .i64 0) (.slice none 0 0) (L4.out)
 go_wp2_with fail
 revert ZR4 ZF4
 generalize (((w7.setCell _ _).setCell _ _).setCell _ _).setCell _ _ = wz
 intro ZR4 ZF4
 obtain ⟨zc0, zc1, zc2, zc3⟩ := (ZR4.out).c4
 exact bodyPost_ret (v := .tuple #[.agg #[.bool false, .int .i64 0, .int .i64 0, .slice none 0 0], .pointer none, .int .i64 13]) (by simp [results, Try.results19, go_sem, zc0, zc1, zc2, zc3]) rfl (⟨none, 0, none, rfl, Own.none (told_below L3.out ZF4.out (by have := HH8.out; omega)), fun h => absurd (show (13 : Int) = 0 from h) (by decide)⟩)
theorem pmatch_no (rule p : Nat) (hok : Ask G wn rule p) (xe : Nat) (xf : Int) (xt : List Tw) (xr : Nat) (cs : List Ce) (L : Nat) (ho : runR G W rule p = (⟨false, xe, xf, xt, xr⟩, ⟨cs, false, L, false⟩)) :
  Calls Try.prog 19 #[grv ro rn rc no nn nc, .slice wo wn wc, .int .i64 rule, .int .i64 p] w (MTold w (outK (⟨false, xe, xf, xt, xr⟩, ⟨cs, false, L, false⟩))) := by
 have hrl : G.rules.length = rn := hG.rul.n_eq ruc_len (by decide)
 have hrb := hG.rul.bound
 have hwb := hW.sv.bound
 have hwl := hW.len
 have HRr := Lib.hid (fun (b : Bool) (w' : World) (hb : rightR G = b) (hw' : Below w.heap.size w w') => gright_lit b hG hb hw')
 obtain ⟨HB0, HR0, HZ0⟩ := box2 w #[.slice ro rn rc, .slice no nn nc] #[.bool false, .int .i64 0, .int .i64 0, .slice none 0 0] 25 32
 have hr1 := hok.r1
 have hp1 := hok.p1
 have HRun := Lib.hid (fun (w' : World) (hb : Below w.heap.size w w') => ho ▸ prun_any (hG.below hb) (hW.below hb) hcl hw hok.right rule p (by omega) (by omega) (by rw [ho]))
 have HRv := Lib.hid hok.right
 rw [hrl] at hr1
 have q0 : (0 : Int) ≤ rule := by omega
 have q1 : (0 : Int) ≤ p := by omega
 have q2 : (wn : Int) ≤ 2048 := by omega
 have hmm := @run_makeMap Try.prog
 clear hrl hwl hok ho
 unfold grv
 go_enter Try.func19, Try.ntmps19
 go_wp2_with fail
 revert HB0 HR0 HZ0
 generalize (w.alloc _).alloc _ = w1
 generalize hh8 : w.heap.size + 1 = h8
 intro HB0 HR0 HZ0
 have HH8 := Lib.hid hh8
 clear hh8
 refine (HRr.out true _ HRv.out HB0.out).mono ?_
 rintro e w2 ⟨rfl, hb2⟩
 have HB2 := Lib.hid (HB0.out.trans (hb2.mono HB0.out.size))
 have HR2 := Lib.hid (HR0.out.below hb2)
 have HZ2 := Lib.hid (HZ0.out.below hb2)
 clear hb2 HB0 HR0 HZ0
 obtain ⟨g0, g1⟩ := (HR2.out).c2
 have m0 : (w2.alloc (.map #[] 0)).cell? ⟨w.heap.size, 0, none⟩ = some (.slice ro rn rc) := (HR2.out.below ((Below.refl _ _).alloc (Nat.le_refl _) (.map #[] 0))).cell 0
 have m1 : (w2.alloc (.map #[] 0)).cell? ⟨w.heap.size, 1, none⟩ = some (.slice no nn nc) := (HR2.out.below ((Below.refl _ _).alloc (Nat.le_refl _) (.map #[] 0))).cell 1
 have HRn := Lib.hid (HRun.out w2 HB2.out)
 have HAl : Hid (Below w2.heap.size w2 ((w2.alloc (.map #[] 0)).alloc (.cells #[.map (some w2.heap.size), .bool false, .slice ro rn rc, .slice no nn nc, .slice wo wn wc] 73))) := ((Below.refl _ _).alloc (Nat.le_refl _) _).alloc (by simp) _
 have HZa := Lib.hid (HZ2.out.below HAl.out)
 have hl8 : h8 < w2.heap.size := HZ2.out.lt
 have HL8 := Lib.hid hl8
 clear HRun hl8
 go_upto_region 11 with (go_at_call 40; refine (HRn.out).mono ?_; rintro e w6 ⟨es6, clock6, KS6, o6, c6, rfl, i1, i2, i3⟩; simp only [gtv, gcs] at i1 i2 ⊢; have I1 := Lib.hid i1; have I2 := Lib.hid i2; have HZ6 := Lib.hid (hrow.pf2 i3 HZa.out (by have := HL8.out; show h8 ≠ w2.heap.size + 1; omega) (by have := HL8.out; omega)); clear i1 i2 i3)
 have HB6 : Hid (Below w.heap.size w w6) := HB2.out.trans (I1.out.low.mono HB2.out.size)
 obtain ⟨HA6, H9⟩ := box1 w6 #[.bool false, .int .i64 xe, .int .i64 xf, .slice o6 xt.length c6] 100
 have L1 := Lib.hid (I1.out.below HA6.out)
 have L2 := Lib.hid (I2.out.step (.below HA6.out))
 have L3 := Lib.hid (HB6.out.trans (HA6.out.mono HB6.out.size))
 have L4 := Lib.hid (HZ6.out.below HA6.out)
 have L5 : Hid (h8 < w6.heap.size) := HZ6.out.lt
 clear I1 I2 HB6 HZ6 HA6 g0 g1 m0 m1 HRn HAl HR2 HZ2 HZa hmm
 revert H9 L1 L2 L3 L4 L5
 generalize w6.alloc _ = w7
 generalize w6.heap.size = h9
 intro H9 L1 L2 L3 L4 L5
 obtain ⟨e0, e1, e2, e3⟩ := (H9.out).c4
 have p1 : w7.cell? ⟨w2.heap.size + 1, 1, none⟩ = some (.bool false) := L1.out.obj.cell 1
 have HMa : Hid (∀ w', Fr (fun k => k = h8) w7 w' → MapAt w' (some ⟨w2.heap.size + 1, 0, none⟩) (cs.length : Int)) := fun w' hf => by
  refine ⟨w2.heap.size + 1, w2.heap.size, es6, clock6, rfl, ?_, (hf.block _ (lt_block L1.out.map) (fun e => by have e' : w2.heap.size = h8 := e; have := HL8.out; omega)).trans L1.out.map, ?_⟩
  ·exact (L1.out.obj.fr hf (fun e => by have e' : w2.heap.size + 1 = h8 := e; have := HL8.out; omega)).cell 0
  ·have h1 := L1.out.ent.len
   have h2 := congrArg List.length L1.out.eq
   simp only [List.length_map] at h2
   rw [h1, h2]
 obtain ⟨zq0, zq1, zq2, zq3⟩ := (L4.out).c4
 obtain ⟨zf0, zf1, zf2, zf3⟩ := (L4.out).f4
 obtain ⟨ZR4, ZF4⟩ := set4_box (.bool false) (.int .i64 0) (.int .i64 xf) (.slice none 0 0) (L4.out)
 go_wp2_with fail
 revert ZR4 ZF4
 generalize (((w7.setCell _ _).setCell _ _).setCell _ _).setCell _ _ = wz
 intro ZR4 ZF4
 obtain ⟨zc0, zc1, zc2, zc3⟩ := (ZR4.out).c4
 exact bodyPost_ret (v := .tuple #[.agg #[.bool false, .int .i64 0, .int .i64 xf, .slice none 0 0], .pointer (some ⟨w2.heap.size + 1, 0, none⟩), .int .i64 0]) (by simp [results, Try.results19, go_sem, zc0, zc1, zc2, zc3]) rfl (⟨none, 0, _, rfl, Own.none (told_below L3.out ZF4.out (by have := HH8.out; omega)), fun _ => HMa.out _ ZF4.out⟩)
theorem pmatch_yes (rule p : Nat) (hok : Ask G wn rule p) (xe : Nat) (xf : Int) (xt : List Tw) (xr : Nat) (cs : List Ce) (L : Nat) (ho : runR G W rule p = (⟨true, xe, xf, xt, xr⟩, ⟨cs, false, L, false⟩)) (hln : xt.length ≤ 2000) :
  Calls Try.prog 19 #[grv ro rn rc no nn nc, .slice wo wn wc, .int .i64 rule, .int .i64 p] w (MTold w (outK (⟨true, xe, xf, xt, xr⟩, ⟨cs, false, L, false⟩))) := by
 have hrl : G.rules.length = rn := hG.rul.n_eq ruc_len (by decide)
 have hrb := hG.rul.bound
 have hwb := hW.sv.bound
 have hwl := hW.len
 have HRr := Lib.hid (fun (b : Bool) (w' : World) (hb : rightR G = b) (hw' : Below w.heap.size w w') => gright_lit b hG hb hw')
 obtain ⟨HB0, HR0, HZ0⟩ := box2 w #[.slice ro rn rc, .slice no nn nc] #[.bool false, .int .i64 0, .int .i64 0, .slice none 0 0] 25 32
 have hr1 := hok.r1
 have hp1 := hok.p1
 have HRun := Lib.hid (fun (w' : World) (hb : Below w.heap.size w w') => ho ▸ prun_any (hG.below hb) (hW.below hb) hcl hw hok.right rule p (by omega) (by omega) (by rw [ho]))
 have HRv := Lib.hid hok.right
 rw [hrl] at hr1
 have q0 : (0 : Int) ≤ rule := by omega
 have q1 : (0 : Int) ≤ p := by omega
 have q2 : (wn : Int) ≤ 2048 := by omega
 have hmm := @run_makeMap Try.prog
 clear hrl hwl hok ho
 unfold grv
 go_enter Try.func19, Try.ntmps19
 go_wp2_with fail
 revert HB0 HR0 HZ0
 generalize (w.alloc _).alloc _ = w1
 generalize hh8 : w.heap.size + 1 = h8
 intro HB0 HR0 HZ0
 have HH8 := Lib.hid hh8
 clear hh8
 refine (HRr.out true _ HRv.out HB0.out).mono ?_
 rintro e w2 ⟨rfl, hb2⟩
 have HB2 := Lib.hid (HB0.out.trans (hb2.mono HB0.out.size))
 have HR2 := Lib.hid (HR0.out.below hb2)
 have HZ2 := Lib.hid (HZ0.out.below hb2)
 clear hb2 HB0 HR0 HZ0
 obtain ⟨g0, g1⟩ := (HR2.out).c2
 have m0 : (w2.alloc (.map #[] 0)).cell? ⟨w.heap.size, 0, none⟩ = some (.slice ro rn rc) := (HR2.out.below ((Below.refl _ _).alloc (Nat.le_refl _) (.map #[] 0))).cell 0
 have m1 : (w2.alloc (.map #[] 0)).cell? ⟨w.heap.size, 1, none⟩ = some (.slice no nn nc) := (HR2.out.below ((Below.refl _ _).alloc (Nat.le_refl _) (.map #[] 0))).cell 1
 have HRn := Lib.hid (HRun.out w2 HB2.out)
 have HAl : Hid (Below w2.heap.size w2 ((w2.alloc (.map #[] 0)).alloc (.cells #[.map (some w2.heap.size), .bool false, .slice ro rn rc, .slice no nn nc, .slice wo wn wc] 73))) := ((Below.refl _ _).alloc (Nat.le_refl _) _).alloc (by simp) _
 have HZa := Lib.hid (HZ2.out.below HAl.out)
 have hl8 : h8 < w2.heap.size := HZ2.out.lt
 have HL8 := Lib.hid hl8
 clear HRun hl8
 go_upto_region 11 with (go_at_call 40; refine (HRn.out).mono ?_; rintro e w6 ⟨es6, clock6, KS6, o6, c6, rfl, i1, i2, i3⟩; simp only [gtv, gcs] at i1 i2 ⊢; have I1 := Lib.hid i1; have I2 := Lib.hid i2; have HZ6 := Lib.hid (hrow.pf2 i3 HZa.out (by have := HL8.out; show h8 ≠ w2.heap.size + 1; omega) (by have := HL8.out; omega)); clear i1 i2 i3)
 have HB6 : Hid (Below w.heap.size w w6) := HB2.out.trans (I1.out.low.mono HB2.out.size)
 obtain ⟨HA6, H9⟩ := box1 w6 #[.bool true, .int .i64 xe, .int .i64 xf, .slice o6 xt.length c6] 100
 have L1 := Lib.hid (I1.out.below HA6.out)
 have L2 := Lib.hid (I2.out.step (.below HA6.out))
 have L3 := Lib.hid (HB6.out.trans (HA6.out.mono HB6.out.size))
 have L4 := Lib.hid (HZ6.out.below HA6.out)
 have L5 : Hid (h8 < w6.heap.size) := HZ6.out.lt
 clear I1 I2 HB6 HZ6 HA6 g0 g1 m0 m1 HRn HAl HR2 HZ2 HZa hmm
 revert H9 L1 L2 L3 L4 L5
 generalize w6.alloc _ = w7
 generalize w6.heap.size = h9
 intro H9 L1 L2 L3 L4 L5
 obtain ⟨e0, e1, e2, e3⟩ := (H9.out).c4
 have p1 : w7.cell? ⟨w2.heap.size + 1, 1, none⟩ = some (.bool false) := L1.out.obj.cell 1
 have HMa : Hid (∀ w', Fr (fun k => k = h8) w7 w' → MapAt w' (some ⟨w2.heap.size + 1, 0, none⟩) (cs.length : Int)) := fun w' hf => by
  refine ⟨w2.heap.size + 1, w2.heap.size, es6, clock6, rfl, ?_, (hf.block _ (lt_block L1.out.map) (fun e => by have e' : w2.heap.size = h8 := e; have := HL8.out; omega)).trans L1.out.map, ?_⟩
  ·exact (L1.out.obj.fr hf (fun e => by have e' : w2.heap.size + 1 = h8 := e; have := HL8.out; omega)).cell 0
  ·have h1 := L1.out.ent.len
   have h2 := congrArg List.length L1.out.eq
   simp only [List.length_map] at h2
   rw [h1, h2]
 have HCl := Lib.hid (fun w' (hb : Below w7.heap.size w7 w') => cloneO_any w' o6 c6 xt (L2.out.sv.below hb) (by omega))
 have HD0 := Lib.hid ((Below.refl w7.heap.size w7).drew)
 have HS3 : Hid (∀ w', Below w7.heap.size w7 w' → w'.cell? ⟨h9, 1, none⟩ = some (.int .i64 xe) ∧ w'.cell? ⟨h9, 2, none⟩ = some (.int .i64 xf) ∧ w'.cell? ⟨h9, 3, none⟩ = some (.slice o6 xt.length c6)) := fun w' hb => ⟨(H9.out.below hb).cell 1, (H9.out.below hb).cell 2, (H9.out.below hb).cell 3⟩
 have hn9 : h9 ≠ h8 := by have := L5.out; omega
 have HTl : Hid (w.heap.size ≤ w7.heap.size) := L3.out.size
 go_upto_region 15 with (fail)
 go_region_held3 (fun w' => w'.cell? ⟨h9, 1, none⟩ = some (.int .i64 xe) ∧ w'.cell? ⟨h9, 2, none⟩ = some (.int .i64 xf) ∧ w'.cell? ⟨h9, 3, none⟩ = some (.slice o6 xt.length c6))
  (first | (with_reducible exact HS3.out _ HB8.out) | (with_reducible exact ⟨set4_cell0 (HS3.out _ HB8.out).1 hn9, set4_cell0 (HS3.out _ HB8.out).2.1 hn9, set4_cell0 (HS3.out _ HB8.out).2.2 hn9⟩) | go_keep)
  ((go_at_call 41; refine (HCl.out _ HD0.out).mono ?_; rintro e w8 ⟨go, gc, rfl, hO⟩; have HOw := Lib.hid (hO.since (L3.out.trans (HD0.out.mono L3.out.size))); have HB8 := Lib.hid (HD0.out.trans (hO.2.mono HD0.out.size)); have HZ8 := Lib.hid (L4.out.below HB8.out); clear hO; obtain ⟨zq0, zq1, zq2, zq3⟩ := (HZ8.out).c4; obtain ⟨zf0, zf1, zf2⟩ := (HZ8.out).f3; have zf3 := (HZ8.out).frozen 3))
 all_goals
  obtain ⟨ZR4, ZF4⟩ := set4_box (.bool true) (.int .i64 xe) (.int .i64 xf) (.slice go xt.length gc) (HZ8.out)
  revert ZR4 ZF4
  generalize (((w8.setCell _ _).setCell _ _).setCell _ _).setCell _ _ = wz
  intro ZR4 ZF4
  obtain ⟨zc0, zc1, zc2, zc3⟩ := (ZR4.out).c4
  go_wp2_with fail
  exact bodyPost_ret (v := .tuple #[.agg #[.bool true, .int .i64 xe, .int .i64 xf, .slice go xt.length gc], .pointer (some ⟨w2.heap.size + 1, 0, none⟩), .int .i64 0]) (by simp [results, Try.results19, go_sem, zc0, zc1, zc2, zc3]) rfl (⟨go, gc, _, rfl, HOw.out.fr HZ8.out (by decide) (by have := HH8.out; omega) ZF4.out, fun _ => HMa.out _ (Fr.trans (Fr.of_below (F := fun k => k = h8) HB8.out) ZF4.out (fun _ _ h => h))⟩)
theorem pmatch_ok (rule p : Nat) (hok : Ask G wn rule p) (hov : (runR G W rule p).2.over = false) (hln : (runR G W rule p).1.tree.length ≤ 2000) :
  Calls Try.prog 19 #[grv ro rn rc no nn nc, .slice wo wn wc, .int .i64 rule, .int .i64 p] w (MTold w (outK (runR G W rule p))) := by
 generalize hq : runR G W rule p = o at *
 obtain ⟨⟨xi, xe, xf, xt, xr⟩, ⟨cs, rd, L, ov⟩⟩ := o
 have e : ov = false := hov
 subst e
 cases rd
 ·cases xi
  ·exact pmatch_no w ro rn rc no nn nc NK G hG wo wn wc W hW hcl hw rule p hok xe xf xt xr cs L hq
  ·exact pmatch_yes w ro rn rc no nn nc NK G hG wo wn wc W hW hcl hw rule p hok xe xf xt xr cs L hq hln
 ·exact pmatch_round w ro rn rc no nn nc NK G hG wo wn wc W hW hcl hw rule p hok xe xf xt xr cs L xi hq
end
end Go.Proofs.Ytdnkffplkleolaa
namespace Go.Proofs.Ytdnkffplkleolaa
open Go.RowKit Go.ChangeMaps
set_option maxRecDepth 100000
set_option maxHeartbeats 4000000

theorem runR_len {G : Gr} {W : List Nat} {rule p : Nat} (hr : rule < G.rules.length) (ho : (runR G W rule p).2.over = false) : (runR G W rule p).1.tree.length ≤ 2000 := by
 have hn : (⟨[], false, 20000, false⟩ : St).cells.find? (keyB rule p) = none := rfl
 have h1 := callR_new (E := ev G W 20000) (G := G) (rule := rule) (p := p) hn hr rfl
 unfold runR at ho ⊢
 rw [h1] at ho ⊢
 simp only [shut, Bool.or_eq_false_iff, decide_eq_false_iff_not] at ho
 simp only []
 omega
/-- No match that may be asked is too long. -/
def Short (G : Gr) (wn : Nat) (W : List Nat) : Int → Int → Prop := fun rule place => ∀ r p : Nat, rule = r → place = p → Ask G wn r p → (runR G W r p).2.over = false
/-- What Match tells, with a tree of its own; how many cells. -/
def FTold (w : World) (o : Ot) (e : Ending) (w' : World) : Prop := ∃ ao cap, e = .returned (.tuple #[.agg #[.bool o.is, .int .i64 o.en, .int .i64 o.far, .slice ao o.tree.length cap], .int .i64 o.e]) ∧ Own w w' 43 5 (.slice ao o.tree.length cap) o.tree.length (o.tree.flatMap twc)
def cellN (o : Ot) : Int := if o.e = 0 then o.n else 0
section
variable (w : World) (ro : Option Addr) (rn rc : Nat) (no : Option Addr) (nn nc : Nat) (NK : List (Nd × (Option Addr × Nat))) (G : Gr) (hG : GrW w ro rn rc no nn nc NK G) (wo : Option Addr) (wn wc : Nat) (W : List Nat) (hW : InW w wo wn wc W) (hcl : ClsOk G)
include hG hW hcl
theorem pmatch_any (rule place : Int) (hs : wn ≤ 2048 → Short G wn W rule place) :
  Calls Try.prog 19 #[grv ro rn rc no nn nc, .slice wo wn wc, .int .i64 rule, .int .i64 place] w (MTold w (outW G W rule place)) := by
 have hrl : G.rules.length = rn := hG.rul.n_eq ruc_len (by decide)
 have hwl := hW.len
 by_cases hr : rightR G = false
 ·exact pmatch_shape w ro rn rc no nn nc NK G hG wo wn wc W hW rule place hr
 have hr' : rightR G = true := by cases h : rightR G <;> simp_all
 by_cases hw : 2048 < wn
 ·exact pmatch_long w ro rn rc no nn nc NK G hG wo wn wc W hW rule place hr' hw
 have hw' : wn ≤ 2048 := by omega
 by_cases h1 : rule < 0
 ·exact pmatch_rule_lo w ro rn rc no nn nc NK G hG wo wn wc W hW hw' rule place hr' h1
 by_cases h2 : (rn : Int) ≤ rule
 ·exact pmatch_rule_hi w ro rn rc no nn nc NK G hG wo wn wc W hW hw' rule place hr' (by omega) h2
 by_cases h3 : place < 0
 ·exact pmatch_place_lo w ro rn rc no nn nc NK G hG wo wn wc W hW hw' rule place hr' (by omega) (by omega) h3
 by_cases h4 : (wn : Int) < place
 ·exact pmatch_place_hi w ro rn rc no nn nc NK G hG wo wn wc W hW hw' rule place hr' (by omega) (by omega) (by omega) h4
 obtain ⟨r, rfl⟩ := Int.eq_ofNat_of_zero_le (show 0 ≤ rule by omega)
 obtain ⟨p, rfl⟩ := Int.eq_ofNat_of_zero_le (show 0 ≤ place by omega)
 have hok : Ask G wn r p := ⟨hr', by omega, by omega, by omega, by omega⟩
 have ho : outW G W (r : Int) (p : Int) = outK (runR G W r p) := by
  unfold outW
  rw [if_neg hr, if_neg (by omega), if_neg (by omega), if_neg (by omega), Int.toNat_natCast, Int.toNat_natCast]
 rw [ho]
 have hov := hs hw' r p rfl rfl hok
 exact pmatch_ok w ro rn rc no nn nc NK G hG wo wn wc W hW hcl hw' r p hok hov (runR_len (by omega) hov)
theorem pMatch_any (rule place : Int) (hs : wn ≤ 2048 → Short G wn W rule place) :
  Calls Try.prog 7 #[grv ro rn rc no nn nc, .slice wo wn wc, .int .i64 rule, .int .i64 place] w (FTold w (outW G W rule place)) := by
 have HMm := Lib.hid (fun (w' : World) (hb : Below w.heap.size w w') => pmatch_any w' ro rn rc no nn nc NK G (hG.below hb) wo wn wc W (hW.below hb) hcl rule place hs)
 have hrb := hG.rul.bound
 have hwb := hW.sv.bound
 obtain ⟨HB0, HR0, HZ0⟩ := box2 w #[.slice ro rn rc, .slice no nn nc] #[.bool false, .int .i64 0, .int .i64 0, .slice none 0 0] 25 32
 clear hs
 generalize outW G W rule place = o at *
 obtain ⟨oi, oe, of, ot, on, oq⟩ := o
 unfold grv at *
 go_enter Try.func7, Try.ntmps7
 go_wp2_with fail
 revert HB0 HR0 HZ0
 generalize (w.alloc _).alloc _ = w1
 generalize hh8 : w.heap.size + 1 = h8
 intro HB0 HR0 HZ0
 have HH8 := Lib.hid hh8
 clear hh8
 refine (HMm.out w1 HB0.out).mono ?_
 rintro e w3 ⟨ao, cap, po, rfl, g1, g2⟩
 have G1 := Lib.hid (g1.since HB0.out)
 have GZ := Lib.hid (HZ0.out.below g1.2)
 clear g1 g2 HMm HB0 HR0 HZ0
 simp only [] at G1
 go_upto_region 2 with (fail)
 obtain ⟨HAl, H10⟩ := box1 w3 #[.bool oi, .int .i64 oe, .int .i64 of, .slice ao ot.length cap] 32
 have L1 := Lib.hid (G1.out.below HAl.out)
 have LZ := Lib.hid (GZ.out.below HAl.out)
 clear HAl G1 GZ
 revert H10 L1 LZ
 generalize w3.alloc _ = w4
 generalize w3.heap.size = h10
 intro H10 L1 LZ
 obtain ⟨e0, e1, e2, e3⟩ := (H10.out).c4
 obtain ⟨zq0, zq1, zq2, zq3⟩ := (LZ.out).c4
 obtain ⟨zf0, zf1, zf2, zf3⟩ := (LZ.out).f4
 obtain ⟨ZR4, ZF4⟩ := set4_box (.bool oi) (.int .i64 oe) (.int .i64 of) (.slice ao ot.length cap) (LZ.out)
 go_wp2_with fail
 revert ZR4 ZF4
 generalize (((w4.setCell _ _).setCell _ _).setCell _ _).setCell _ _ = wz
 intro ZR4 ZF4
 obtain ⟨zc0, zc1, zc2, zc3⟩ := (ZR4.out).c4
 exact bodyPost_ret (v := .tuple #[.agg #[.bool oi, .int .i64 oe, .int .i64 of, .slice ao ot.length cap], .int .i64 oq]) (by simp [results, Try.results7, go_sem, zc0, zc1, zc2, zc3]) rfl (⟨ao, cap, rfl, L1.out.fr LZ.out (by decide) (by have := HH8.out; omega) ZF4.out⟩)
theorem pCells_any (rule place : Int) (hs : wn ≤ 2048 → Short G wn W rule place) :
  Calls Try.prog 8 #[grv ro rn rc no nn nc, .slice wo wn wc, .int .i64 rule, .int .i64 place] w fun e w' => e = .returned (.tuple #[.int .i64 (cellN (outW G W rule place)), .int .i64 (outW G W rule place).e]) ∧ Below w.heap.size w w' := by
 have HMm := Lib.hid (fun (w' : World) (hb : Below w.heap.size w w') => pmatch_any w' ro rn rc no nn nc NK G (hG.below hb) wo wn wc W (hW.below hb) hcl rule place hs)
 have HB0 := Lib.hid (al1 (Below.refl w.heap.size w) (.cells #[.slice ro rn rc, .slice no nn nc] 25))
 have hrb := hG.rul.bound
 have hwb := hW.sv.bound
 clear hs
 generalize outW G W rule place = o at *
 obtain ⟨oi, oe, of, ot, on, oq⟩ := o
 unfold grv at *
 go_enter Try.func8, Try.ntmps8
 go_wp2_with fail
 revert HB0
 generalize w.alloc _ = w1
 intro HB0
 refine (HMm.out w1 HB0.out).mono ?_
 rintro e w3 ⟨ao, cap, po, rfl, g1, g2⟩
 have HB3 := Lib.hid (HB0.out.trans (g1.2.mono HB0.out.size))
 have G2 := Lib.hid g2
 clear g1 g2 HMm HB0
 simp only [] at G2
 by_cases hq : oq = 0
 ·subst hq
  obtain ⟨g, m, es, clock, rfl, k1, k2, k3⟩ := G2.out rfl
  have HMap := Lib.hid k2
  have HN := Lib.hid k3
  clear k2 k3 G2
  have k4 : (w3.alloc (.cells #[.bool oi, .int .i64 oe, .int .i64 of, .slice ao ot.length cap] 32)).cell? ⟨g, 0, none⟩ = some (.map (some m)) := al_cell k1
  have k5 : (w3.alloc (.cells #[.bool oi, .int .i64 oe, .int .i64 of, .slice ao ot.length cap] 32)).heap[m]? = some (.map es clock) := (((Below.refl w3.heap.size w3).alloc (Nat.le_refl _) (.cells #[.bool oi, .int .i64 oe, .int .i64 of, .slice ao ot.length cap] 32)).block m (lt_block HMap.out)).trans HMap.out
  have HBe := Lib.hid (HB3.out.alloc HB3.out.size (.cells #[.bool oi, .int .i64 oe, .int .i64 of, .slice ao ot.length cap] 32))
  clear k1
  have hmu : Try.prog.underlying 69 = some (.map (Try.prog.mapKeyOf 69) (Try.prog.mapElemOf 69)) := by kernel_rfl
  have hln := fun (ty : TypeId) => run_len_map (P := Try.prog) (w := w3.alloc (.cells #[.bool oi, .int .i64 oe, .int .i64 of, .slice ao ot.length cap] 32)) 69 ty m es clock hmu k5
  go_wp2_with fail
  go_ret2
  exact ⟨by unfold cellN; rw [← HN.out]; rfl, HBe.out⟩
 ·have hqd : (oq != 0) = true := by simp [hq]
  have HQ := Lib.hid hq
  clear hq
  go_wp2_with fail
  go_ret2
  exact ⟨by unfold cellN; simp [HQ.out], HB3.out.alloc HB3.out.size _⟩
end
end Go.Proofs.Ytdnkffplkleolaa
