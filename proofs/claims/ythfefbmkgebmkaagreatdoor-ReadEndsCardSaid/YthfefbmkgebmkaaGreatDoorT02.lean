/- Walks and plain laws: Qd Qe. -/
import Derived.Test.YthfefbmkgebmkaaGreatDoorT01
import Derived.Test.YthfefbmkgebmkaaGreatDoorM13
namespace Go.Proofs.YthfefbmkgebmkaaGreatDoor
open Go.RowKit
set_option maxRecDepth 100000
set_option maxHeartbeats 16000000

def pt0C : Array Value := #[.int .i64 0, .int .u64 0, .int .u64 0, .int .u64 0, .int .u64 0, .string ⟨#[]⟩, .int .i64 0, .int .i64 0, .slice none 0 0, .int .i64 0, .string ⟨#[]⟩, .slice none 0 0]
theorem pq_info : (Tryz.prog.info? 122).map (·.size) = some 12 := by decide +kernel
theorem pq_sz {cs : Array Value} (h : cs.size = 12) : (Tryz.prog.info? 122).map (·.size) = some cs.size := h ▸ pq_info
/-- The store of a part into a block. -/
theorem store_partQ {ops : Array Oper} {rest : List Oper} {o : Oper} {a : Act} {w : World} {Q : Exit → Act → World → Prop} (hgd : o.guard = none) (x y : Operand) (ho : o.op = .store 122 x y)
  (g : Nat) (cs old : Array Value) (hx : a.eval x = .pointer (some ⟨g, 0, none⟩)) (hy : a.eval y = .agg cs) (hg : hrow w g old 122) (hs : cs.size = 12) (hs0 : old.size = 12) (h1 : cs.all (·.oneCell') = true)
  (h : wpList Tryz.prog ops Q rest (a.put o.dst undef) (w.setRow g cs)) : wpList Tryz.prog ops Q (o :: rest) a w :=
 wpList_store_row hgd _ x y ho g _ hx hy _ _ hg.h (pq_sz hs) (by rw [hs, hs0]) h1 h
theorem load_partQ {ops : Array Oper} {rest : List Oper} {o : Oper} {a : Act} {w : World} {Q : Exit → Act → World → Prop} (hgd : o.guard = none) (x : Operand) (ho : o.op = .load 122 x)
  (g : Nat) (hx : a.eval x = .pointer (some ⟨g, 0, none⟩)) (cs : Array Value) (hg : hrow w g cs 122) (hs : cs.size = 12)
  (h : wpList Tryz.prog ops Q rest (a.put o.dst (.agg cs)) w) : wpList Tryz.prog ops Q (o :: rest) a w :=
 wpList_load_row hgd _ x ho g hx _ _ _ _ hg.h Tryz.underlying122 rfl (pq_sz hs) h
theorem results_partQ {fn : Func} {p : Tmp} (h : fn.results = #[.cell p 122]) (tmps : Array Value) (w : World) (g : Nat) (cs old : Array Value)
  (hp : tmps.getD p undef = .pointer (some ⟨g, 0, none⟩)) (hg : hrow w g old 122) (hs : cs.size = 12) : (results fn tmps).run Tryz.prog (w.setRow g cs) = .ok (.agg cs) (w.setRow g cs) :=
 results_cell_row h tmps _ g 122 _ _ _ hp (setRow_heap _ _ _ _ _ _ hg) Tryz.underlying122 rfl (pq_sz hs)
/-- Whatever happens a part comes back; what the parser says, so far as this fuel goes, is what it is, or what the reader keeps. -/
def PqP (L : List Wd) (B gr i : Nat) (d : Int) (r : Rs Pt) (w : World) (e : Ending) (w' : World) : Prop :=
 ∃ (p : Pt) (cs : Array Value) (i' e' a' : Nat), e = .returned (.agg cs) ∧ PvW w' (fun k => B ≤ k) p cs ∧ RqW L B gr i' d e' a' w' ∧ Fr (fun k => k = gr) w w' ∧ i ≤ i' ∧ i' < L.length ∧ p.sz ≤ 2 * (i' - i) + 1 ∧
  (match r with | .ok q j => p = q ∧ i' = j ∧ e' = 0 ∧ a' = 0 | .err x y => e' = x ∧ a' = y ∧ x ≠ 0)
def PqC (L : List Wd) (gr : Nat) (fn : Nat) (m : Md) (f : Nat) : Prop := ∀ (B i d : Nat) (w : World) (r : Rs Pt), prs L f m [] i d = some r → RqW L B gr i d 0 0 w → i < L.length → d ≤ 500 → Calls Tryz.prog fn #[ptr gr] w fun e w' => PqP L B gr i d r w e w'
/-- A part without kids lies in its cells alone. -/
theorem pv_leaf (w : World) (F : Nat → Prop) (k : Nat) (cl : List (UInt8 × UInt8)) (t : List UInt8) (lv : Int) (a : Nat) (nm : List UInt8) : PvW w F (.mk k cl t lv a nm []) (ptC k cl t lv a nm none 0 0) := by
 unfold PvW
 refine ⟨none, 0, [], rfl, Sv.nil _ _, ?_, ?_⟩
 ·intro x hx; cases hx
 ·unfold PvsW; rfl
theorem sz_leaf (k : Nat) (cl : List (UInt8 × UInt8)) (t : List UInt8) (lv : Int) (a : Nat) (nm : List UInt8) : (Pt.mk k cl t lv a nm []).sz = 1 := rfl
mutual
theorem PvW.bound {w : World} {F : Nat → Prop} : ∀ (p : Pt) (cs : Array Value), PvW w F p cs → PvW w (fun k => F k ∧ k < w.heap.size) p cs
 | .mk k cl t lv a nm ks, cs, h => by
  unfold PvW at h ⊢
  obtain ⟨ao, cap, vs, h2, h3, h4, h5⟩ := h
  refine ⟨ao, cap, vs, h2, h3, fun x hx hk => ⟨h4 x hx hk, ?_⟩, PvsW.bound ks vs h5⟩
  have hl := h3.len
  have hp : 0 < ks.length := List.length_pos_iff.2 hk
  obtain ⟨a', ha, hc⟩ := h3.cell 0 (by omega)
  rw [hx] at ha; cases ha
  have := World.block_lt_of_cell? w _ (hc.trans (List.getElem?_eq_getElem (by omega)))
  rwa [show x.add 0 = x by unfold Addr.add; simp] at this
theorem PvsW.bound {w : World} {F : Nat → Prop} : ∀ (ps : List Pt) (vs : List (Array Value)), PvsW w F ps vs → PvsW w (fun k => F k ∧ k < w.heap.size) ps vs
 | [], vs, h => by unfold PvsW at h ⊢; exact h
 | p :: ps, vs, h => by
  unfold PvsW at h ⊢
  obtain ⟨b, r, h1, h2, h3⟩ := h
  exact ⟨b, r, h1, PvW.bound p b h2, PvsW.bound ps r h3⟩
end
/-- The reader, the block of the part that is answered, that of the word, while a function of the document's runs. -/
structure PrS (L : List Wd) (B gr i : Nat) (d : Int) (e a g2 g5 : Nat) (cx : Array Value) (w v : World) : Prop where
 z : hrow v g2 pt0C 122
 x : hrow v g5 cx 119
 q : RqW L B gr i d e a v
 f : Fr (fun k => k = gr) w v
 lt5 : gr < g5
 le2 : w.heap.size ≤ g2
 leB : B ≤ w.heap.size
section
variable {L : List Wd} {B gr i i' : Nat} {d d' : Int} {e a e' a' g2 g5 : Nat} {cx : Array Value} {w v v' : World}
theorem PrS.ne2 (h : PrS L B gr i d e a g2 g5 cx w v) : gr ≠ g2 := by have := h.q.lt; have := h.le2; have := h.leB; omega
theorem PrS.below (h : PrS L B gr i d e a g2 g5 cx w v) (hb : Below v.heap.size v v') : PrS L B gr i d e a g2 g5 cx w v' :=
 ⟨h.z.below hb, h.x.below hb, h.q.below hb, h.f.trans (Fr.of_below (F := fun k => k = gr) hb) (fun _ _ h => h), h.lt5, h.le2, h.leB⟩
theorem PrS.call (h : PrS L B gr i d e a g2 g5 cx w v) (hf : Fr (fun k => k = gr) v v') (hq : RqW L B gr i' d' e' a' v') : PrS L B gr i' d' e' a' g2 g5 cx w v' :=
 ⟨h.z.fr hf (fun e => h.ne2 e.symm), h.x.fr hf (fun e => by have := h.lt5; omega), hq, h.f.trans hf (fun _ _ h => h), h.lt5, h.le2, h.leB⟩
theorem PrS.set (h : PrS L B gr i d e a g2 g5 cx w v) (o : Nat) (u : Value) (hv : ∀ x : Value, (#[x, .int .i64 i, .int .i64 d, .int .i64 e, .int .i64 a] : Array Value).setIfInBounds o u = #[x, .int .i64 i', .int .i64 d', .int .i64 e', .int .i64 a']) : PrS L B gr i' d' e' a' g2 g5 cx w (v.setCell ⟨gr, o, none⟩ u) := by
 obtain ⟨h1, h2⟩ := h.q.set o u hv
 exact h.call h2 h1
theorem PrS.cells (h : PrS L B gr i d e a g2 g5 cx w v) : v.cell? ⟨gr, 1, none⟩ = some (.int .i64 i) ∧ v.cell? ⟨gr, 2, none⟩ = some (.int .i64 d) ∧ v.frozen? ⟨gr, 1, none⟩ = false ∧ v.frozen? ⟨gr, 2, none⟩ = false := by
 obtain ⟨ao, cap, h1, _, _⟩ := h.q.row
 exact ⟨h1.cell 1, h1.cell 2, h1.frozen 1, h1.frozen 2⟩
theorem PrS.fin {p : Pt} {cs : Array Value} {i0 : Nat} {r : Rs Pt} (h : PrS L B gr i d e a g2 g5 cx w v) (hp : PvW v (fun k => B ≤ k ∧ k ≠ g2) p cs) (hii : i0 ≤ i) (hi : i < L.length) (hsz : p.sz ≤ 2 * (i - i0) + 1)
  (hr : match r with | .ok q j => p = q ∧ i = j ∧ e = 0 ∧ a = 0 | .err x y => e = x ∧ a = y ∧ x ≠ 0) : PqP L B gr i0 d r w (.returned (.agg cs)) (v.setRow g2 cs) := by
 have hf := Fr.setRow v g2 cs
 have h2 := h.le2; have hB := h.leB
 exact ⟨p, cs, i, e, a, rfl, PvW.fr hf (fun k hk e => hk.2 e) (fun k hk => hk.1) p cs hp, h.q.fr hf (fun k e => by omega), h.f.trans hf (fun k hk e => by omega), hii, hi, hsz, hr⟩
end
theorem qprim_step (L : List Wd) (hW : WsOk L) (hL : L.length ≤ 100000) (gr f : Nat) (hA : PqC L gr 55 .alt f) : PqC L gr 111 .prim (f + 1) := by
 intro B i d w r hr h hi hd
 have HLL := Lib.hid hL; have HA := Lib.hid hA; have HD := Lib.hid hd; have HWs := Lib.hid hW; have HI := Lib.hid hi
 have hbw := h.le
 have hgB := h.lt
 simp only [prs] at hr
 -- the part's block
 have hbl := (Below.refl w.heap.size w).alloc (Nat.le_refl _) (.cells pt0C 122)
 have HH := Lib.hid (h.below hbl)
 obtain ⟨w0, hw0⟩ : ∃ x, w.alloc (.cells pt0C 122) = x := ⟨_, rfl⟩
 have HZ := Lib.hid (hrow.new w pt0C 122)
 have HB0 := Lib.hid hbl
 rw [hw0] at HH HZ HB0
 obtain ⟨ao, cap, p, hrw, rfl, hc, hna⟩ := HH.out.at hi
 have hiI : (i : Int) < L.length := by omega
 have hLI : (i : Int) + 1 ≤ 100000 := by omega
 obtain ⟨x, hx⟩ : ∃ x, wdAt L i = x := ⟨_, rfl⟩
 rw [hx] at hc hr
 unfold ptr at *
 unfold wdD wdA at hc
 have HC := Lib.hid hc; have HR := Lib.hid hrw; have HX := Lib.hid hx; have HPR := Lib.hid hr; have HW0 := Lib.hid hw0; have HBW := Lib.hid hbw; have HGB := Lib.hid hgB
 clear hc hrw h hi hna hA hL hd hW hx hr hw0 hbl hbw hgB
 go_enter Tryz.func111, Tryz.ntmps111
 go_upto_region 1 with (fail)
 unfold pt0C at HW0
 rw [HW0.out]
 obtain ⟨g2, hg2⟩ : ∃ g, w.heap.size = g := ⟨_, rfl⟩
 rw [hg2] at HZ ⊢
 have HG2 := Lib.hid hg2
 clear hg2
 have c0 : ∀ x : Later w0, x.val.cell? ⟨gr, 0, none⟩ = some (.slice (some p) L.length cap) := fun x => (HR.out.below x.ok).cell 0
 have c1 : ∀ x : Later w0, x.val.cell? ⟨gr, 1, none⟩ = some (.int .i64 i) := fun x => (HR.out.below x.ok).cell 1
 have HP := Lib.hid (later_all (rpart_later (wx := w0) HC.out))
 refine wp_region_noPanic ?_
 refine wp_region_T (fun z => ∃ x : Later w0, z = x.val) [0, 1, 2, 3, 4, 5, 6, 7, 8, 9, 10] 11 1 rfl (by kernel_rfl) ?_
 refine wpAnyT_reads (f := 1) [0, 1, 2, 3, 4, 5, 6, 7, 8, 9] (by kernel_rfl) (by kernel_rfl) ⟨⟨w0.drew, (Below.refl _ _).drew⟩, rfl⟩ (fun _ _ _ _ h => h) ?_
 simp only [pickOps, List.getD_cons_zero, List.getD_cons_succ]
 repeat (first
  | (refine wpRead_load rfl 119 (.tmp 13) rfl (p.add (i * 9)) rfl _ HP.out ?_; simp only [Act.put, List.setIfInBounds_toArray, List.set_cons_zero, List.set_cons_succ])
  | (refine wpRead_cons (v := ?_) rfl ?_ ?_; rotate_left; (· (intro z hz; obtain ⟨y, rfl⟩ := hz; have f0 := c0 y; have f1 := c1 y; go_simp; try with_reducible rfl)); simp only [Act.put, List.setIfInBounds_toArray, List.set_cons_zero, List.set_cons_succ]))
 refine wpRead_nil ?_
 refine wpAnyT_one 10 (by kernel_rfl) (by kernel_rfl) rfl ?_
 simp only [List.getD_cons_zero, List.getD_cons_succ]
 go_wp2_with fail
 refine ⟨⟨⟨_, ((Below.refl w0.heap.size w0).drew).alloc (Nat.le_refl _) _⟩, rfl⟩, ?_⟩
 refine wpAnyT_tail [11] (by kernel_rfl) (by kernel_rfl) (by kernel_rfl) ?_
 simp only [pickOps, List.getD_cons_zero, List.getD_cons_succ]
 go_wp2_with fail
 refine noPanic_normal ?_
 go_upto_region 2 with (fail)
 have HB6 := Lib.hid (((Below.refl w0.heap.size w0).alloc (Nat.le_refl _) (.cells #[.int .i64 x.kind, .int .i64 x.at_, .int .i64 x.nx, .string (tx x.tx), .int .i64 x.lv, .int .u64 (clsW x.cl 0), .int .u64 (clsW x.cl 1), .int .u64 (clsW x.cl 2), .int .u64 (clsW x.cl 3)] 119)).drew)
 have HW := Lib.hid (show hrow (w0.alloc (.cells #[.int .i64 x.kind, .int .i64 x.at_, .int .i64 x.nx, .string (tx x.tx), .int .i64 x.lv, .int .u64 (clsW x.cl 0), .int .u64 (clsW x.cl 1), .int .u64 (clsW x.cl 2), .int .u64 (clsW x.cl 3)] 119)).drew w0.heap.size #[.int .i64 x.kind, .int .i64 x.at_, .int .i64 x.nx, .string (tx x.tx), .int .i64 x.lv, .int .u64 (clsW x.cl 0), .int .u64 (clsW x.cl 1), .int .u64 (clsW x.cl 2), .int .u64 (clsW x.cl 3)] 119 from hrow.new w0 _ _)
 have HR6 := Lib.hid (HR.out.below HB6.out)
 clear c0 c1 HP HC HR
 generalize (w0.alloc (.cells #[.int .i64 x.kind, .int .i64 x.at_, .int .i64 x.nx, .string (tx x.tx), .int .i64 x.lv, .int .u64 (clsW x.cl 0), .int .u64 (clsW x.cl 1), .int .u64 (clsW x.cl 2), .int .u64 (clsW x.cl 3)] 119)).drew = w6 at *
 obtain ⟨g5, hg5⟩ : ∃ g, w0.heap.size = g := ⟨_, rfl⟩
 rw [hg5] at HW ⊢
 have HG5 := Lib.hid hg5
 clear hg5
 have HS : Hid (PrS L B gr i d 0 0 g2 g5 #[.int .i64 x.kind, .int .i64 x.at_, .int .i64 x.nx, .string (tx x.tx), .int .i64 x.lv, .int .u64 (clsW x.cl 0), .int .u64 (clsW x.cl 1), .int .u64 (clsW x.cl 2), .int .u64 (clsW x.cl 3)] w w6) := ⟨HZ.out.below HB6.out, HW.out, HH.out.below HB6.out, (Fr.of_below (F := fun k => k = gr) HB0.out).trans (Fr.of_below (F := fun k => k = gr) HB6.out) (fun _ _ h => h), by have := HGB.out; have := HBW.out; have := HG5.out; have := HB0.out.size; omega, by have := HG2.out; omega, HBW.out⟩
 clear HZ HB6 HB0 HW HR6 HH HG5
 have r3 : w6.cell? ⟨gr, 3, none⟩ = some (.int .i64 0) := by obtain ⟨ao, cap, h1, _, _⟩ := HS.out.q.row; exact h1.cell 3
 have k0 : w6.cell? ⟨g5, 0, none⟩ = some (.int .i64 x.kind) := HS.out.x.cell 0
 go_upto_region 4 with (fail)
 clear r3
 have HZ1 : Hid (pt0C.all (·.oneCell') = true) := by unfold Hid pt0C; simp [Value.oneCell']
 by_cases hk2 : x.kind = 2
 ·have q2 : ((x.kind : Int) == 2) = true := by simp; omega
  have HLT : Hid (i + 1 < L.length) := by have := HWs.out.en i HI.out; rw [HX.out] at this; have := HI.out; unfold Hid; omega
  have hre := HPR.out
  rw [if_pos hk2] at hre
  have HRE : Hid (r = .ok (.mk 5 [] [] (max x.lv 0) x.at_ x.tx []) (i + 1)) := (Option.some.inj hre).symm
  clear hk2 hre
  have c1 := HS.out.cells.1; have f1 := HS.out.cells.2.2.1
  go_upto_region 6 with (fail)
  have HS7 := Lib.hid (HS.out.set (i' := i + 1) (d' := d) (e' := 0) (a' := 0) 1 (.int .i64 ((i : Int) + 1)) (fun y => by simp; try omega))
  generalize w6.setCell ⟨gr, 1, none⟩ (.int .i64 ((i : Int) + 1)) = w7 at HS7 ⊢
  clear HS c1 f1 k0
  have k1 : w7.cell? ⟨g5, 1, none⟩ = some (.int .i64 x.at_) := HS7.out.x.cell 1
  have k3 : w7.cell? ⟨g5, 3, none⟩ = some (.string (tx x.tx)) := HS7.out.x.cell 3
  have k4 : w7.cell? ⟨g5, 4, none⟩ = some (.int .i64 x.lv) := HS7.out.x.cell 4
  have k5 : w7.cell? ⟨g5, 5, none⟩ = some (.int .u64 (clsW x.cl 0)) := HS7.out.x.cell 5
  have k6 : w7.cell? ⟨g5, 6, none⟩ = some (.int .u64 (clsW x.cl 1)) := HS7.out.x.cell 6
  have k7 : w7.cell? ⟨g5, 7, none⟩ = some (.int .u64 (clsW x.cl 2)) := HS7.out.x.cell 7
  have k8 : w7.cell? ⟨g5, 8, none⟩ = some (.int .u64 (clsW x.cl 3)) := HS7.out.x.cell 8
  have HPV : Hid (PvW w7 (fun k => B ≤ k ∧ k ≠ g2) (.mk 5 [] [] (max x.lv 0) x.at_ x.tx []) #[.int .i64 5, .int .u64 0, .int .u64 0, .int .u64 0, .int .u64 0, .string ⟨#[]⟩, .int .i64 0, .int .i64 (max x.lv 0), .slice none 0 0, .int .i64 x.at_, .string (tx x.tx), .slice none 0 0]) := pv_leaf w7 _ 5 [] [] (max x.lv 0) x.at_ x.tx
  have HONE : Hid ((#[.int .i64 5, .int .u64 0, .int .u64 0, .int .u64 0, .int .u64 0, .string ⟨#[]⟩, .int .i64 0, .int .i64 (max x.lv 0), .slice none 0 0, .int .i64 x.at_, .string (tx x.tx), .slice none 0 0] : Array Value).all (·.oneCell') = true) := by unfold Hid; simp [Value.oneCell']
  go_wp2_with (refine store_partQ rfl (.tmp 2) (.tmp 41) rfl g2 #[.int .i64 5, .int .u64 0, .int .u64 0, .int .u64 0, .int .u64 0, .string ⟨#[]⟩, .int .i64 0, .int .i64 (max x.lv 0), .slice none 0 0, .int .i64 x.at_, .string (tx x.tx), .slice none 0 0] pt0C rfl rfl HS7.out.z rfl rfl HONE.out ?_)
  refine bodyPost_ret (results_partQ rfl _ _ g2 _ _ rfl HS7.out.z rfl) rfl ?_
  exact HS7.out.fin HPV.out (by omega) HLT.out (by rw [sz_leaf]; omega) (by rw [HRE.out]; exact ⟨rfl, rfl, rfl, rfl⟩)
 have q2 : ((x.kind : Int) == 2) = false := by simp; omega
 by_cases hk3 : x.kind = 3
 ·have q3 : ((x.kind : Int) == 3) = true := by simp; omega
  have HLT : Hid (i + 1 < L.length) := by have := HWs.out.en i HI.out; rw [HX.out] at this; have := HI.out; unfold Hid; omega
  have hre := HPR.out
  rw [if_neg hk2, if_pos hk3] at hre
  have HRE : Hid (r = .ok (.mk 4 [] x.tx 0 x.at_ [] []) (i + 1)) := (Option.some.inj hre).symm
  clear hk2 hk3 hre
  have c1 := HS.out.cells.1; have f1 := HS.out.cells.2.2.1
  go_upto_region 9 with (fail)
  have HS7 := Lib.hid (HS.out.set (i' := i + 1) (d' := d) (e' := 0) (a' := 0) 1 (.int .i64 ((i : Int) + 1)) (fun y => by simp; try omega))
  generalize w6.setCell ⟨gr, 1, none⟩ (.int .i64 ((i : Int) + 1)) = w7 at HS7 ⊢
  clear HS c1 f1 k0
  have k1 : w7.cell? ⟨g5, 1, none⟩ = some (.int .i64 x.at_) := HS7.out.x.cell 1
  have k3 : w7.cell? ⟨g5, 3, none⟩ = some (.string (tx x.tx)) := HS7.out.x.cell 3
  have k4 : w7.cell? ⟨g5, 4, none⟩ = some (.int .i64 x.lv) := HS7.out.x.cell 4
  have k5 : w7.cell? ⟨g5, 5, none⟩ = some (.int .u64 (clsW x.cl 0)) := HS7.out.x.cell 5
  have k6 : w7.cell? ⟨g5, 6, none⟩ = some (.int .u64 (clsW x.cl 1)) := HS7.out.x.cell 6
  have k7 : w7.cell? ⟨g5, 7, none⟩ = some (.int .u64 (clsW x.cl 2)) := HS7.out.x.cell 7
  have k8 : w7.cell? ⟨g5, 8, none⟩ = some (.int .u64 (clsW x.cl 3)) := HS7.out.x.cell 8
  have HPV : Hid (PvW w7 (fun k => B ≤ k ∧ k ≠ g2) (.mk 4 [] x.tx 0 x.at_ [] []) #[.int .i64 4, .int .u64 0, .int .u64 0, .int .u64 0, .int .u64 0, .string (tx x.tx), .int .i64 0, .int .i64 0, .slice none 0 0, .int .i64 x.at_, .string ⟨#[]⟩, .slice none 0 0]) := pv_leaf w7 _ 4 [] x.tx 0 x.at_ []
  have HONE : Hid ((#[.int .i64 4, .int .u64 0, .int .u64 0, .int .u64 0, .int .u64 0, .string (tx x.tx), .int .i64 0, .int .i64 0, .slice none 0 0, .int .i64 x.at_, .string ⟨#[]⟩, .slice none 0 0] : Array Value).all (·.oneCell') = true) := by unfold Hid; simp [Value.oneCell']
  go_wp2_with (refine store_partQ rfl (.tmp 2) (.tmp 58) rfl g2 #[.int .i64 4, .int .u64 0, .int .u64 0, .int .u64 0, .int .u64 0, .string (tx x.tx), .int .i64 0, .int .i64 0, .slice none 0 0, .int .i64 x.at_, .string ⟨#[]⟩, .slice none 0 0] pt0C rfl rfl HS7.out.z rfl rfl HONE.out ?_)
  refine bodyPost_ret (results_partQ rfl _ _ g2 _ _ rfl HS7.out.z rfl) rfl ?_
  exact HS7.out.fin HPV.out (by omega) HLT.out (by rw [sz_leaf]; omega) (by rw [HRE.out]; exact ⟨rfl, rfl, rfl, rfl⟩)
 have q3 : ((x.kind : Int) == 3) = false := by simp; omega
 by_cases hk4 : x.kind = 4
 ·have q4 : ((x.kind : Int) == 4) = true := by simp; omega
  have HLT : Hid (i + 1 < L.length) := by have := HWs.out.en i HI.out; rw [HX.out] at this; have := HI.out; unfold Hid; omega
  have hre := HPR.out
  rw [if_neg hk2, if_neg hk3, if_pos hk4] at hre
  have HRE : Hid (r = .ok (.mk 3 x.cl [] 0 x.at_ [] []) (i + 1)) := (Option.some.inj hre).symm
  clear hk2 hk3 hk4 hre
  have c1 := HS.out.cells.1; have f1 := HS.out.cells.2.2.1
  go_upto_region 12 with (fail)
  have HS7 := Lib.hid (HS.out.set (i' := i + 1) (d' := d) (e' := 0) (a' := 0) 1 (.int .i64 ((i : Int) + 1)) (fun y => by simp; try omega))
  generalize w6.setCell ⟨gr, 1, none⟩ (.int .i64 ((i : Int) + 1)) = w7 at HS7 ⊢
  clear HS c1 f1 k0
  have k1 : w7.cell? ⟨g5, 1, none⟩ = some (.int .i64 x.at_) := HS7.out.x.cell 1
  have k3 : w7.cell? ⟨g5, 3, none⟩ = some (.string (tx x.tx)) := HS7.out.x.cell 3
  have k4 : w7.cell? ⟨g5, 4, none⟩ = some (.int .i64 x.lv) := HS7.out.x.cell 4
  have k5 : w7.cell? ⟨g5, 5, none⟩ = some (.int .u64 (clsW x.cl 0)) := HS7.out.x.cell 5
  have k6 : w7.cell? ⟨g5, 6, none⟩ = some (.int .u64 (clsW x.cl 1)) := HS7.out.x.cell 6
  have k7 : w7.cell? ⟨g5, 7, none⟩ = some (.int .u64 (clsW x.cl 2)) := HS7.out.x.cell 7
  have k8 : w7.cell? ⟨g5, 8, none⟩ = some (.int .u64 (clsW x.cl 3)) := HS7.out.x.cell 8
  have HPV : Hid (PvW w7 (fun k => B ≤ k ∧ k ≠ g2) (.mk 3 x.cl [] 0 x.at_ [] []) #[.int .i64 3, .int .u64 (clsW x.cl 0), .int .u64 (clsW x.cl 1), .int .u64 (clsW x.cl 2), .int .u64 (clsW x.cl 3), .string ⟨#[]⟩, .int .i64 0, .int .i64 0, .slice none 0 0, .int .i64 x.at_, .string ⟨#[]⟩, .slice none 0 0]) := pv_leaf w7 _ 3 x.cl [] 0 x.at_ []
  have HONE : Hid ((#[.int .i64 3, .int .u64 (clsW x.cl 0), .int .u64 (clsW x.cl 1), .int .u64 (clsW x.cl 2), .int .u64 (clsW x.cl 3), .string ⟨#[]⟩, .int .i64 0, .int .i64 0, .slice none 0 0, .int .i64 x.at_, .string ⟨#[]⟩, .slice none 0 0] : Array Value).all (·.oneCell') = true) := by unfold Hid; simp [Value.oneCell']
  go_wp2_with (refine store_partQ rfl (.tmp 2) (.tmp 75) rfl g2 #[.int .i64 3, .int .u64 (clsW x.cl 0), .int .u64 (clsW x.cl 1), .int .u64 (clsW x.cl 2), .int .u64 (clsW x.cl 3), .string ⟨#[]⟩, .int .i64 0, .int .i64 0, .slice none 0 0, .int .i64 x.at_, .string ⟨#[]⟩, .slice none 0 0] pt0C rfl rfl HS7.out.z rfl rfl HONE.out ?_)
  refine bodyPost_ret (results_partQ rfl _ _ g2 _ _ rfl HS7.out.z rfl) rfl ?_
  exact HS7.out.fin HPV.out (by omega) HLT.out (by rw [sz_leaf]; omega) (by rw [HRE.out]; exact ⟨rfl, rfl, rfl, rfl⟩)
 have q4 : ((x.kind : Int) == 4) = false := by simp; omega
 have hre := HPR.out
 rw [if_neg hk2, if_neg hk3, if_neg hk4] at hre
 have HRE0 := Lib.hid hre
 clear hk2 hk3 hk4 hre HPR
 obtain ⟨b1, hb1⟩ : ∃ b, hereW L (i) [46] = b := ⟨_, rfl⟩
 have G1 := Lib.hid (qhere_any L B gr (i) d 0 0 w6 HS.out.q HI.out [46])
 rw [hb1] at G1
 have HBB1 := Lib.hid hb1
 unfold ptr at G1
 clear hb1
 go_wp2_with fail
 refine G1.out.mono ?_
 rintro rr v1 ⟨rfl, hb⟩
 have HS1 := Lib.hid (HS.out.below hb)
 clear hb G1 HS k0
 cases b1 with
 | true =>
  have HLT : Hid (i + 1 < L.length) := HWs.out.after HI.out HBB1.out
  have hre := HRE0.out
  rw [if_pos HBB1.out] at hre
  have HRE : Hid (r = .ok (.mk 2 [] [] 0 x.at_ [] []) (i + 1)) := (Option.some.inj hre).symm
  clear hre
  have c1 := HS1.out.cells.1; have f1 := HS1.out.cells.2.2.1
  go_upto_region 15 with (fail)
  have HS7 := Lib.hid (HS1.out.set (i' := i + 1) (d' := d) (e' := 0) (a' := 0) 1 (.int .i64 ((i : Int) + 1)) (fun y => by simp; try omega))
  generalize v1.setCell ⟨gr, 1, none⟩ (.int .i64 ((i : Int) + 1)) = w7 at HS7 ⊢
  clear HS1 c1 f1
  have k1 : w7.cell? ⟨g5, 1, none⟩ = some (.int .i64 x.at_) := HS7.out.x.cell 1
  have k3 : w7.cell? ⟨g5, 3, none⟩ = some (.string (tx x.tx)) := HS7.out.x.cell 3
  have k4 : w7.cell? ⟨g5, 4, none⟩ = some (.int .i64 x.lv) := HS7.out.x.cell 4
  have k5 : w7.cell? ⟨g5, 5, none⟩ = some (.int .u64 (clsW x.cl 0)) := HS7.out.x.cell 5
  have k6 : w7.cell? ⟨g5, 6, none⟩ = some (.int .u64 (clsW x.cl 1)) := HS7.out.x.cell 6
  have k7 : w7.cell? ⟨g5, 7, none⟩ = some (.int .u64 (clsW x.cl 2)) := HS7.out.x.cell 7
  have k8 : w7.cell? ⟨g5, 8, none⟩ = some (.int .u64 (clsW x.cl 3)) := HS7.out.x.cell 8
  have HPV : Hid (PvW w7 (fun k => B ≤ k ∧ k ≠ g2) (.mk 2 [] [] 0 x.at_ [] []) #[.int .i64 2, .int .u64 0, .int .u64 0, .int .u64 0, .int .u64 0, .string ⟨#[]⟩, .int .i64 0, .int .i64 0, .slice none 0 0, .int .i64 x.at_, .string ⟨#[]⟩, .slice none 0 0]) := pv_leaf w7 _ 2 [] [] 0 x.at_ []
  have HONE : Hid ((#[.int .i64 2, .int .u64 0, .int .u64 0, .int .u64 0, .int .u64 0, .string ⟨#[]⟩, .int .i64 0, .int .i64 0, .slice none 0 0, .int .i64 x.at_, .string ⟨#[]⟩, .slice none 0 0] : Array Value).all (·.oneCell') = true) := by unfold Hid; simp [Value.oneCell']
  go_wp2_with (refine store_partQ rfl (.tmp 2) (.tmp 89) rfl g2 #[.int .i64 2, .int .u64 0, .int .u64 0, .int .u64 0, .int .u64 0, .string ⟨#[]⟩, .int .i64 0, .int .i64 0, .slice none 0 0, .int .i64 x.at_, .string ⟨#[]⟩, .slice none 0 0] pt0C rfl rfl HS7.out.z rfl rfl HONE.out ?_)
  refine bodyPost_ret (results_partQ rfl _ _ g2 _ _ rfl HS7.out.z rfl) rfl ?_
  exact HS7.out.fin HPV.out (by omega) HLT.out (by rw [sz_leaf]; omega) (by rw [HRE.out]; exact ⟨rfl, rfl, rfl, rfl⟩)
 | false =>
  have hre := HRE0.out
  rw [if_neg (by rw [HBB1.out]; simp)] at hre
  have HRE1 := Lib.hid hre
  clear hre HRE0
  obtain ⟨b2, hb2⟩ : ∃ b, hereW L (i) [40] = b := ⟨_, rfl⟩
  have G2 := Lib.hid (qhere_any L B gr (i) d 0 0 v1 HS1.out.q HI.out [40])
  rw [hb2] at G2
  have HBB2 := Lib.hid hb2
  unfold ptr at G2
  clear hb2
  go_wp2_with fail
  refine G2.out.mono ?_
  rintro rr v2 ⟨rfl, hb⟩
  have HS2 := Lib.hid (HS1.out.below hb)
  clear hb G2 HS1
  cases b2 with
  | false =>
   have hre := HRE1.out
   rw [if_neg (by rw [HBB2.out]; simp)] at hre
   have HRE : Hid (r = .err 7 x.at_) := (Option.some.inj hre).symm
   have HFL := Lib.hid (qfail_any L B gr i d 0 0 v2 HS2.out.q HI.out 7)
   unfold ptr at HFL
   rw [HX.out] at HFL
   clear hre HRE1
   go_wp2_with fail
   refine HFL.out.mono ?_
   rintro rr v3 ⟨rfl, h1, h2⟩
   simp only [if_true] at h1
   have HS3 := Lib.hid (HS2.out.call h2 h1)
   clear h1 h2 HFL HS2
   go_wp2_with (refine store_partQ rfl (.tmp 2) (.tmp 96) rfl g2 pt0C pt0C rfl rfl HS3.out.z rfl rfl HZ1.out ?_)
   refine bodyPost_ret (results_partQ rfl _ _ g2 _ _ rfl HS3.out.z rfl) rfl ?_
   exact HS3.out.fin (p := .mk 0 [] [] 0 0 [] []) (pv_leaf _ _ 0 [] [] 0 0 []) (Nat.le_refl _) HI.out (by rw [sz_leaf]; omega) (by rw [HRE.out]; exact ⟨rfl, rfl, by decide⟩)
  | true =>
   have hre := HRE1.out
   rw [if_pos HBB2.out] at hre
   by_cases h5 : 500 ≤ d
   ·rw [if_pos h5] at hre
    have HRE : Hid (r = .err 3 x.at_) := (Option.some.inj hre).symm
    have hdI : (500 : Int) ≤ d := by omega
    have HFL := Lib.hid (qfail_any L B gr i d 0 0 v2 HS2.out.q HI.out 3)
    unfold ptr at HFL
    rw [HX.out] at HFL
    have c2 := HS2.out.cells.2.1
    clear hre HRE1 h5
    go_wp2_with fail
    refine HFL.out.mono ?_
    rintro rr v3 ⟨rfl, h1, h2⟩
    simp only [if_true] at h1
    have HS3 := Lib.hid (HS2.out.call h2 h1)
    clear h1 h2 HFL HS2 c2
    go_wp2_with (refine store_partQ rfl (.tmp 2) (.tmp 105) rfl g2 pt0C pt0C rfl rfl HS3.out.z rfl rfl HZ1.out ?_)
    refine bodyPost_ret (results_partQ rfl _ _ g2 _ _ rfl HS3.out.z rfl) rfl ?_
    exact HS3.out.fin (p := .mk 0 [] [] 0 0 [] []) (pv_leaf _ _ 0 [] [] 0 0 []) (Nat.le_refl _) HI.out (by rw [sz_leaf]; omega) (by rw [HRE.out]; exact ⟨rfl, rfl, by decide⟩)
   ·rw [if_neg h5] at hre
    obtain ⟨D, hD⟩ : ∃ D : Int, (d : Int) = D := ⟨_, rfl⟩
    have hdB : decide ((500 : Int) ≤ D) = false := by simp; omega
    have HDD := Lib.hid hD
    have HRE2 := Lib.hid hre
    have HLT : Hid (i + 1 < L.length) := HWs.out.after HI.out HBB2.out
    clear hre HRE1 h5 hD
    have HDB := Lib.hid (of_decide_eq_false hdB)
    have c1 := HS2.out.cells.1; have f1 := HS2.out.cells.2.2.1; have c2 := HS2.out.cells.2.1
    rw [HDD.out] at c2
    go_upto_region 23 with (fail)
    have HS3 := Lib.hid (HS2.out.set (i' := i + 1) (d' := d) (e' := 0) (a' := 0) 1 (.int .i64 ((i : Int) + 1)) (fun y => by simp))
    generalize v2.setCell ⟨gr, 1, none⟩ (.int .i64 ((i : Int) + 1)) = v3 at HS3 ⊢
    clear HS2 c1 f1 c2 hdB
    obtain ⟨b3, hb3⟩ : ∃ b, hereW L (i + 1) [41] = b := ⟨_, rfl⟩
    have G3 := Lib.hid (qhere_any L B gr (i + 1) d 0 0 v3 HS3.out.q HLT.out [41])
    rw [hb3] at G3
    have HBB3 := Lib.hid hb3
    unfold ptr at G3
    clear hb3
    go_wp2_with fail
    refine G3.out.mono ?_
    rintro rr v4 ⟨rfl, hb⟩
    have HS4 := Lib.hid (HS3.out.below hb)
    clear hb G3 HS3
    cases b3 with
    | true =>
     have HLT2 : Hid (i + 1 + 1 < L.length) := HWs.out.after HLT.out HBB3.out
     have hre := HRE2.out
     rw [if_pos HBB3.out] at hre
     have HRE : Hid (r = .ok (.mk 1 [] [] 0 x.at_ [] []) (i + 2)) := (Option.some.inj hre).symm
     clear hre HRE2
     have c1 := HS4.out.cells.1; have f1 := HS4.out.cells.2.2.1
     go_upto_region 25 with (fail)
     have HS7 := Lib.hid (HS4.out.set (i' := i + 2) (d' := d) (e' := 0) (a' := 0) 1 (.int .i64 ((i : Int) + 1 + 1)) (fun y => by simp; try omega))
     generalize v4.setCell ⟨gr, 1, none⟩ (.int .i64 ((i : Int) + 1 + 1)) = w7 at HS7 ⊢
     clear HS4 c1 f1
     have k1 : w7.cell? ⟨g5, 1, none⟩ = some (.int .i64 x.at_) := HS7.out.x.cell 1
     have k3 : w7.cell? ⟨g5, 3, none⟩ = some (.string (tx x.tx)) := HS7.out.x.cell 3
     have k4 : w7.cell? ⟨g5, 4, none⟩ = some (.int .i64 x.lv) := HS7.out.x.cell 4
     have k5 : w7.cell? ⟨g5, 5, none⟩ = some (.int .u64 (clsW x.cl 0)) := HS7.out.x.cell 5
     have k6 : w7.cell? ⟨g5, 6, none⟩ = some (.int .u64 (clsW x.cl 1)) := HS7.out.x.cell 6
     have k7 : w7.cell? ⟨g5, 7, none⟩ = some (.int .u64 (clsW x.cl 2)) := HS7.out.x.cell 7
     have k8 : w7.cell? ⟨g5, 8, none⟩ = some (.int .u64 (clsW x.cl 3)) := HS7.out.x.cell 8
     have HPV : Hid (PvW w7 (fun k => B ≤ k ∧ k ≠ g2) (.mk 1 [] [] 0 x.at_ [] []) #[.int .i64 1, .int .u64 0, .int .u64 0, .int .u64 0, .int .u64 0, .string ⟨#[]⟩, .int .i64 0, .int .i64 0, .slice none 0 0, .int .i64 x.at_, .string ⟨#[]⟩, .slice none 0 0]) := pv_leaf w7 _ 1 [] [] 0 x.at_ []
     have HONE : Hid ((#[.int .i64 1, .int .u64 0, .int .u64 0, .int .u64 0, .int .u64 0, .string ⟨#[]⟩, .int .i64 0, .int .i64 0, .slice none 0 0, .int .i64 x.at_, .string ⟨#[]⟩, .slice none 0 0] : Array Value).all (·.oneCell') = true) := by unfold Hid; simp [Value.oneCell']
     go_wp2_with (refine store_partQ rfl (.tmp 2) (.tmp 125) rfl g2 #[.int .i64 1, .int .u64 0, .int .u64 0, .int .u64 0, .int .u64 0, .string ⟨#[]⟩, .int .i64 0, .int .i64 0, .slice none 0 0, .int .i64 x.at_, .string ⟨#[]⟩, .slice none 0 0] pt0C rfl rfl HS7.out.z rfl rfl HONE.out ?_)
     refine bodyPost_ret (results_partQ rfl _ _ g2 _ _ rfl HS7.out.z rfl) rfl ?_
     exact HS7.out.fin HPV.out (by omega) HLT2.out (by rw [sz_leaf]; omega) (by rw [HRE.out]; exact ⟨rfl, rfl, rfl, rfl⟩)
    | false =>
     have hre := HRE2.out
     rw [if_neg (by rw [HBB3.out]; simp)] at hre
     have c2 := HS4.out.cells.2.1; have f2 := HS4.out.cells.2.2.2
     rw [HDD.out] at c2
     have hwr : wrap64 (D + 1) = D + 1 := IntWalk.wrap64_in _ (by have := HDD.out; have h500 := HDB.out; omega)
     go_upto_region 27 with (fail)
     have HS5 := Lib.hid (HS4.out.set (i' := i + 1) (d' := ((d + 1 : Nat) : Int)) (e' := 0) (a' := 0) 2 (.int .i64 (D + 1)) (fun y => by simp [← HDD.out]))
     generalize v4.setCell ⟨gr, 2, none⟩ (.int .i64 (D + 1)) = v5 at HS5 ⊢
     clear HS4 c2 f2 hwr
     cases hq : prs L f .alt [] (i + 1) (d + 1) with
     | none => rw [hq] at hre; cases hre
     | some r2 =>
      rw [hq] at hre
      have hg5 : gr < v5.heap.size := by have := HS5.out.lt5; have := HS5.out.x.lt; omega
      have HAc := Lib.hid (HA.out v5.heap.size (i + 1) (d + 1) v5 r2 hq (HS5.out.q.base hg5 (Nat.le_refl _)) HLT.out (by have := HDD.out; have h500 := HDB.out; omega))
      have HRE3 := Lib.hid hre
      have HG5 := Lib.hid hg5
      unfold ptr PqP at HAc
      clear hq hre HRE2 hg5
      go_wp2_with fail
      refine HAc.out.mono ?_
      rintro rr v6 ⟨q, cs, i6, e6, a6, rfl, hpv, hrq, hfr, hi1, hi2, hsz, hm⟩
      obtain ⟨kq, cl, tq, lv, aq, nm, ks⟩ := q
      have hpv0 := hpv
      unfold PvW at hpv
      obtain ⟨ko, kc, vs, rfl, -⟩ := hpv
      unfold ptC at hpv0 ⊢
      have HS6 := Lib.hid (HS5.out.call hfr (hrq.base HS5.out.q.lt (Nat.le_trans HS5.out.q.le hfr.size)))
      have HPV6 := Lib.hid hpv0; have HM := Lib.hid hm; have HI1 := Lib.hid hi1; have HI2 := Lib.hid hi2; have HSZ := Lib.hid hsz
      have HONE : Hid ((#[.int .i64 kq, .int .u64 (clsW cl 0), .int .u64 (clsW cl 1), .int .u64 (clsW cl 2), .int .u64 (clsW cl 3), .string (tx tq), .int .i64 0, .int .i64 lv, .slice none 0 0, .int .i64 aq, .string (tx nm), .slice ko ks.length kc] : Array Value).all (·.oneCell') = true) := by unfold Hid; simp [Value.oneCell']
      have HSV := Lib.hid hfr.size
      have HG2V : Hid (g2 < v5.heap.size) := HS5.out.z.lt
      have HB5V := Lib.hid HS5.out.q.le
      clear hpv0 hrq hfr hi1 hi2 hsz hm HS5 HAc
      go_upto_region 28 with (fail)
      have hbl := (Below.refl v6.heap.size v6).alloc (Nat.le_refl _) (.cells #[.int .i64 kq, .int .u64 (clsW cl 0), .int .u64 (clsW cl 1), .int .u64 (clsW cl 2), .int .u64 (clsW cl 3), .string (tx tq), .int .i64 0, .int .i64 lv, .slice none 0 0, .int .i64 aq, .string (tx nm), .slice ko ks.length kc] 122)
      have HS7 := Lib.hid (HS6.out.below hbl); have HPV7 := Lib.hid (HPV6.out.below hbl)
      have HR4 := Lib.hid (hrow.new v6 #[.int .i64 kq, .int .u64 (clsW cl 0), .int .u64 (clsW cl 1), .int .u64 (clsW cl 2), .int .u64 (clsW cl 3), .string (tx tq), .int .i64 0, .int .i64 lv, .slice none 0 0, .int .i64 aq, .string (tx nm), .slice ko ks.length kc] 122)
      have HG4 : Hid (gr < v6.heap.size) := by have := HS6.out.lt5; have := HS6.out.x.lt; unfold Hid; omega
      clear hbl HS6 HPV6
      generalize v6.alloc (.cells #[.int .i64 kq, .int .u64 (clsW cl 0), .int .u64 (clsW cl 1), .int .u64 (clsW cl 2), .int .u64 (clsW cl 3), .string (tx tq), .int .i64 0, .int .i64 lv, .slice none 0 0, .int .i64 aq, .string (tx nm), .slice ko ks.length kc] 122) = v7 at *
      obtain ⟨g4, hg4⟩ : ∃ g, v6.heap.size = g := ⟨_, rfl⟩
      rw [hg4] at HR4 HG4 ⊢
      clear hg4
      have c2 : v7.cell? ⟨gr, 2, none⟩ = some (.int .i64 (D + 1)) := by rw [HS7.out.cells.2.1]; congr 2; have := HDD.out; omega
      have f2 := HS7.out.cells.2.2.2
      have hwr : wrap64 D = D := IntWalk.wrap64_in _ (by have := HDD.out; have h500 := HDB.out; omega)
      go_upto_region 29 with (fail)
      have HS8 := Lib.hid (HS7.out.set (i' := i6) (d' := d) (e' := e6) (a' := a6) 2 (.int .i64 D) (fun y => by simp [← HDD.out]))
      have hf8 := Fr.setCell v7 ⟨gr, 2, none⟩ (.int .i64 D)
      have HR8 := Lib.hid (HR4.out.fr hf8 (fun e => by have := HG4.out; simp at e; omega))
      have HPV8 := Lib.hid (PvW.fr (H := fun k => v5.heap.size ≤ k) hf8 (fun k hk e => by have := HG5.out; simp at e; omega) (fun k hk => hk) _ _ HPV7.out)
      clear hf8 HS7 HR4 HPV7 c2 f2 hwr
      generalize v7.setCell ⟨gr, 2, none⟩ (.int .i64 D) = v8 at *
      have HWA := Lib.hid (qwant_any L B gr i6 d e6 a6 v8 HS8.out.q HI2.out HLL.out [41])
      unfold ptr QwP at HWA
      go_wp2_with fail
      refine HWA.out.mono ?_
      rintro rr v9 ⟨rfl, ⟨i9, e9, a9, hq9, w1, w2, w3⟩, hf9⟩
      have HS9 := Lib.hid (HS8.out.call hf9 hq9)
      have HR9 := Lib.hid (HR8.out.fr hf9 (fun e => by have := HG4.out; omega))
      have HPV9 := Lib.hid (PvW.fr (H := fun k => B ≤ k ∧ k ≠ g2) hf9 (fun k hk e => by have := HG5.out; omega) (fun k hk => by have := HB5V.out; have := HG2V.out; omega) _ _ HPV8.out)
      have HFIN : Hid (i ≤ i9 ∧ i9 < L.length ∧ (Pt.mk kq cl tq lv aq nm ks).sz ≤ 2 * (i9 - i) + 1 ∧ (match (generalizing := false) r with | .ok q j => Pt.mk kq cl tq lv aq nm ks = q ∧ i9 = j ∧ e9 = 0 ∧ a9 = 0 | .err x y => e9 = x ∧ a9 = y ∧ x ≠ 0)) := by
       have hm := HM.out; have s1 := HI1.out; have s2 := HI2.out; have s3 := HSZ.out; have hre := HRE3.out
       cases r2 with
       | ok p j =>
        obtain ⟨rfl, rfl, rfl, rfl⟩ := hm
        cases hb : hereW L i6 [41] with
        | true =>
         obtain ⟨rfl, rfl, rfl⟩ := w1 rfl hb
         have hre2 : some (Rs.ok (Pt.mk kq cl tq lv aq nm ks) (i6 + 1)) = some r := by rw [← hre]; simp [hb]
         cases hre2
         exact ⟨by omega, HWs.out.after s2 hb, by omega, rfl, rfl, rfl, rfl⟩
        | false =>
         obtain ⟨rfl, rfl, rfl⟩ := w2 rfl hb
         have hre2 : some (Rs.err 7 (wdAt L i9).at_) = some r := by rw [← hre]; simp [hb]
         cases hre2
         exact ⟨by omega, s2, by omega, rfl, rfl, by decide⟩
       | err x y =>
        obtain ⟨rfl, rfl, hx⟩ := hm
        obtain ⟨rfl, rfl, rfl⟩ := w3 hx
        have hre2 : some (Rs.err e9 a9) = some r := hre
        cases hre2
        exact ⟨by omega, s2, by omega, rfl, rfl, hx⟩
      clear w1 w2 w3 hq9 hf9 HS8 HR8 HPV8 HWA HM HI1 HI2 HSZ HRE3
      go_wp2_with (first | (refine load_partQ rfl (.tmp 4) rfl g4 rfl #[.int .i64 kq, .int .u64 (clsW cl 0), .int .u64 (clsW cl 1), .int .u64 (clsW cl 2), .int .u64 (clsW cl 3), .string (tx tq), .int .i64 0, .int .i64 lv, .slice none 0 0, .int .i64 aq, .string (tx nm), .slice ko ks.length kc] HR9.out rfl ?_) | (refine store_partQ rfl (.tmp 2) (.tmp 144) rfl g2 #[.int .i64 kq, .int .u64 (clsW cl 0), .int .u64 (clsW cl 1), .int .u64 (clsW cl 2), .int .u64 (clsW cl 3), .string (tx tq), .int .i64 0, .int .i64 lv, .slice none 0 0, .int .i64 aq, .string (tx nm), .slice ko ks.length kc] pt0C rfl rfl HS9.out.z rfl rfl HONE.out ?_))
      refine bodyPost_ret (results_partQ rfl _ _ g2 _ _ rfl HS9.out.z rfl) rfl ?_
      obtain ⟨a1, a2, a3, a4⟩ := HFIN.out
      exact HS9.out.fin HPV9.out a1 a2 a3 a4

end Go.Proofs.YthfefbmkgebmkaaGreatDoor
namespace Go.Proofs.YthfefbmkgebmkaaGreatDoor
open Go.RowKit
set_option maxRecDepth 100000
set_option maxHeartbeats 8000000

theorem elPartQ : Elem Tryz.prog 120 122 12 144 (.agg #[.int .i64 0, .int .u64 0, .int .u64 0, .int .u64 0, .int .u64 0, .string ⟨#[]⟩, .int .i64 0, .int .i64 0, .slice none 0 0, .int .i64 0, .string ⟨#[]⟩, .slice none 0 0]) := ⟨by kernel_rfl, by kernel_rfl, rfl, by decide⟩
/-- append(l, p), p of twelve cells. -/
theorem app_partQ {ops : Array Oper} {rest : List Oper} {o : Oper} {a : Act} {w : World} {Q : Exit → Act → World → Prop} (hgd : o.guard = none) (s x : Operand) (ho : o.op = .call { callee := .builtin .append, args := #[s, x], argTypes := #[120, 120] })
  (B : Nat) (v : Value) (n : Nat) (xs : List Value) (hs : a.eval s = v) (hown : w.ownsRow B 122 12 v n xs) (cs : Array Value) (hcs : cs.size = 12) (h1 : ∀ u ∈ cs.toList, u.oneCell' = true) (hx : a.eval x = .slice (some ⟨w.heap.size, 0, none⟩) 1 1) (hn : n ≤ 200000) (hB : B ≤ w.heap.size)
  (h : ∀ v' w', w'.ownsRow B 122 12 v' (n + 1) (xs ++ cs.toList) → (w.alloc (.cells cs 122)).grownBy w' v.ownBlock → (∀ k, v'.ownBlock = some k → v.ownBlock = some k ∨ w.heap.size < k) → wpList Tryz.prog ops Q rest (a.put o.dst v') w') :
  wpList Tryz.prog ops Q (o :: rest) a (w.alloc (.cells cs 122)) := by
 refine wpList_append_tag _ hgd s x 120 122 ho elPartQ B v n xs hs (hown.alloc _) ⟨w.heap.size, 0, none⟩ 1 1 cs.toList hx (Sv.lit w 122 cs 1 12 (by unfold maxLen; omega) (by rw [hcs])) h1 (by omega) (by unfold maxLen; omega) (by rw [World.size_alloc]; omega) ?_
 intro v' w' h1 h2 h3
 exact h v' w' h1 h2 (fun k hk => (h3 k hk).imp id (fun h => by rw [World.size_alloc] at h; omega))
/-- Where no item begins there is none, whatever the fuel. -/
theorem item_no {L : List Wd} {i f d : Nat} {acc : List Pt} {r : Rs Pt} (hb : bgW L i = false) (e : prs L f .item acc i d = some r) : r = .err 7 (wdAt L i).at_ := by
 have h1 := prs_more e 2
 rw [bg_no hb f d acc] at h1
 exact (Option.some.inj h1).symm
/-- The parser's row of items, unrolled: what the document's loop keeps. -/
inductive SqS (L : List Wd) (f0 i0 d : Nat) (r : Rs Pt) : List Pt → Nat → Nat → Nat → Prop
 | start : prs L (f0 + 1) .seq [] i0 d = some r → SqS L f0 i0 d r [] i0 0 0
 | more (acc : List Pt) (i f : Nat) : acc ≠ [] → f ≤ f0 → prs L f .seqM acc i d = some r → SqS L f0 i0 d r acc i 0 0
 | stop (acc : List Pt) (i e a : Nat) : acc ≠ [] → e ≠ 0 → r = .err e a → SqS L f0 i0 d r acc i e a
/-- A round of it: an item is asked for with enough fuel. -/
theorem SqS.ask {L : List Wd} (hW : WsOk L) {f0 i0 d : Nat} {r : Rs Pt} {acc : List Pt} {i e a : Nat} (h : SqS L f0 i0 d r acc i e a) (hi : i < L.length) (he : e = 0) (hb : bgW L i = true) :
  a = 0 ∧ ∃ f r1, f ≤ f0 ∧ prs L f .item [] i d = some r1 ∧ (∀ q j, r1 = .ok q j → SqS L f0 i0 d r (acc ++ [q]) j 0 0) ∧ (∀ (q : Pt) (j x y : Nat), r1 = .err x y → x ≠ 0 → SqS L f0 i0 d r (acc ++ [q]) j x y) := by
 cases h with
 | start h =>
  refine ⟨rfl, f0, ?_⟩
  simp only [prs] at h
  cases hq : prs L f0 .item [] i0 d with
  | none => rw [hq] at h; cases h
  | some r1 =>
   rw [hq] at h
   refine ⟨r1, Nat.le_refl _, rfl, fun q j e1 => ?_, fun q j x y e1 hx => ?_⟩
   ·subst e1; exact .more _ _ f0 (by simp) (Nat.le_refl _) h
   ·subst e1; exact .stop _ _ _ _ (by simp) hx (Option.some.inj h).symm
 | more acc i f hne hf h =>
  cases f with
  | zero => simp [prs] at h
  | succ f =>
   refine ⟨rfl, f, ?_⟩
   simp only [prs] at h
   rw [if_pos (by rw [← bg_goes hW hi]; exact hb)] at h
   cases hq : prs L f .item [] i d with
   | none => rw [hq] at h; cases h
   | some r1 =>
    rw [hq] at h
    refine ⟨r1, by omega, rfl, fun q j e1 => ?_, fun q j x y e1 hx => ?_⟩
    ·subst e1; exact .more _ _ f (by simp) (by omega) h
    ·subst e1; exact .stop _ _ _ _ (by simp) hx (Option.some.inj h).symm
 | stop acc i e a hne he0 hr => exact absurd he he0
/-- The end of it. -/
theorem SqS.done {L : List Wd} (hW : WsOk L) {f0 i0 d : Nat} {r : Rs Pt} {acc : List Pt} {i e a : Nat} (h : SqS L f0 i0 d r acc i e a) (hi : i < L.length) (hb : e = 0 → bgW L i = false) :
  (acc = [] ∧ e = 0 ∧ a = 0 ∧ i = i0 ∧ r = .err 7 (wdAt L i).at_) ∨ (acc ≠ [] ∧ e = 0 ∧ a = 0 ∧ r = .ok (grp 6 acc) i) ∨ (acc ≠ [] ∧ e ≠ 0 ∧ r = .err e a) := by
 cases h with
 | start h =>
  simp only [prs] at h
  cases hq : prs L f0 .item [] i0 d with
  | none => rw [hq] at h; cases h
  | some r1 =>
   have := item_no (hb rfl) hq
   subst this
   rw [hq] at h
   exact .inl ⟨rfl, rfl, rfl, rfl, (Option.some.inj h).symm⟩
 | more acc i f hne hf h =>
  cases f with
  | zero => simp [prs] at h
  | succ f =>
   simp only [prs] at h
   rw [if_neg (by rw [← bg_goes hW hi, hb rfl]; simp)] at h
   exact .inr (.inl ⟨hne, rfl, rfl, (Option.some.inj h).symm⟩)
 | stop acc i e a hne he0 hr => exact .inr (.inr ⟨hne, he0, hr⟩)
end Go.Proofs.YthfefbmkgebmkaaGreatDoor
