/- Walks and plain laws: S7 Av Aw S8 S9. -/
import Derived.Test.YtnfkcdnkmcifbaaGreatDoorM13
import Derived.Test.YtnfkcdnkmcifbaaGreatDoorM14
import Derived.Test.YtnfkcdnkmcifbaaGreatDoorM03
import Derived.Test.YtnfkcdnkmcifbaaGreatDoorProg
import Derived.ChangeKeysEq
import Derived.Lib.Strings
import Derived.WalkLawsBesides
import Derived.WalkSpells
namespace Go.Proofs.YtnfkcdnkmcifbaaGreatDoor
open Go.RowKit
set_option maxRecDepth 100000
set_option maxHeartbeats 4000000

/-- What the reference tells of all words. -/
def RAllP (l : List UInt8) (w : World) (e : Ending) (w' : World) : Prop := match (wordsOf l).2 with
 | none => ∃ v, e = .returned (.tuple #[v, .int .i64 0, .int .i64 0]) ∧ Own w w' 43 9 v (wordsOf l).1.length ((wordsOf l).1.flatMap fun x => (wdD x).toList)
 | some p => e = .returned (.tuple #[.slice none 0 0, .int .i64 p, .int .i64 7]) ∧ Below w.heap.size w w'
theorem elemRw : Elem Tryz.prog 37 43 9 80 (.agg #[.int .i64 0, .int .i64 0, .int .i64 0, .string ⟨#[]⟩, .int .i64 0, .int .u64 0, .int .u64 0, .int .u64 0, .int .u64 0]) := ⟨by kernel_rfl, by kernel_rfl, by decide, by decide⟩
theorem cell_row_new' (W : World) (cs : Array Value) (t : TypeId) : ∀ (j : Nat) u, cs.toList[j]? = some u → (W.alloc (.cells cs t)).cell? ((⟨W.heap.size, 0, none⟩ : Addr).add j) = some u := cell_row_new W cs t
theorem rw_inf : (Tryz.prog.info? 43).map (fun i => (i.zero, i.size, i.bytes)) = some (some (.agg #[.int .i64 0, .int .i64 0, .int .i64 0, .string ⟨#[]⟩, .int .i64 0, .int .u64 0, .int .u64 0, .int .u64 0, .int .u64 0]), 9, 80) := by kernel_rfl
/-- One word more onto the row; a block that was laid behind the row is as it was. -/
theorem rappend_word {ops : Array Oper} {rest : List Oper} {o : Oper} {a : Act} {Q : Exit → Act → World → Prop} (hgd : o.guard = none) (s x : Operand)
 (ho : o.op = .call { callee := .builtin .append, args := #[s, x], argTypes := #[37, 37] })
 (w0 W0 W : World) (n : Nat) (xs : List Value) (v : Value) (hO : Own w0 W0 43 9 v n xs) (hbl : Below W0.heap.size W0 W) (g : Nat) (hg0 : W0.heap.size ≤ g) (ws : Array Value) (hW : hrow W g ws 43) (cs : Array Value) (hcs : cs.toList.length = 9) (h1 : ∀ u ∈ cs.toList, u.oneCell' = true) (hn : n ≤ 16385) (hs : a.eval s = v) (gg : Nat) (hgg : gg = W.heap.size) (hx : a.eval x = .slice (some ⟨gg, 0, none⟩) 1 1)
 (h : ∀ v' w1, Own w0 w1 43 9 v' (n + 1) (xs ++ cs.toList) → hrow w1 g ws 43 → wpList Tryz.prog ops Q rest (a.put o.dst v') w1) :
 wpList Tryz.prog ops Q (o :: rest) a (W.alloc (.cells cs 43)) := by
 subst hgg
 obtain ⟨i0, hi, hz0, hz1, hz2⟩ := info_parts rw_inf
 have hO2 := hO.below hbl
 refine wpList_append_own_at (W.alloc (.cells cs 43)) hgd s x 37 ho w0.heap.size 43 i0 _ 9 80 Tryz.underlying37 hi hz0 hz1 hz2 rfl (by decide) v n xs hs (hO2.1.alloc _) ⟨W.heap.size, 0, none⟩ 1 1 cs.toList hx (by rw [hcs]) (cell_row_new' W cs _) h1 (by unfold maxLen; omega) (by omega) (by have := hO2.2.size; simp; omega) ?_
 intro v' w1 hown hgrow _ _
 have hlt := hW.lt
 refine h v' w1 ⟨hown, ?_⟩ ?_
 ·exact (hO2.2.alloc hO2.2.size _).grown hgrow (by have := hO2.2.size; simp; omega) (fun k hk => (hO2.1.lt k hk).1)
 ·refine (hgrow.block g (by simp; omega) (fun e => ?_)).trans (hW.below ((Below.refl _ _).alloc (Nat.le_refl _) _))
  have := (hO.1.lt g e.symm).2
  omega
theorem rall_any (s : ByteArray) (w : World) (hs : s.size ≤ 16384) : Calls Tryz.prog 8 #[.string s] w fun e w' => RAllP s.data.toList w e w' := by
 have HS := Lib.hid hs
 have HN := Lib.hid (fun (k : Nat) x => rnext_any s k x (by omega))
 have HSk := Lib.hid (fun (k : Nat) x => rskip_any s k x (by omega))
 have hsI : ¬ (16384 : Int) < s.size := by omega
 have HBA := Lib.hid (ba_len s)
 clear hs
 go_enter Tryz.func8, Tryz.ntmps8
 go_wp2_with fail
 clear hsI
 go_loopw [5, 6] (fun v i wr => ∃ (k f : Nat) (pre : List Wd), k ≤ s.size ∧ i = .int .i64 k ∧ Hid (Own w wr 43 9 v pre.length (pre.flatMap fun x => (wdD x).toList) ∧ s.size < f + k ∧ pre.length ≤ k ∧ wordsOf s.data.toList = (pre ++ (wordsF s.data.toList f k).1, (wordsF s.data.toList f k).2))) (fun _ i _ => s.size + 1 - (intOf i).toNat)
 case atStart => exact ⟨0, s.size + 1, [], Nat.zero_le _, rfl, Own.nil w _ _, by omega, by simp, by unfold wordsOf; rw [HBA.out]; rfl⟩
 case round =>
  obtain ⟨k, f, pre, hk, rfl, HI⟩ := hrel
  have HO := Lib.hid HI.out.1
  obtain ⟨f, rfl⟩ : ∃ g, f = g + 1 := ⟨f - 1, by have := HI.out.2.1; omega⟩
  have HC := Lib.hid (HN.out k wr)
  have hkl : k ≤ s.data.toList.length := by rw [HBA.out]; exact hk
  rw [nxA_in hkl] at HC
  cases hq : nextW s.data.toList k with
  | none =>
   have HW : Hid ((wordsOf s.data.toList).2 = some (k + skp false (s.data.toList.drop k))) := by unfold Hid; rw [HI.out.2.2.2]; simp only [wordsF]; rw [hq]
   have HSk1 := Lib.hid (HSk.out k)
   rw [skA_in hkl, show ((k : Int) + (skp false (s.data.toList.drop k) : Nat)) = ((k + skp false (s.data.toList.drop k) : Nat) : Int) by omega] at HSk1
   have HB := Lib.hid HO.out.2
   rw [hq] at HC
   unfold nxV wd0 wdA at HC
   clear hq HI HSk HN
   generalize k + skp false (s.data.toList.drop k) = p at *
   go_wp2_with fail
   refine HC.out.mono ?_
   rintro e x ⟨rfl, hb⟩
   have HB1 := Lib.hid ((HB.out.trans (hb.mono HB.out.size)).alloc (HB.out.trans (hb.mono HB.out.size)).size (.cells #[.int .i64 0, .int .i64 0, .int .i64 0, .string ⟨#[]⟩, .int .i64 0, .int .u64 0, .int .u64 0, .int .u64 0, .int .u64 0] 43))
   clear hb HC HB HO
   go_wp2_with fail
   refine (HSk1.out _).mono ?_
   rintro e y ⟨rfl, hb⟩
   have HB2 := Lib.hid (HB1.out.trans (hb.mono HB1.out.size))
   go_wp2_with fail
   go_ret3
   unfold RAllP
   rw [HW.out]
   exact ⟨rfl, HB2.out⟩
  | some d =>
   obtain ⟨h1, h2, h3, h4, h5, h6, h7, h8⟩ := nextW_some hq hkl
   have HPL := Lib.hid (show pre.length ≤ 16384 by have := HI.out.2.2.1; have := HS.out; omega)
   have HBd := Lib.hid (show (pre.length + 1) * 80 ≤ 140737488355328 by have := HPL.out; omega)
   have HBd2 := Lib.hid (show pre.length + 1 ≤ maxLen by have := HPL.out; unfold maxLen; omega)
   have HPL2 := Lib.hid (show pre.length ≤ 16385 by have := HPL.out; omega)
   have HPk := Lib.hid HI.out.2.2.1
   have HFk := Lib.hid HI.out.2.1
   rw [hq] at HC
   unfold nxV wdD wdA at HC
   simp only [] at HC
   have HOne := Lib.hid (show ∀ u ∈ (#[.int .i64 d.kind, .int .i64 d.at_, .int .i64 d.nx, .string (tx d.tx), .int .i64 d.lv, .int .u64 (clsW d.cl 0), .int .u64 (clsW d.cl 1), .int .u64 (clsW d.cl 2), .int .u64 (clsW d.cl 3)] : Array Value).toList, u.oneCell' = true by simp [Value.oneCell'])
   by_cases hkd : d.kind = 1
   ·have HW1 : Hid (wordsOf s.data.toList = (pre ++ [d], none)) := by unfold Hid; rw [HI.out.2.2.2]; simp only [wordsF]; rw [hq]; simp only []; rw [if_pos hkd]
    have hXe : ((d.kind : Int) == 1) = true := by rw [hkd]; rfl
    have HCell : Hid ((pre.flatMap fun x => (wdD x).toList) ++ (#[.int .i64 d.kind, .int .i64 d.at_, .int .i64 d.nx, .string (tx d.tx), .int .i64 d.lv, .int .u64 (clsW d.cl 0), .int .u64 (clsW d.cl 1), .int .u64 (clsW d.cl 2), .int .u64 (clsW d.cl 3)] : Array Value).toList = (pre ++ [d]).flatMap fun x => (wdD x).toList) := by unfold Hid; rw [List.flatMap_append]; simp [wdD, wdA]
    clear hq HI HSk HN h1 h2 h3 h4 h5 h6 h7 h8 hkd
    generalize (d.kind : Int) = XK at *
    generalize (d.at_ : Int) = XA at *
    generalize (d.nx : Int) = XN at *
    go_wp2_with fail
    refine HC.out.mono ?_
    rintro e x ⟨rfl, hb⟩
    have HBL := Lib.hid (show Below wr.heap.size wr (x.alloc (.cells #[.int .i64 XK, .int .i64 XA, .int .i64 XN, .string (tx d.tx), .int .i64 d.lv, .int .u64 (clsW d.cl 0), .int .u64 (clsW d.cl 1), .int .u64 (clsW d.cl 2), .int .u64 (clsW d.cl 3)] 43)) from hb.alloc hb.size _)
    have HWx := Lib.hid (hrow.new x #[.int .i64 XK, .int .i64 XA, .int .i64 XN, .string (tx d.tx), .int .i64 d.lv, .int .u64 (clsW d.cl 0), .int .u64 (clsW d.cl 1), .int .u64 (clsW d.cl 2), .int .u64 (clsW d.cl 3)] 43)
    have HGG : Hid (x.heap.size + 1 = (x.alloc (.cells #[.int .i64 XK, .int .i64 XA, .int .i64 XN, .string (tx d.tx), .int .i64 d.lv, .int .u64 (clsW d.cl 0), .int .u64 (clsW d.cl 1), .int .u64 (clsW d.cl 2), .int .u64 (clsW d.cl 3)] 43)).heap.size) := by unfold Hid; simp
    have HG0 := Lib.hid hb.size
    clear hb HC
    go_wp2_with (at_builtin; refine rappend_word rfl (.tmp 23) (.tmp 25) rfl w wr _ pre.length _ _ HO.out HBL.out x.heap.size HG0.out _ HWx.out #[.int .i64 XK, .int .i64 XA, .int .i64 XN, .string (tx d.tx), .int .i64 d.lv, .int .u64 (clsW d.cl 0), .int .u64 (clsW d.cl 1), .int .u64 (clsW d.cl 2), .int .u64 (clsW d.cl 3)] rfl HOne.out HPL2.out rfl _ HGG.out rfl ?_; intro v' w8 hO8 hw8; have HO8 := Lib.hid hO8; have c0 := hrow.cell hw8 0; have c2 := hrow.cell hw8 2; clear hO8 hw8)
    go_ret3
    unfold RAllP
    rw [HW1.out]
    refine ⟨_, rfl, ?_⟩
    rw [← HCell.out, List.length_append]
    exact HO8.out
   ·have hat : d.at_ ≠ d.nx := fun e => hkd (h7.1 e.symm)
    have HW1 : Hid (wordsOf s.data.toList = ((pre ++ [d]) ++ (wordsF s.data.toList f d.nx).1, (wordsF s.data.toList f d.nx).2)) := by unfold Hid; rw [HI.out.2.2.2]; simp only [wordsF]; rw [hq]; simp only []; rw [if_neg hkd]; simp
    have hXe : ((d.kind : Int) == 1) = false := by rw [beq_eq_false_iff_ne]; omega
    have HCell : Hid ((pre.flatMap fun x => (wdD x).toList) ++ (#[.int .i64 d.kind, .int .i64 d.at_, .int .i64 d.nx, .string (tx d.tx), .int .i64 d.lv, .int .u64 (clsW d.cl 0), .int .u64 (clsW d.cl 1), .int .u64 (clsW d.cl 2), .int .u64 (clsW d.cl 3)] : Array Value).toList = (pre ++ [d]).flatMap fun x => (wdD x).toList) := by unfold Hid; rw [List.flatMap_append]; simp [wdD, wdA]
    have HNx : Hid (k < d.nx ∧ d.nx ≤ s.size) := ⟨by omega, by rw [← HBA.out]; exact h4⟩
    clear hq HI HSk HN h1 h2 h3 h4 h5 h6 h7 h8 hkd hat
    generalize (d.kind : Int) = XK at *
    generalize (d.at_ : Int) = XA at *
    generalize hXN : (d.nx : Int) = XN at *
    have HXN := Lib.hid hXN; clear hXN
    go_wp2_with fail
    refine HC.out.mono ?_
    rintro e x ⟨rfl, hb⟩
    have HBL := Lib.hid (show Below wr.heap.size wr (x.alloc (.cells #[.int .i64 XK, .int .i64 XA, .int .i64 XN, .string (tx d.tx), .int .i64 d.lv, .int .u64 (clsW d.cl 0), .int .u64 (clsW d.cl 1), .int .u64 (clsW d.cl 2), .int .u64 (clsW d.cl 3)] 43)) from hb.alloc hb.size _)
    have HWx := Lib.hid (hrow.new x #[.int .i64 XK, .int .i64 XA, .int .i64 XN, .string (tx d.tx), .int .i64 d.lv, .int .u64 (clsW d.cl 0), .int .u64 (clsW d.cl 1), .int .u64 (clsW d.cl 2), .int .u64 (clsW d.cl 3)] 43)
    have HGG : Hid (x.heap.size + 1 = (x.alloc (.cells #[.int .i64 XK, .int .i64 XA, .int .i64 XN, .string (tx d.tx), .int .i64 d.lv, .int .u64 (clsW d.cl 0), .int .u64 (clsW d.cl 1), .int .u64 (clsW d.cl 2), .int .u64 (clsW d.cl 3)] 43)).heap.size) := by unfold Hid; simp
    have HG0 := Lib.hid hb.size
    clear hb HC
    go_wp2_with (at_builtin; refine rappend_word rfl (.tmp 23) (.tmp 25) rfl w wr _ pre.length _ _ HO.out HBL.out x.heap.size HG0.out _ HWx.out #[.int .i64 XK, .int .i64 XA, .int .i64 XN, .string (tx d.tx), .int .i64 d.lv, .int .u64 (clsW d.cl 0), .int .u64 (clsW d.cl 1), .int .u64 (clsW d.cl 2), .int .u64 (clsW d.cl 3)] rfl HOne.out HPL2.out rfl _ HGG.out rfl ?_; intro v' w8 hO8 hw8; have HO8 := Lib.hid hO8; have c0 := hrow.cell hw8 0; have c2 := hrow.cell hw8 2; clear hO8 hw8)
    go_roundw
    case rel => exact ⟨d.nx, f, pre ++ [d], HNx.out.2, by rw [← HXN.out], by rw [← HCell.out, List.length_append]; exact HO8.out, by have := HFk.out; have := HNx.out; omega, by have := HPk.out; have := HNx.out; simp; omega, HW1.out⟩
    case measure => have := HNx.out; have := HXN.out; simp [intOf]; omega
end Go.Proofs.YtnfkcdnkmcifbaaGreatDoor
namespace Go.Proofs.YtnfkcdnkmcifbaaGreatDoor
open Go.RowKit
set_option maxRecDepth 100000
set_option maxHeartbeats 1000000

section
theorem u64_und : Tryz.prog.underlying 32 = some (.int .u64) := by kernel_rfl
theorem part_u64 (w : World) (cs : Array Value) (o : Nat) (v : Value) (h : cs[o]? = some v) : (part 32 cs o).run Tryz.prog w = .ok v w := by
 have ha : (isAgg 32).run Tryz.prog w = .ok false w := by simp [isAgg, run_underlying u64_und]
 unfold part
 simp [ha, h]
theorem eq_u64 (w : World) (d : Nat) (x y : Int) : (Op.equalIn (d + 1) 32 (.int .u64 x) (.int .u64 y)).run Tryz.prog w = .ok (x == y) w := by
 simp [Op.equalIn, run_underlying u64_und]
theorem items_step (w : World) (d : Nat) (xs ys : Array Value) (i : Nat) (is : List Nat) (x y : Int) (hx : xs[i * 1]? = some (.int .u64 x)) (hy : ys[i * 1]? = some (.int .u64 y)) :
  (Op.eqItems (d + 1) 32 1 xs ys (i :: is)).run Tryz.prog w = if (x == y) = true then (Op.eqItems (d + 1) 32 1 xs ys is).run Tryz.prog w else .ok false w := by
 simp only [Op.eqItems, Sem.run_bind, part_u64 w _ _ _ hx, part_u64 w _ _ _ hy, Result.andThen_ok, eq_u64]
 cases x == y <;> rfl
theorem cls_eqd (d : Nat) (w : World) (a b c e a' b' c' e' : Int) : (Op.equalIn (d + 2) 34 (.agg #[.int .u64 a, .int .u64 b, .int .u64 c, .int .u64 e]) (.agg #[.int .u64 a', .int .u64 b', .int .u64 c', .int .u64 e'])).run Tryz.prog w = .ok (a == a' && b == b' && c == c' && e == e') w := by
 obtain ⟨i, hi⟩ := Option.isSome_iff_exists.1 (show (Tryz.prog.info? 32).isSome = true by kernel_rfl)
 rw [run_equalIn_array (P := Tryz.prog) w (d + 1) (e := 32) (n := 4) (i := i) _ _ Tryz.underlying34 hi]
 rw [show Tryz.prog.cellsOf 32 = 1 by kernel_rfl, show List.range 4 = [0, 1, 2, 3] from rfl]
 rw [items_step w d _ _ 0 _ a a' rfl rfl, items_step w d _ _ 1 _ b b' rfl rfl, items_step w d _ _ 2 _ c c' rfl rfl, items_step w d _ _ 3 _ e e' rfl rfl]
 have h0 : (Op.eqItems (d + 1) 32 1 #[.int .u64 a, .int .u64 b, .int .u64 c, .int .u64 e] #[.int .u64 a', .int .u64 b', .int .u64 c', .int .u64 e'] []).run Tryz.prog w = .ok true w := by simp [Op.eqItems]
 rw [h0]
 cases a == a' <;> cases b == b' <;> cases c == c' <;> cases e == e' <;> rfl
/-- Two classes are compared word by word. -/
theorem cls_eq (w : World) (a b c d a' b' c' d' : Int) : (Op.equalIn 10000 34 (.agg #[.int .u64 a, .int .u64 b, .int .u64 c, .int .u64 d]) (.agg #[.int .u64 a', .int .u64 b', .int .u64 c', .int .u64 d'])).run Tryz.prog w = .ok (a == a' && b == b' && c == c' && d == d') w := by
 rw [show (10000 : Nat) = 9998 + 2 from rfl]
 exact cls_eqd 9998 w a b c d a' b' c' d'
end
theorem fields_step {P : Program} (w : World) (d : Nat) (xs ys : Array Value) (f : Field) (fs : List Field) (x y : Value) (b : Bool) (hn : f.name ≠ "_") (hx : (part f.type xs f.offset).run P w = .ok x w) (hy : (part f.type ys f.offset).run P w = .ok y w) (he : (Op.equalIn d f.type x y).run P w = .ok b w) :
  (Op.eqFields d xs ys (f :: fs)).run P w = if b = true then (Op.eqFields d xs ys fs).run P w else .ok false w := by
 simp only [Op.eqFields]
 rw [if_pos hn]
 simp only [Sem.run_bind, hx, hy, Result.andThen_ok, he]
 cases b <;> rfl
theorem wd_fs : (Tryz.prog.fieldsOf 36).toList.map (fun f => (f.name, f.type, f.offset)) = [("Kind", 31, 0), ("At", 3, 1), ("Next", 3, 2), ("Text", 9, 3), ("Level", 3, 4), ("Class", 34, 5)] := by kernel_rfl
theorem part_cls (w : World) (k a n l c0 c1 c2 c3 : Int) (t : ByteArray) : (part 34 #[.int .i64 k, .int .i64 a, .int .i64 n, .string t, .int .i64 l, .int .u64 c0, .int .u64 c1, .int .u64 c2, .int .u64 c3] 5).run Tryz.prog w = .ok (.agg #[.int .u64 c0, .int .u64 c1, .int .u64 c2, .int .u64 c3]) w := by kernel_rfl
theorem kind_und : Tryz.prog.underlying 31 = some (.int .i64) := by kernel_rfl
theorem int_und : Tryz.prog.underlying 3 = some (.int .i64) := by kernel_rfl
theorem str_und : Tryz.prog.underlying 9 = some .string := by kernel_rfl
theorem wd_eq (w : World) (k a n l c0 c1 c2 c3 k' a' n' l' c0' c1' c2' c3' : Int) (t t' : ByteArray) :
  (Op.equalIn 10000 36 (.agg #[.int .i64 k, .int .i64 a, .int .i64 n, .string t, .int .i64 l, .int .u64 c0, .int .u64 c1, .int .u64 c2, .int .u64 c3]) (.agg #[.int .i64 k', .int .i64 a', .int .i64 n', .string t', .int .i64 l', .int .u64 c0', .int .u64 c1', .int .u64 c2', .int .u64 c3'])).run Tryz.prog w =
   .ok (k == k' && (a == a' && (n == n' && (t.toList == t'.toList && (l == l' && (c0 == c0' && c1 == c1' && c2 == c2' && c3 == c3')))))) w := by
 rw [show (10000 : Nat) = 9999 + 1 from rfl, run_equalIn_struct (P := Tryz.prog) w 9999 36 _ _ (by kernel_rfl) (by kernel_rfl)]
 have h := wd_fs
 generalize (Tryz.prog.fieldsOf 36).toList = fs at *
 have hl : fs.length = 6 := by have := congrArg List.length h; simpa using this
 obtain ⟨f0, f1, f2, f3, f4, f5, rfl⟩ : ∃ f0 f1 f2 f3 f4 f5, fs = [f0, f1, f2, f3, f4, f5] := by
  match fs, hl with
  | [f0, f1, f2, f3, f4, f5], _ => exact ⟨_, _, _, _, _, _, rfl⟩
 ·clear hl
  simp only [List.map_cons, List.map_nil, List.cons.injEq, Prod.mk.injEq, and_true] at h
  obtain ⟨⟨n0, t0, o0⟩, ⟨n1, t1, o1⟩, ⟨n2, t2, o2⟩, ⟨n3, t3, o3⟩, ⟨n4, t4, o4⟩, n5, t5, o5⟩ := h
  rw [fields_step w 9999 _ _ f0 _ (.int .i64 k) (.int .i64 k') (k == k') (by rw [n0]; decide) (by rw [t0, o0]; exact run_part_plain _ (by kernel_rfl) rfl) (by rw [t0, o0]; exact run_part_plain _ (by kernel_rfl) rfl) (by rw [t0]; exact run_equalIn_int w 9998 _ _ _ _ _ kind_und)]
  rw [fields_step w 9999 _ _ f1 _ (.int .i64 a) (.int .i64 a') (a == a') (by rw [n1]; decide) (by rw [t1, o1]; exact run_part_plain _ (by kernel_rfl) rfl) (by rw [t1, o1]; exact run_part_plain _ (by kernel_rfl) rfl) (by rw [t1]; exact run_equalIn_int w 9998 _ _ _ _ _ int_und)]
  rw [fields_step w 9999 _ _ f2 _ (.int .i64 n) (.int .i64 n') (n == n') (by rw [n2]; decide) (by rw [t2, o2]; exact run_part_plain _ (by kernel_rfl) rfl) (by rw [t2, o2]; exact run_part_plain _ (by kernel_rfl) rfl) (by rw [t2]; exact run_equalIn_int w 9998 _ _ _ _ _ int_und)]
  rw [fields_step w 9999 _ _ f3 _ (.string t) (.string t') (t.toList == t'.toList) (by rw [n3]; decide) (by rw [t3, o3]; exact run_part_plain _ (by kernel_rfl) rfl) (by rw [t3, o3]; exact run_part_plain _ (by kernel_rfl) rfl) (by rw [t3]; exact run_equalIn_string w 9998 _ _ _ str_und)]
  rw [fields_step w 9999 _ _ f4 _ (.int .i64 l) (.int .i64 l') (l == l') (by rw [n4]; decide) (by rw [t4, o4]; exact run_part_plain _ (by kernel_rfl) rfl) (by rw [t4, o4]; exact run_part_plain _ (by kernel_rfl) rfl) (by rw [t4]; exact run_equalIn_int w 9998 _ _ _ _ _ int_und)]
  rw [fields_step w 9999 _ _ f5 _ _ _ (c0 == c0' && c1 == c1' && c2 == c2' && c3 == c3') (by rw [n5]; decide) (by rw [t5, o5]; exact part_cls w _ _ _ _ _ _ _ _ _) (by rw [t5, o5]; exact part_cls w _ _ _ _ _ _ _ _ _) (by rw [t5]; exact cls_eqd 9997 w _ _ _ _ _ _ _ _)]
  have h0 : (Op.eqFields 9999 #[.int .i64 k, .int .i64 a, .int .i64 n, .string t, .int .i64 l, .int .u64 c0, .int .u64 c1, .int .u64 c2, .int .u64 c3] #[.int .i64 k', .int .i64 a', .int .i64 n', .string t', .int .i64 l', .int .u64 c0', .int .u64 c1', .int .u64 c2', .int .u64 c3'] []).run Tryz.prog w = .ok true w := rfl
  rw [h0]
  cases k == k' <;> cases a == a' <;> cases n == n' <;> cases t.toList == t'.toList <;> cases l == l' <;> cases (c0 == c0' && c1 == c1' && c2 == c2' && c3 == c3') <;> rfl
end Go.Proofs.YtnfkcdnkmcifbaaGreatDoor
namespace Go.Proofs.YtnfkcdnkmcifbaaGreatDoor
open Go.RowKit
set_option maxRecDepth 100000
set_option maxHeartbeats 4000000

theorem fl_len {α : Type} {f : α → List Value} {s : Nat} (hf : ∀ x, (f x).length = s) : ∀ l : List α, (l.flatMap f).length = l.length * s
 | [] => by simp
 | x :: l => by rw [List.flatMap_cons, List.length_append, hf, fl_len hf l, List.length_cons, Nat.succ_mul]; omega
theorem fl_at {α : Type} {f : α → List Value} {s : Nat} (hf : ∀ x, (f x).length = s) : ∀ (l : List α) (i : Nat) (hi : i < l.length) (j : Nat), j < s → (l.flatMap f)[i * s + j]? = (f l[i])[j]?
 | x :: l, 0, _, j, hj => by rw [List.flatMap_cons, Nat.zero_mul, Nat.zero_add, List.getElem?_append_left (by rw [hf]; exact hj)]; rfl
 | x :: l, i + 1, hi, j, hj => by
  rw [List.flatMap_cons, List.getElem?_append_right (by rw [hf, Nat.succ_mul]; omega), hf]
  have e : (i + 1) * s + j - s = i * s + j := by rw [Nat.succ_mul]; omega
  rw [e]
  exact fl_at hf l i (by simpa using hi) j hj
theorem Sv.at {α : Type} {f : α → List Value} {s : Nat} (hf : ∀ x, (f x).length = s) {w : World} {ao : Option Addr} {n cap : Nat} {l : List α} (h : Sv w ao n cap s (l.flatMap f)) (hs : 0 < s) (i : Nat) (hi : i < l.length) :
  ∃ a, ao = some a ∧ ∀ j v, (f l[i])[j]? = some v → w.cell? ((a.add (i * s)).add j) = some v := by
 have hl := fl_len hf l
 have hb : i * s + s ≤ l.length * s := by rw [← Nat.succ_mul]; exact Nat.mul_le_mul_right s (by omega)
 obtain ⟨a, ha, _⟩ := h.cell (i * s) (by omega)
 refine ⟨a, ha, fun j v hj => ?_⟩
 have hjs : j < s := by have := (List.getElem?_eq_some_iff.1 hj).1; rw [hf] at this; exact this
 obtain ⟨a', ha', hc⟩ := h.cell (i * s + j) (by omega)
 rw [ha] at ha'; cases ha'
 rw [add_add, hc, fl_at hf l i hi j hjs, hj]
theorem add_off (a : Addr) (i j : Nat) (hj : 0 < j) : (a.add i).add j = ⟨(a.add i).block, (a.add i).off + j, none⟩ := by
 unfold Addr.add
 by_cases h : i = 0 <;> simp [h, show j ≠ 0 by omega]
theorem wdD_len (d : Wd) : (wdD d).toList.length = 9 := rfl
def exS : ByteArray := ⟨#[65, 58, 50, 32, 60, 45, 32, 34, 97, 34, 32, 91, 98, 45, 100, 93, 42, 32, 59]⟩
def exWs : List Wd := [⟨2, 0, 3, [65], 2, []⟩, ⟨5, 4, 6, [60, 45], 0, []⟩, ⟨3, 7, 10, [97], 0, []⟩, ⟨4, 11, 16, [], 0, [(98, 100)]⟩, ⟨5, 16, 17, [42], 0, []⟩, ⟨5, 18, 19, [59], 0, []⟩, ⟨1, 19, 19, [], 0, []⟩]
theorem ex_words : wordsOf exS.data.toList = (exWs, none) := by decide +kernel
theorem ex_all (w : World) : Calls Tryz.prog 7 #[.string ⟨#[65, 58, 50, 32, 60, 45, 32, 34, 97, 34, 32, 91, 98, 45, 100, 93, 42, 32, 59]⟩] w fun e w' =>
  ∃ ao cap, e = .returned (.tuple #[.slice ao 7 cap, .int .i64 0, .int .i64 0]) ∧ Sv w' ao 7 cap 9 (exWs.flatMap fun x => (wdD x).toList) ∧ Below w.heap.size w w' := by
 have h := all_any exS w (by decide)
 unfold AllP at h
 rw [ex_words] at h
 refine h.mono ?_
 rintro e w' ⟨v, rfl, ho⟩
 obtain ⟨ao, cap, rfl, hs⟩ := ho.sv
 exact ⟨ao, cap, rfl, hs, ho.2⟩
theorem cl98 : clsW [(98, 100)] 0 = 0 ∧ clsW [(98, 100)] 1 = 120259084288 ∧ clsW [(98, 100)] 2 = 0 ∧ clsW [(98, 100)] 3 = 0 := by decide +kernel
theorem awake_any (w : World) : Calls Tryz.prog 5 #[] w fun e w' => e = .returned (.bool true) ∧ Below w.heap.size w w' := by
 have hce := cls_eq
 have HA := Lib.hid (ex_all w)
 go_enter Tryz.func5, Tryz.ntmps5
 go_wp2_with fail
 refine HA.out.mono ?_
 rintro e w1 ⟨ao, cap, rfl, hS, hb⟩
 obtain ⟨a, rfl, c0⟩ := Sv.at wdD_len hS (by decide) 0 (by decide)
 obtain ⟨_, e2, c2⟩ := Sv.at wdD_len hS (by decide) 2 (by decide)
 cases e2
 obtain ⟨_, e2, c3⟩ := Sv.at wdD_len hS (by decide) 3 (by decide)
 cases e2
 obtain ⟨_, e2, c6⟩ := Sv.at wdD_len hS (by decide) 6 (by decide)
 cases e2
 have k00 : w1.cell? a = some (.int .i64 2) := by have := c0 0 _ rfl; simp [Addr.add] at this; exact this
 have k04 : w1.cell? ⟨a.block, a.off + 4, none⟩ = some (.int .i64 2) := by have := c0 4 _ rfl; rw [add_add] at this; simp [Addr.add] at this; exact this
 have k23 : w1.cell? ⟨a.block, a.off + 18 + 3, none⟩ = some (.string ⟨#[97]⟩) := by have := c2 3 _ rfl; rw [add_off _ _ _ (by decide)] at this; exact this
 have k35 : w1.cell? ⟨a.block, a.off + 27 + 5, none⟩ = some (.int .u64 0) := by have := c3 5 _ rfl; rw [show clsW (exWs[3]).cl 0 = 0 from cl98.1, add_off _ _ _ (by decide)] at this; exact this
 have k36 : w1.cell? ⟨a.block, a.off + 27 + 5 + 1, none⟩ = some (.int .u64 120259084288) := by have := c3 6 _ rfl; rw [show clsW (exWs[3]).cl 1 = 120259084288 from cl98.2.1, add_off _ _ _ (by decide)] at this; exact this
 have k37 : w1.cell? ⟨a.block, a.off + 27 + 5 + 2, none⟩ = some (.int .u64 0) := by have := c3 7 _ rfl; rw [show clsW (exWs[3]).cl 2 = 0 from cl98.2.2.1, add_off _ _ _ (by decide)] at this; exact this
 have k38 : w1.cell? ⟨a.block, a.off + 27 + 5 + 3, none⟩ = some (.int .u64 0) := by have := c3 8 _ rfl; rw [show clsW (exWs[3]).cl 3 = 0 from cl98.2.2.2, add_off _ _ _ (by decide)] at this; exact this
 have k60 : w1.cell? ⟨a.block, a.off + 54, none⟩ = some (.int .i64 1) := by have := c6 0 _ rfl; rw [add_add] at this; simp [Addr.add] at this; exact this
 have hbd := hS.bound
 have HB := Lib.hid hb
 clear c0 c2 c3 c6 hS hb
 go_wp2_with fail
 go_ret
 exact ⟨rfl, HB.out⟩
end Go.Proofs.YtnfkcdnkmcifbaaGreatDoor
namespace Go.Proofs.YtnfkcdnkmcifbaaGreatDoor
open Go.RowKit
set_option maxRecDepth 100000
set_option maxHeartbeats 4000000

theorem same_any (k a n l c0 c1 c2 c3 : Int) (t : ByteArray) (w : World) : Calls Tryz.prog 11 #[.agg #[.int .i64 k, .int .i64 a, .int .i64 n, .string t, .int .i64 l, .int .u64 c0, .int .u64 c1, .int .u64 c2, .int .u64 c3], .agg #[.int .i64 k, .int .i64 a, .int .i64 n, .string t, .int .i64 l, .int .u64 c0, .int .u64 c1, .int .u64 c2, .int .u64 c3]] w fun e w' => e = .returned (.bool true) ∧ Below w.heap.size w w' := by
 have hce := cls_eq
 have HB := Lib.hid (((Below.refl w.heap.size w).alloc (Nat.le_refl _) (.cells #[.int .i64 k, .int .i64 a, .int .i64 n, .string t, .int .i64 l, .int .u64 c0, .int .u64 c1, .int .u64 c2, .int .u64 c3] 36)).alloc (by simp) (.cells #[.int .i64 k, .int .i64 a, .int .i64 n, .string t, .int .i64 l, .int .u64 c0, .int .u64 c1, .int .u64 c2, .int .u64 c3] 43))
 have hb1 := (Below.refl (w.alloc (.cells #[.int .i64 k, .int .i64 a, .int .i64 n, .string t, .int .i64 l, .int .u64 c0, .int .u64 c1, .int .u64 c2, .int .u64 c3] 36)).heap.size _).alloc (Nat.le_refl _) (.cells #[.int .i64 k, .int .i64 a, .int .i64 n, .string t, .int .i64 l, .int .u64 c0, .int .u64 c1, .int .u64 c2, .int .u64 c3] 43)
 obtain ⟨p0, p1, p2, p3, p4, p5, p6, p7, p8⟩ := hrow.c9 ((hrow.new w #[.int .i64 k, .int .i64 a, .int .i64 n, .string t, .int .i64 l, .int .u64 c0, .int .u64 c1, .int .u64 c2, .int .u64 c3] 36).below hb1)
 clear hb1
 go_enter Tryz.func11, Tryz.ntmps11
 go_wp2_with fail
 go_ret
 exact ⟨rfl, HB.out⟩
theorem next_all (s : ByteArray) (a : Int) (w : World) (hs : s.size ≤ 1000000) : Calls Tryz.prog 9 #[.string s, .int .i64 a] w fun e w' => e = .returned (nxV (nxA s.data.toList a)) ∧ Below w.heap.size w w' := by
 by_cases h : a < 0 ∨ (s.size : Int) < a
 ·have HE : Hid (nxA s.data.toList a = none) := nxA_out (by rw [ba_len]; exact h)
  rw [HE.out]
  have HB := Lib.hid ((Below.refl w.heap.size w).alloc (Nat.le_refl _) (.cells #[.int .i64 0, .int .i64 0, .int .i64 0, .string ⟨#[]⟩, .int .i64 0, .int .u64 0, .int .u64 0, .int .u64 0, .int .u64 0] 36))
  have HR := Lib.hid (show hrow (w.alloc (.cells #[.int .i64 0, .int .i64 0, .int .i64 0, .string ⟨#[]⟩, .int .i64 0, .int .u64 0, .int .u64 0, .int .u64 0, .int .u64 0] 36)) w.heap.size wd0 36 from hrow.new _ _ _)
  by_cases h0 : a < 0
  ·clear h
   go_enter Tryz.func9, Tryz.ntmps9
   go_wp2_with (with_reducible refine store_word rfl (.tmp 4) (.tmp 19) rfl w.heap.size _ _ _ _ _ _ _ _ _ rfl rfl HR.out ?_)
   refine bodyPost_ret (results_word rfl _ _ w.heap.size _ _ rfl rfl HR.out rfl) rfl ?_
   exact ⟨rfl, below_setRow HB.out (Nat.le_refl _) _⟩
  ·have h1 : (s.size : Int) < a := by omega
   clear h
   go_enter Tryz.func9, Tryz.ntmps9
   go_wp2_with (with_reducible refine store_word rfl (.tmp 4) (.tmp 19) rfl w.heap.size _ _ _ _ _ _ _ _ _ rfl rfl HR.out ?_)
   refine bodyPost_ret (results_word rfl _ _ w.heap.size _ _ rfl rfl HR.out rfl) rfl ?_
   exact ⟨rfl, below_setRow HB.out (Nat.le_refl _) _⟩
 ·obtain ⟨k, rfl⟩ : ∃ k : Nat, a = k := ⟨a.toNat, by omega⟩
  have hk : k ≤ s.size := by omega
  rw [nxA_in (by rw [ba_len]; exact hk)]
  exact next_any s k w hs hk
theorem wd_sz9 : (Tryz.prog.info? 36).map (·.size) = some 9 := by decide +kernel
theorem rd_sz9 : (Tryz.prog.info? 43).map (·.size) = some 9 := by decide +kernel
theorem part_later {wx : World} {p : Addr} {x0 x1 x2 x3 x4 x5 x6 x7 x8 : Value} (h : ∀ j v, (#[x0, x1, x2, x3, x4, x5, x6, x7, x8] : Array Value).toList[j]? = some v → wx.cell? (p.add j) = some v) :
  (∀ x : Later wx, (loadVar 36 p).run Tryz.prog x.val = .ok (.agg #[x0, x1, x2, x3, x4, x5, x6, x7, x8]) x.val) ∧ (∀ x : Later wx, (loadVar 43 p).run Tryz.prog x.val = .ok (.agg #[x0, x1, x2, x3, x4, x5, x6, x7, x8]) x.val) := by
 have H : ∀ (x : Later wx) j v, (#[x0, x1, x2, x3, x4, x5, x6, x7, x8] : Array Value).toList[j]? = some v → x.val.cell? (p.add j) = some v := fun x j v hj => (x.ok.cell (World.block_lt_of_cell? wx _ (h j v hj))).trans (h j v hj)
 exact ⟨fun x => run_loadVar_part x.val p _ _ _ (H x) Tryz.underlying36 rfl wd_sz9, fun x => run_loadVar_part x.val p _ _ _ (H x) Tryz.underlying43 rfl rd_sz9⟩
/-- A load of several cells at a step of a drawn region. -/
theorem wpQuiet_load_part {P : Program} {ops : Array Oper} {C : World → Prop} {rest : List Oper} {o : Oper} {a : Act} {Q : Act → Prop} (hw : Region.wanted o (yielded ops a.tmps) = true) (ty : TypeId) (x : Operand) (ho : o.op = .load ty x)
  (p : Addr) (hx : a.eval x = .pointer (some p)) (cs : Array Value) (hl : ∀ w, C w → (loadVar ty p).run P w = .ok (.agg cs) w)
  (h : wpQuiet P ops C Q rest (a.put o.dst (.agg cs))) : wpQuiet P ops C Q (o :: rest) a :=
 wpQuiet_step fun K hK => by
  rw [if_pos hw]
  refine ⟨_, fun w hc => ?_, hK _ h⟩
  unfold Oper.quietAt execOp
  simp only [ho, hx, Instr.loadAt, Instr.sureAddr, Sem.run_bind, Sem.run_pure, Result.andThen_ok, hl w hc]
  exact ⟨rfl, rfl⟩
theorem later_all {wx : World} {p : Addr} {ty : TypeId} {P : Program} {v : Value} (h : ∀ x : Later wx, (loadVar ty p).run P x.val = .ok v x.val) : ∀ w, (∃ x : Later wx, w = x.val) → (loadVar ty p).run P w = .ok v w := fun w ⟨x, e⟩ => by subst e; exact h x
theorem all_long (s : ByteArray) (w : World) (hs : 16384 < s.size) : Calls Tryz.prog 7 #[.string s] w fun e w' => e = .returned (.tuple #[.slice none 0 0, .int .i64 0, .int .i64 3]) ∧ Below w.heap.size w w' := by
 have hI : (16384 : Int) < s.size := by omega
 have HB := Lib.hid ((((Below.refl w.heap.size w).alloc (Nat.le_refl _) (.cells #[.slice none 0 0] 26)).alloc (by simp) (.cells #[.int .i64 0] 3)).alloc (by simp; omega) (.cells #[.int .i64 3] 27))
 have h1 := ((Boxed.new w 26 (.slice none 0 0)).alloc (.cells #[.int .i64 0] 3)).alloc (.cells #[.int .i64 3] 27)
 have h2 := (Boxed.new (w.alloc (.cells #[.slice none 0 0] 26)) 3 (.int .i64 0)).alloc (.cells #[.int .i64 3] 27)
 have h3 := Boxed.new ((w.alloc (.cells #[.slice none 0 0] 26)).alloc (.cells #[.int .i64 0] 3)) 27 (.int .i64 3)
 simp only [World.size_alloc] at h2 h3
 have H1 := Lib.hid h1.cell; have H2 := Lib.hid h2.cell; have H3 := Lib.hid h3.cell
 clear hs h1 h2 h3
 go_enter Tryz.func7, Tryz.ntmps7
 go_wp2_with fail
 refine bodyPost_ret (results_c3 rfl _ _ _ _ _ _ _ _ rfl rfl rfl (loadVar_plain (by simp) H1.out) (loadVar_plain (by simp) H2.out) (loadVar_plain (by simp) H3.out)) rfl ?_
 exact ⟨rfl, HB.out⟩
/-- What both sides tell of all words. -/
def allT (l : List UInt8) : List Wd × Int × Int := match (wordsOf l).2 with
 | none => ((wordsOf l).1, 0, 0)
 | some p => ([], p, 7)
theorem AllP.as {l : List UInt8} {w w' : World} {e : Ending} (h : AllP l w e w') : ∃ ao cap, e = .returned (.tuple #[.slice ao (allT l).1.length cap, .int .i64 (allT l).2.1, .int .i64 (allT l).2.2]) ∧ Sv w' ao (allT l).1.length cap 9 ((allT l).1.flatMap fun x => (wdD x).toList) ∧ Below w.heap.size w w' := by
 unfold AllP at h
 unfold allT
 cases hq : (wordsOf l).2 with
 | none =>
  rw [hq] at h
  obtain ⟨v, rfl, hO⟩ := h
  obtain ⟨ao, cap, rfl, hs⟩ := hO.sv
  exact ⟨_, _, rfl, hs, hO.2⟩
 | some p =>
  rw [hq] at h
  obtain ⟨rfl, hb⟩ := h
  exact ⟨_, _, rfl, Sv.nil _ _, hb⟩
theorem RAllP.as {l : List UInt8} {w w' : World} {e : Ending} (h : RAllP l w e w') : ∃ ao cap, e = .returned (.tuple #[.slice ao (allT l).1.length cap, .int .i64 (allT l).2.1, .int .i64 (allT l).2.2]) ∧ Sv w' ao (allT l).1.length cap 9 ((allT l).1.flatMap fun x => (wdD x).toList) ∧ Below w.heap.size w w' := by
 unfold RAllP at h
 unfold allT
 cases hq : (wordsOf l).2 with
 | none =>
  rw [hq] at h
  obtain ⟨v, rfl, hO⟩ := h
  obtain ⟨ao, cap, rfl, hs⟩ := hO.sv
  exact ⟨_, _, rfl, hs, hO.2⟩
 | some p =>
  rw [hq] at h
  obtain ⟨rfl, hb⟩ := h
  exact ⟨_, _, rfl, Sv.nil _ _, hb⟩
theorem nxV_form (o : Option Wd) : ∃ k a n l c0 c1 c2 c3 : Int, ∃ t : ByteArray, ∃ b : Bool, nxV o = .tuple #[.agg #[.int .i64 k, .int .i64 a, .int .i64 n, .string t, .int .i64 l, .int .u64 c0, .int .u64 c1, .int .u64 c2, .int .u64 c3], .bool b] := by
 cases o with
 | none => exact ⟨_, _, _, _, _, _, _, _, _, _, rfl⟩
 | some d => exact ⟨_, _, _, _, _, _, _, _, _, _, rfl⟩
theorem reads_any (s : ByteArray) (a : Int) (w : World) (hs : s.size ≤ 16384) : Calls Tryz.prog 6 #[.string s, .int .i64 a] w fun e w' => e = .returned (.bool true) ∧ Below w.heap.size w w' := by
 have H1 := Lib.hid (fun x => all_any s x hs)
 have H2 := Lib.hid (fun x => rall_any s x hs)
 have H3 := Lib.hid (fun x => next_all s a x (by omega))
 have H4 := Lib.hid (fun x => rnext_any s a x (by omega))
 have H5 := Lib.hid (fun x => skip_any s a x (by omega))
 have H6 := Lib.hid (fun x => rskip_any s a x (by omega))
 have HAs := Lib.hid (fun (e : Ending) (w w' : World) (h : AllP s.data.toList w e w') => h.as)
 have HRs := Lib.hid (fun (e : Ending) (w w' : World) (h : RAllP s.data.toList w e w') => h.as)
 obtain ⟨k, at_, n, l, c0, c1, c2, c3, t, b, hX⟩ := nxV_form (nxA s.data.toList a)
 rw [hX] at H3 H4
 clear hX hs
 generalize hT : allT s.data.toList = T at *
 clear hT
 obtain ⟨ws, p, q⟩ := T
 simp only [] at HAs HRs
 generalize hm : ws.length = m at *
 have HM := Lib.hid hm; clear hm
 generalize skA s.data.toList a = sk at *
 go_enter Tryz.func6, Tryz.ntmps6
 go_wp2_with fail
 refine (H1.out _).mono ?_
 intro e w1 hP
 obtain ⟨ao, cap, rfl, hS, hb⟩ := HAs.out _ _ _ hP
 have B1 := Lib.hid hb; have S1 := Lib.hid hS
 have hbd := hS.bound
 clear hP hS hb H1 HAs
 go_wp2_with fail
 refine (H2.out _).mono ?_
 intro e w2 hP
 obtain ⟨bo, cap2, rfl, hS, hb⟩ := HRs.out _ _ _ hP
 have B2 := Lib.hid (B1.out.trans (hb.mono B1.out.size)); have S2 := Lib.hid hS; have S1b := Lib.hid (S1.out.below hb)
 have hbd2 := hS.bound
 clear hP hS hb H2 HRs S1 B1
 go_wp2_with fail
 refine (H3.out _).mono ?_
 rintro e w3 ⟨rfl, hb⟩
 have hbl := hb.alloc hb.size (.cells #[.int .i64 k, .int .i64 at_, .int .i64 n, .string t, .int .i64 l, .int .u64 c0, .int .u64 c1, .int .u64 c2, .int .u64 c3] 36)
 have B3 := Lib.hid (B2.out.trans (hbl.mono B2.out.size)); have S2b := Lib.hid (S2.out.below hbl); have S1c := Lib.hid (S1b.out.below hbl)
 have R11 := Lib.hid (hrow.new w3 #[.int .i64 k, .int .i64 at_, .int .i64 n, .string t, .int .i64 l, .int .u64 c0, .int .u64 c1, .int .u64 c2, .int .u64 c3] 36)
 clear hb hbl H3 S2 S1b B2
 go_wp2_with fail
 refine (H4.out _).mono ?_
 rintro e w4 ⟨rfl, hb⟩
 have hbl := hb.alloc hb.size (.cells #[.int .i64 k, .int .i64 at_, .int .i64 n, .string t, .int .i64 l, .int .u64 c0, .int .u64 c1, .int .u64 c2, .int .u64 c3] 43)
 have B4 := Lib.hid (B3.out.trans (hbl.mono B3.out.size)); have S2c := Lib.hid (S2b.out.below hbl); have S1d := Lib.hid (S1c.out.below hbl)
 have R11b := Lib.hid (R11.out.below hbl)
 have R13 := Lib.hid (hrow.new w4 #[.int .i64 k, .int .i64 at_, .int .i64 n, .string t, .int .i64 l, .int .u64 c0, .int .u64 c1, .int .u64 c2, .int .u64 c3] 43)
 clear hb hbl H4 S2b S1c B3 R11
 obtain ⟨g0, g1, g2, g3, g4, g5, g6, g7, g8⟩ := hrow.c9 R11b.out
 go_wp2_with fail
 refine (same_any k at_ n l c0 c1 c2 c3 t _).mono ?_
 rintro e w5 ⟨rfl, hb⟩
 have B5 := Lib.hid (B4.out.trans (hb.mono B4.out.size)); have S2d := Lib.hid (S2c.out.below hb); have S1e := Lib.hid (S1d.out.below hb)
 clear hb S2c S1d B4 R11b R13 g0 g1 g2 g3 g4 g5 g6 g7 g8
 go_wp2_with fail
 refine (H5.out _).mono ?_
 rintro e w6 ⟨rfl, hb⟩
 have B6 := Lib.hid (B5.out.trans (hb.mono B5.out.size)); have S2e := Lib.hid (S2d.out.below hb); have S1f := Lib.hid (S1e.out.below hb)
 clear hb S2d S1e B5 H5
 go_wp2_with fail
 refine (H6.out _).mono ?_
 rintro e w7 ⟨rfl, hb⟩
 have B7 := Lib.hid (B6.out.trans (hb.mono B6.out.size)); have S2f := Lib.hid (S2e.out.below hb); have S1g := Lib.hid (S1f.out.below hb)
 clear hb S2e S1f B6 H6
 go_wp2_with fail
 go_loopw [15] (fun i wr => ∃ j : Nat, j ≤ m ∧ i = .int .i64 j ∧ Hid (Sv wr ao m cap 9 (ws.flatMap fun x => (wdD x).toList) ∧ Sv wr bo m cap2 9 (ws.flatMap fun x => (wdD x).toList) ∧ Below w.heap.size w wr)) (fun i _ => m - (intOf i).toNat)
 case atStart => exact ⟨0, Nat.zero_le _, by go_num, S1g.out, S2f.out, B7.out⟩
 case round =>
  clear S1g S2f B7
  obtain ⟨j, hj, rfl, HI⟩ := hrel
  by_cases hlt : j < m
  ·have hjI : (j : Int) < m := by omega
   have hj0 : (0 : Int) ≤ j := by omega
   have hjl : j < ws.length := by rw [HM.out]; exact hlt
   obtain ⟨ad, ha, haa⟩ := Sv.at wdD_len HI.out.1 (by decide) j hjl
   obtain ⟨bd, hb, hbb⟩ := Sv.at wdD_len HI.out.2.1 (by decide) j hjl
   obtain ⟨d, hd⟩ : ∃ d, ws[j] = d := ⟨_, rfl⟩
   rw [hd] at haa hbb
   subst ha hb
   have HP1 := Lib.hid (later_all (part_later (show ∀ j_1 v, (#[.int .i64 d.kind, .int .i64 d.at_, .int .i64 d.nx, .string (tx d.tx), .int .i64 d.lv, .int .u64 (clsW d.cl 0), .int .u64 (clsW d.cl 1), .int .u64 (clsW d.cl 2), .int .u64 (clsW d.cl 3)] : Array Value).toList[j_1]? = some v → _ from haa)).1)
   have HP2 := Lib.hid (later_all (part_later (show ∀ j_1 v, (#[.int .i64 d.kind, .int .i64 d.at_, .int .i64 d.nx, .string (tx d.tx), .int .i64 d.lv, .int .u64 (clsW d.cl 0), .int .u64 (clsW d.cl 1), .int .u64 (clsW d.cl 2), .int .u64 (clsW d.cl 3)] : Array Value).toList[j_1]? = some v → _ from hbb)).2)
   have HCx : Hid (∀ x : Later wr, Calls Tryz.prog 11 #[.agg #[.int .i64 d.kind, .int .i64 d.at_, .int .i64 d.nx, .string (tx d.tx), .int .i64 d.lv, .int .u64 (clsW d.cl 0), .int .u64 (clsW d.cl 1), .int .u64 (clsW d.cl 2), .int .u64 (clsW d.cl 3)], .agg #[.int .i64 d.kind, .int .i64 d.at_, .int .i64 d.nx, .string (tx d.tx), .int .i64 d.lv, .int .u64 (clsW d.cl 0), .int .u64 (clsW d.cl 1), .int .u64 (clsW d.cl 2), .int .u64 (clsW d.cl 3)]] x.val fun e w' => e = .returned (.bool true) ∧ ∃ y : Later wr, w' = y.val) := fun x => Calls.later (same_any _ _ _ _ _ _ _ _ _ _)
   have HJ := Lib.hid hlt
   clear haa hbb hd hjl hlt
   go_wp2_with fail
   refine wp_region_later (by kernel_rfl) (by kernel_rfl) ?_
   repeat (first
    | go_big_quiet_step ((go_at_call 11; with_reducible exact HCx.out _))
    | (refine wpQuiet_load_part rfl 36 (.tmp 83) rfl (ad.add (j * 9)) rfl _ HP1.out ?_; simp only [Act.put, List.setIfInBounds_toArray, List.set_cons_succ, List.set_cons_zero])
    | (refine wpQuiet_load_part rfl 43 (.tmp 87) rfl (bd.add (j * 9)) rfl _ HP2.out ?_; simp only [Act.put, List.setIfInBounds_toArray, List.set_cons_succ, List.set_cons_zero]))
   refine wpQuiet_nil ?_
   intro w8 hw8
   obtain ⟨x, rfl⟩ := hw8
   have HI2 := Lib.hid (⟨HI.out.1.below x.ok, HI.out.2.1.below x.ok, HI.out.2.2.trans (x.ok.mono HI.out.2.2.size)⟩ : _ ∧ _ ∧ _)
   clear HI HP1 HP2 HCx
   generalize x.val = wy at *
   clear x
   go_wp2_with fail
   go_roundw
   case rel => exact ⟨j + 1, HJ.out, by go_num, HI2.out⟩
   case measure => have := HJ.out; simp [intOf]; omega
  ·have hjI : ¬ (j : Int) < m := by omega
   have B8 := Lib.hid HI.out.2.2
   go_wp2_with fail
   go_ret
   exact ⟨rfl, B8.out⟩
end Go.Proofs.YtnfkcdnkmcifbaaGreatDoor
namespace Go.Proofs.YtnfkcdnkmcifbaaGreatDoor
open Go.RowKit
set_option maxRecDepth 100000
set_option maxHeartbeats 4000000

theorem tell_any (s : ByteArray) (a : Int) (w : World) (hm : s.size ≤ 140737488355328) : Calls Tryz.prog 3 #[.string s, .int .i64 a] w fun e w' => e = .returned (.bool true) ∧ Below w.heap.size w w' := by
 have HAw := Lib.hid awake_any
 have HM := Lib.hid hm; clear hm
 by_cases hbig : 1000 < s.size
 ·have hI : (1000 : Int) < s.size := by omega
  clear hbig
  go_enter Tryz.func3, Tryz.ntmps3
  go_wp2_with fail
  refine (HAw.out _).mono ?_
  rintro e w1 ⟨rfl, hb⟩
  have B1 := Lib.hid hb
  go_wp2_with fail
  go_ret
  exact ⟨rfl, B1.out⟩
 ·have hI : ¬ (1000 : Int) < s.size := by omega
  have HR := Lib.hid (reads_any s a w (by omega))
  clear hbig
  go_enter Tryz.func3, Tryz.ntmps3
  go_wp2_with fail
  refine HR.out.mono ?_
  rintro e w1 ⟨rfl, hb⟩
  have B1 := Lib.hid hb; clear hb
  go_wp2_with fail
  refine (HAw.out _).mono ?_
  rintro e w2 ⟨rfl, hb⟩
  have B2 := Lib.hid (B1.out.trans (hb.mono B1.out.size))
  go_wp2_with fail
  go_ret
  exact ⟨rfl, B2.out⟩
end Go.Proofs.YtnfkcdnkmcifbaaGreatDoor
