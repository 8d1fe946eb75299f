/- Walks and plain laws: S6 S7 Qp. -/
import Derived.Test.YthfefbmkgebmkaaGreatDoorT08
import Derived.Test.YthfefbmkgebmkaaGreatDoorM07
import Derived.BigRegion
import Derived.Test.YthfefbmkgebmkaaGreatDoorM08
import Derived.Test.YthfefbmkgebmkaaGreatDoorT06
import Derived.Test.YthfefbmkgebmkaaGreatDoorM17
namespace Go.Proofs.YthfefbmkgebmkaaGreatDoor
open Go.RowKit
set_option maxRecDepth 100000
set_option maxHeartbeats 4000000

/-- The word from whatever place on. -/
def nxA (l : List UInt8) (a : Int) : Option Wd := if a < 0 ∨ (l.length : Int) < a then none else nextW l a.toNat
theorem nxA_in {l : List UInt8} {k : Nat} (h : k ≤ l.length) : nxA l k = nextW l k := by unfold nxA; rw [if_neg (by omega), Int.toNat_natCast]
theorem nxA_out {l : List UInt8} {a : Int} (h : a < 0 ∨ (l.length : Int) < a) : nxA l a = none := if_pos h
theorem results_rword2 {fn : Func} {p q : Tmp} (h : fn.results = #[.cell p 119, .tmp q]) (tmps : Array Value) (w : World) (g : Nat) (cs : Array Value) (b : Value)
    (hp : tmps.getD p undef = .pointer (some ⟨g, 0, none⟩)) (hq : tmps.getD q undef = b) (hg : hrow w g wd0 119) (hs : cs.size = 9) : (results fn tmps).run Tryz.prog (w.setRow g cs) = .ok (.tuple #[.agg cs, b]) (w.setRow g cs) := by
  subst hq
  exact results_row2 h tmps _ g _ cs _ _ hp (setRow_heap _ _ _ _ _ _ hg) Tryz.underlying119 rfl (rw_sz hs)
theorem hrow_drew {w : World} {g : Nat} {cs : Array Value} {t : TypeId} (h : hrow w g cs t) : hrow w.drew g cs t := h
theorem set9_row {W : World} {g : Nat} {t : TypeId} {u0 u1 u2 u3 u4 u5 u6 u7 u8 : Value} (h : hrow W g #[u0, u1, u2, u3, u4, u5, u6, u7, u8] t) (v0 v1 v2 v3 v4 v5 v6 v7 v8 : Value) : hrow (((((((((W.setCell ⟨g, 0, none⟩ v0).setCell ⟨g, 1, none⟩ v1).setCell ⟨g, 2, none⟩ v2).setCell ⟨g, 3, none⟩ v3).setCell ⟨g, 4, none⟩ v4).setCell ⟨g, 5, none⟩ v5).setCell ⟨g, 6, none⟩ v6).setCell ⟨g, 7, none⟩ v7).setCell ⟨g, 8, none⟩ v8).drew g #[v0, v1, v2, v3, v4, v5, v6, v7, v8] t := by
 have h0 : hrow (W.setCell ⟨g, 0, none⟩ v0) g #[v0, u1, u2, u3, u4, u5, u6, u7, u8] t := hrow.setCell h 0 v0
 have h1 : hrow ((W.setCell ⟨g, 0, none⟩ v0).setCell ⟨g, 1, none⟩ v1) g #[v0, v1, u2, u3, u4, u5, u6, u7, u8] t := hrow.setCell h0 1 v1
 have h2 : hrow (((W.setCell ⟨g, 0, none⟩ v0).setCell ⟨g, 1, none⟩ v1).setCell ⟨g, 2, none⟩ v2) g #[v0, v1, v2, u3, u4, u5, u6, u7, u8] t := hrow.setCell h1 2 v2
 have h3 : hrow ((((W.setCell ⟨g, 0, none⟩ v0).setCell ⟨g, 1, none⟩ v1).setCell ⟨g, 2, none⟩ v2).setCell ⟨g, 3, none⟩ v3) g #[v0, v1, v2, v3, u4, u5, u6, u7, u8] t := hrow.setCell h2 3 v3
 have h4 : hrow (((((W.setCell ⟨g, 0, none⟩ v0).setCell ⟨g, 1, none⟩ v1).setCell ⟨g, 2, none⟩ v2).setCell ⟨g, 3, none⟩ v3).setCell ⟨g, 4, none⟩ v4) g #[v0, v1, v2, v3, v4, u5, u6, u7, u8] t := hrow.setCell h3 4 v4
 have h5 : hrow ((((((W.setCell ⟨g, 0, none⟩ v0).setCell ⟨g, 1, none⟩ v1).setCell ⟨g, 2, none⟩ v2).setCell ⟨g, 3, none⟩ v3).setCell ⟨g, 4, none⟩ v4).setCell ⟨g, 5, none⟩ v5) g #[v0, v1, v2, v3, v4, v5, u6, u7, u8] t := hrow.setCell h4 5 v5
 have h6 : hrow (((((((W.setCell ⟨g, 0, none⟩ v0).setCell ⟨g, 1, none⟩ v1).setCell ⟨g, 2, none⟩ v2).setCell ⟨g, 3, none⟩ v3).setCell ⟨g, 4, none⟩ v4).setCell ⟨g, 5, none⟩ v5).setCell ⟨g, 6, none⟩ v6) g #[v0, v1, v2, v3, v4, v5, v6, u7, u8] t := hrow.setCell h5 6 v6
 have h7 : hrow ((((((((W.setCell ⟨g, 0, none⟩ v0).setCell ⟨g, 1, none⟩ v1).setCell ⟨g, 2, none⟩ v2).setCell ⟨g, 3, none⟩ v3).setCell ⟨g, 4, none⟩ v4).setCell ⟨g, 5, none⟩ v5).setCell ⟨g, 6, none⟩ v6).setCell ⟨g, 7, none⟩ v7) g #[v0, v1, v2, v3, v4, v5, v6, v7, u8] t := hrow.setCell h6 7 v7
 have h8 : hrow (((((((((W.setCell ⟨g, 0, none⟩ v0).setCell ⟨g, 1, none⟩ v1).setCell ⟨g, 2, none⟩ v2).setCell ⟨g, 3, none⟩ v3).setCell ⟨g, 4, none⟩ v4).setCell ⟨g, 5, none⟩ v5).setCell ⟨g, 6, none⟩ v6).setCell ⟨g, 7, none⟩ v7).setCell ⟨g, 8, none⟩ v8) g #[v0, v1, v2, v3, v4, v5, v6, v7, v8] t := hrow.setCell h7 8 v8
 exact hrow_drew h8
theorem set9_bel {B : Nat} {w W : World} {g : Nat} (h : Below B w W) (hg : B ≤ g) (v0 v1 v2 v3 v4 v5 v6 v7 v8 : Value) : Below B w (((((((((W.setCell ⟨g, 0, none⟩ v0).setCell ⟨g, 1, none⟩ v1).setCell ⟨g, 2, none⟩ v2).setCell ⟨g, 3, none⟩ v3).setCell ⟨g, 4, none⟩ v4).setCell ⟨g, 5, none⟩ v5).setCell ⟨g, 6, none⟩ v6).setCell ⟨g, 7, none⟩ v7).setCell ⟨g, 8, none⟩ v8).drew := (((((((((h.setCell (p := ⟨g, 0, none⟩) hg v0).setCell (p := ⟨g, 1, none⟩) hg v1).setCell (p := ⟨g, 2, none⟩) hg v2).setCell (p := ⟨g, 3, none⟩) hg v3).setCell (p := ⟨g, 4, none⟩) hg v4).setCell (p := ⟨g, 5, none⟩) hg v5).setCell (p := ⟨g, 6, none⟩) hg v6).setCell (p := ⟨g, 7, none⟩) hg v7).setCell (p := ⟨g, 8, none⟩) hg v8).drew
theorem rnext_any (s : ByteArray) (a : Int) (w : World) (hs : s.size ≤ 1000000) : Calls Tryz.prog 74 #[.string s, .int .i64 a] w fun e w' => e = .returned (nxV (nxA s.data.toList a)) ∧ Below w.heap.size w w' := by
 have HB := Lib.hid ((Below.refl w.heap.size w).alloc (Nat.le_refl _) (.cells #[.int .i64 0, .int .i64 0, .int .i64 0, .string ⟨#[]⟩, .int .i64 0, .int .u64 0, .int .u64 0, .int .u64 0, .int .u64 0] 119))
 have HR := Lib.hid (show hrow (w.alloc (.cells #[.int .i64 0, .int .i64 0, .int .i64 0, .string ⟨#[]⟩, .int .i64 0, .int .u64 0, .int .u64 0, .int .u64 0, .int .u64 0] 119)) w.heap.size wd0 119 from hrow.new _ _ _)
 by_cases h : a < 0
 ·have HE : Hid (nxA s.data.toList a = none) := nxA_out (.inl h)
  go_enter Tryz.func74, Tryz.ntmps74
  go_wp2_with (first
   | (with_reducible refine store_rword rfl (.tmp 4) (.tmp 15) rfl w.heap.size _ _ _ _ _ _ _ _ _ rfl rfl HR.out ?_))
  refine bodyPost_ret (results_rword2 rfl _ _ w.heap.size _ _ rfl rfl HR.out rfl) rfl ?_
  exact ⟨by rw [HE.out]; rfl, below_setRow HB.out (Nat.le_refl _) _⟩
 by_cases h2 : (s.size : Int) < a
 ·have HE : Hid (nxA s.data.toList a = none) := nxA_out (.inr (by rw [ba_len]; exact h2))
  go_enter Tryz.func74, Tryz.ntmps74
  go_wp2_with (first
   | (with_reducible refine store_rword rfl (.tmp 4) (.tmp 15) rfl w.heap.size _ _ _ _ _ _ _ _ _ rfl rfl HR.out ?_))
  refine bodyPost_ret (results_rword2 rfl _ _ w.heap.size _ _ rfl rfl HR.out rfl) rfl ?_
  exact ⟨by rw [HE.out]; rfl, below_setRow HB.out (Nat.le_refl _) _⟩
 obtain ⟨k, rfl⟩ : ∃ k : Nat, a = k := ⟨a.toNat, by omega⟩
 have hk : k ≤ s.size := by omega
 have HE : Hid (nxA s.data.toList k = nextW s.data.toList k) := nxA_in (by rw [ba_len]; exact hk)
 obtain ⟨K, hK⟩ : ∃ K, K = k + skp false (s.data.toList.drop k) := ⟨_, rfl⟩
 have hKs : K ≤ s.size := by have := skp_le (s.data.toList.drop k) false; rw [List.length_drop, ba_len] at this; omega
 have HN : Hid (nextW s.data.toList k = (wordR (s.data.toList.drop K)).map fun r => r.at K) := by unfold Hid nextW; rw [← hK]
 have HSk := Lib.hid (fun x => rskip_any s k x hs)
 rw [skA_in (by rw [ba_len]; exact hk), show ((k : Int) + (skp false (s.data.toList.drop k) : Nat)) = K by omega] at HSk
 have HW := Lib.hid (fun x => rword_any s K x hs hKs)
 clear hK hs
 go_enter Tryz.func74, Tryz.ntmps74
 go_wp2_with fail
 refine (HSk.out _).mono ?_
 rintro e x ⟨rfl, hb⟩
 have HB1 := Lib.hid (HB.out.trans (hb.mono HB.out.size))
 have HR1 := Lib.hid (HR.out.below hb)
 clear hb HSk HB HR
 go_wp2_with fail
 refine (HW.out _).mono ?_
 rintro e y ⟨rfl, hb⟩
 have HB2 := Lib.hid (HB1.out.trans (hb.mono HB1.out.size))
 have HR2 := Lib.hid (HR1.out.below hb)
 clear hb HW HB1 HR1
 cases hq : wordR (s.data.toList.drop K) with
 | none =>
  have HQ : Hid (nxA s.data.toList k = none) := by unfold Hid; rw [HE.out, HN.out, hq]; rfl
  unfold rqV wd0 wdA
  simp only []
  clear hq HE HN
  have hbl := (Below.refl y.heap.size y).alloc (Nat.le_refl _) (.cells #[.int .i64 0, .int .i64 0, .int .i64 0, .string ⟨#[]⟩, .int .i64 0, .int .u64 0, .int .u64 0, .int .u64 0, .int .u64 0] 119)
  have HW := Lib.hid (hrow.new y #[.int .i64 0, .int .i64 0, .int .i64 0, .string ⟨#[]⟩, .int .i64 0, .int .u64 0, .int .u64 0, .int .u64 0, .int .u64 0] 119)
  have HB3 := Lib.hid (HB2.out.trans (hbl.mono HB2.out.size))
  have HR3 := Lib.hid (show hrow _ w.heap.size wd0 119 from HR2.out.below hbl)
  have HG := Lib.hid (show w.heap.size ≠ y.heap.size by have := HR2.out.lt; omega)
  clear hbl HB2 HR2
  go_wp2_with fail
  generalize y.alloc (.cells #[.int .i64 0, .int .i64 0, .int .i64 0, .string ⟨#[]⟩, .int .i64 0, .int .u64 0, .int .u64 0, .int .u64 0, .int .u64 0] 119) = z at *
  generalize y.heap.size = g6 at *
  obtain ⟨p0, p1, p2, p3, p4, p5, p6, p7, p8⟩ := hrow.c9 HW.out
  obtain ⟨r0, r1, r2, r3, r4, r5, r6, r7, r8⟩ := hrow.c9 (show hrow z w.heap.size #[.int .i64 0, .int .i64 0, .int .i64 0, .string ⟨#[]⟩, .int .i64 0, .int .u64 0, .int .u64 0, .int .u64 0, .int .u64 0] 119 from HR3.out)
  obtain ⟨f0, f1, f2, f3, f4, f5, f6, f7, f8⟩ := hrow.f9 HR3.out
  have hg := HG.out
  go_region
  go_wp2_with fail
  refine bodyPost_ret (results_row2 rfl _ _ w.heap.size _ _ _ _ rfl (set9_row HR3.out _ _ _ _ _ _ _ _ _) Tryz.underlying119 rfl (rw_sz rfl)) rfl ?_
  exact ⟨by rw [HQ.out]; rfl, set9_bel HB3.out (Nat.le_refl _) _ _ _ _ _ _ _ _ _⟩
 | some r =>
  have HQ : Hid (nxA s.data.toList k = some (r.at K)) := by unfold Hid; rw [HE.out, HN.out, hq]; rfl
  have hkd : ((r.kind : Int) != 0) = true := by have := (wordR_len hq).2.1; simp; omega
  have HNX : Hid (((r.at K).nx : Int) = (K : Int) + r.n) := by show ((K + r.n : Nat) : Int) = _; omega
  unfold rqV wdv wdA
  simp only []
  clear hq HE HN
  generalize hXK : (r.kind : Int) = XK at *
  generalize hXN : (K : Int) + r.n = XN at *
  have HXK := Lib.hid hXK; clear hXK hXN
  have hbl := (Below.refl y.heap.size y).alloc (Nat.le_refl _) (.cells #[.int .i64 XK, .int .i64 K, .int .i64 XN, .string (tx r.tx), .int .i64 r.lv, .int .u64 (clsW r.cl 0), .int .u64 (clsW r.cl 1), .int .u64 (clsW r.cl 2), .int .u64 (clsW r.cl 3)] 119)
  have HW := Lib.hid (hrow.new y #[.int .i64 XK, .int .i64 K, .int .i64 XN, .string (tx r.tx), .int .i64 r.lv, .int .u64 (clsW r.cl 0), .int .u64 (clsW r.cl 1), .int .u64 (clsW r.cl 2), .int .u64 (clsW r.cl 3)] 119)
  have HB3 := Lib.hid (HB2.out.trans (hbl.mono HB2.out.size))
  have HR3 := Lib.hid (show hrow _ w.heap.size wd0 119 from HR2.out.below hbl)
  have HG := Lib.hid (show w.heap.size ≠ y.heap.size by have := HR2.out.lt; omega)
  clear hbl HB2 HR2
  go_wp2_with fail
  generalize y.alloc (.cells #[.int .i64 XK, .int .i64 K, .int .i64 XN, .string (tx r.tx), .int .i64 r.lv, .int .u64 (clsW r.cl 0), .int .u64 (clsW r.cl 1), .int .u64 (clsW r.cl 2), .int .u64 (clsW r.cl 3)] 119) = z at *
  generalize y.heap.size = g6 at *
  obtain ⟨p0, p1, p2, p3, p4, p5, p6, p7, p8⟩ := hrow.c9 HW.out
  obtain ⟨r0, r1, r2, r3, r4, r5, r6, r7, r8⟩ := hrow.c9 (show hrow z w.heap.size #[.int .i64 0, .int .i64 0, .int .i64 0, .string ⟨#[]⟩, .int .i64 0, .int .u64 0, .int .u64 0, .int .u64 0, .int .u64 0] 119 from HR3.out)
  obtain ⟨f0, f1, f2, f3, f4, f5, f6, f7, f8⟩ := hrow.f9 HR3.out
  have hg := HG.out
  go_region
  go_wp2_with fail
  refine bodyPost_ret (results_row2 rfl _ _ w.heap.size _ _ _ _ rfl (set9_row HR3.out _ _ _ _ _ _ _ _ _) Tryz.underlying119 rfl (rw_sz rfl)) rfl ?_
  refine ⟨?_, set9_bel HB3.out (Nat.le_refl _) _ _ _ _ _ _ _ _ _⟩
  rw [HQ.out]
  unfold nxV wdD wdA
  simp only []
  rw [HNX.out, show ((r.at K).kind : Int) = XK from HXK.out]
  rfl
end Go.Proofs.YthfefbmkgebmkaaGreatDoor
namespace Go.Proofs.YthfefbmkgebmkaaGreatDoor
open Go.RowKit
set_option maxRecDepth 100000
set_option maxHeartbeats 4000000

/-- What the reference tells of all words. -/
def RAllP (l : List UInt8) (w : World) (e : Ending) (w' : World) : Prop := match (wordsOf l).2 with
 | none => ∃ v, e = .returned (.tuple #[v, .int .i64 0, .int .i64 0]) ∧ Own w w' 119 9 v (wordsOf l).1.length ((wordsOf l).1.flatMap fun x => (wdD x).toList)
 | some p => e = .returned (.tuple #[.slice none 0 0, .int .i64 p, .int .i64 7]) ∧ Below w.heap.size w w'
theorem elemRw : Elem Tryz.prog 112 119 9 80 (.agg #[.int .i64 0, .int .i64 0, .int .i64 0, .string ⟨#[]⟩, .int .i64 0, .int .u64 0, .int .u64 0, .int .u64 0, .int .u64 0]) := ⟨by kernel_rfl, by kernel_rfl, by decide, by decide⟩
theorem cell_row_new' (W : World) (cs : Array Value) (t : TypeId) : ∀ (j : Nat) u, cs.toList[j]? = some u → (W.alloc (.cells cs t)).cell? ((⟨W.heap.size, 0, none⟩ : Addr).add j) = some u := cell_row_new W cs t
theorem rw_inf : (Tryz.prog.info? 119).map (fun i => (i.zero, i.size, i.bytes)) = some (some (.agg #[.int .i64 0, .int .i64 0, .int .i64 0, .string ⟨#[]⟩, .int .i64 0, .int .u64 0, .int .u64 0, .int .u64 0, .int .u64 0]), 9, 80) := by kernel_rfl
/-- One word more onto the row; a block that was laid behind the row is as it was. -/
theorem rappend_word {ops : Array Oper} {rest : List Oper} {o : Oper} {a : Act} {Q : Exit → Act → World → Prop} (hgd : o.guard = none) (s x : Operand)
 (ho : o.op = .call { callee := .builtin .append, args := #[s, x], argTypes := #[112, 112] })
 (w0 W0 W : World) (n : Nat) (xs : List Value) (v : Value) (hO : Own w0 W0 119 9 v n xs) (hbl : Below W0.heap.size W0 W) (g : Nat) (hg0 : W0.heap.size ≤ g) (ws : Array Value) (hW : hrow W g ws 119) (cs : Array Value) (hcs : cs.toList.length = 9) (h1 : ∀ u ∈ cs.toList, u.oneCell' = true) (hn : n ≤ 16385) (hs : a.eval s = v) (gg : Nat) (hgg : gg = W.heap.size) (hx : a.eval x = .slice (some ⟨gg, 0, none⟩) 1 1)
 (h : ∀ v' w1, Own w0 w1 119 9 v' (n + 1) (xs ++ cs.toList) → hrow w1 g ws 119 → wpList Tryz.prog ops Q rest (a.put o.dst v') w1) :
 wpList Tryz.prog ops Q (o :: rest) a (W.alloc (.cells cs 119)) := by
 subst hgg
 obtain ⟨i0, hi, hz0, hz1, hz2⟩ := info_parts rw_inf
 have hO2 := hO.below hbl
 refine wpList_append_own_at (W.alloc (.cells cs 119)) hgd s x 112 ho w0.heap.size 119 i0 _ 9 80 Tryz.underlying112 hi hz0 hz1 hz2 rfl (by decide) v n xs hs (hO2.1.alloc _) ⟨W.heap.size, 0, none⟩ 1 1 cs.toList hx (by rw [hcs]) (cell_row_new' W cs _) h1 (by unfold maxLen; omega) (by omega) (by have := hO2.2.size; simp; omega) ?_
 intro v' w1 hown hgrow _ _
 have hlt := hW.lt
 refine h v' w1 ⟨hown, ?_⟩ ?_
 ·exact (hO2.2.alloc hO2.2.size _).grown hgrow (by have := hO2.2.size; simp; omega) (fun k hk => (hO2.1.lt k hk).1)
 ·refine (hgrow.block g (by simp; omega) (fun e => ?_)).trans (hW.below ((Below.refl _ _).alloc (Nat.le_refl _) _))
  have := (hO.1.lt g e.symm).2
  omega
theorem rall_any (s : ByteArray) (w : World) (hs : s.size ≤ 16384) : Calls Tryz.prog 52 #[.string s] w fun e w' => RAllP s.data.toList w e w' := by
 have HS := Lib.hid hs
 have HN := Lib.hid (fun (k : Nat) x => rnext_any s k x (by omega))
 have HSk := Lib.hid (fun (k : Nat) x => rskip_any s k x (by omega))
 have hsI : ¬ (16384 : Int) < s.size := by omega
 have HBA := Lib.hid (ba_len s)
 clear hs
 go_enter Tryz.func52, Tryz.ntmps52
 go_wp2_with fail
 clear hsI
 go_loopw [5, 6] (fun v i wr => ∃ (k f : Nat) (pre : List Wd), k ≤ s.size ∧ i = .int .i64 k ∧ Hid (Own w wr 119 9 v pre.length (pre.flatMap fun x => (wdD x).toList) ∧ s.size < f + k ∧ pre.length ≤ k ∧ wordsOf s.data.toList = (pre ++ (wordsF s.data.toList f k).1, (wordsF s.data.toList f k).2))) (fun _ i _ => s.size + 1 - (intOf i).toNat)
 case atStart => exact ⟨0, s.size + 1, [], Nat.zero_le _, rfl, Own.nil w _ _, by omega, by simp, by unfold wordsOf; rw [HBA.out]; rfl⟩
 case round =>
  obtain ⟨k, f, pre, hk, rfl, HI⟩ := hrel
  have HO := Lib.hid HI.out.1
  obtain ⟨f, rfl⟩ : ∃ g, f = g + 1 := ⟨f - 1, by have := HI.out.2.1; omega⟩
  have HC := Lib.hid (HN.out k wr)
  have hkl : k ≤ s.data.toList.length := by rw [HBA.out]; exact hk
  rw [nxA_in hkl] at HC
  cases hq : nextW s.data.toList k with
  | none =>
   have HW : Hid ((wordsOf s.data.toList).2 = some (k + skp false (s.data.toList.drop k))) := by unfold Hid; rw [HI.out.2.2.2]; simp only [wordsF]; rw [hq]
   have HSk1 := Lib.hid (HSk.out k)
   rw [skA_in hkl, show ((k : Int) + (skp false (s.data.toList.drop k) : Nat)) = ((k + skp false (s.data.toList.drop k) : Nat) : Int) by omega] at HSk1
   have HB := Lib.hid HO.out.2
   rw [hq] at HC
   unfold nxV wd0 wdA at HC
   clear hq HI HSk HN
   generalize k + skp false (s.data.toList.drop k) = p at *
   go_wp2_with fail
   refine HC.out.mono ?_
   rintro e x ⟨rfl, hb⟩
   have HB1 := Lib.hid ((HB.out.trans (hb.mono HB.out.size)).alloc (HB.out.trans (hb.mono HB.out.size)).size (.cells #[.int .i64 0, .int .i64 0, .int .i64 0, .string ⟨#[]⟩, .int .i64 0, .int .u64 0, .int .u64 0, .int .u64 0, .int .u64 0] 119))
   clear hb HC HB HO
   go_wp2_with fail
   refine (HSk1.out _).mono ?_
   rintro e y ⟨rfl, hb⟩
   have HB2 := Lib.hid (HB1.out.trans (hb.mono HB1.out.size))
   go_wp2_with fail
   go_ret3
   unfold RAllP
   rw [HW.out]
   exact ⟨rfl, HB2.out⟩
  | some d =>
   obtain ⟨h1, h2, h3, h4, h5, h6, h7, h8⟩ := nextW_some hq hkl
   have HPL := Lib.hid (show pre.length ≤ 16384 by have := HI.out.2.2.1; have := HS.out; omega)
   have HBd := Lib.hid (show (pre.length + 1) * 80 ≤ 140737488355328 by have := HPL.out; omega)
   have HBd2 := Lib.hid (show pre.length + 1 ≤ maxLen by have := HPL.out; unfold maxLen; omega)
   have HPL2 := Lib.hid (show pre.length ≤ 16385 by have := HPL.out; omega)
   have HPk := Lib.hid HI.out.2.2.1
   have HFk := Lib.hid HI.out.2.1
   rw [hq] at HC
   unfold nxV wdD wdA at HC
   simp only [] at HC
   have HOne := Lib.hid (show ∀ u ∈ (#[.int .i64 d.kind, .int .i64 d.at_, .int .i64 d.nx, .string (tx d.tx), .int .i64 d.lv, .int .u64 (clsW d.cl 0), .int .u64 (clsW d.cl 1), .int .u64 (clsW d.cl 2), .int .u64 (clsW d.cl 3)] : Array Value).toList, u.oneCell' = true by simp [Value.oneCell'])
   by_cases hkd : d.kind = 1
   ·have HW1 : Hid (wordsOf s.data.toList = (pre ++ [d], none)) := by unfold Hid; rw [HI.out.2.2.2]; simp only [wordsF]; rw [hq]; simp only []; rw [if_pos hkd]
    have hXe : ((d.kind : Int) == 1) = true := by rw [hkd]; rfl
    have HCell : Hid ((pre.flatMap fun x => (wdD x).toList) ++ (#[.int .i64 d.kind, .int .i64 d.at_, .int .i64 d.nx, .string (tx d.tx), .int .i64 d.lv, .int .u64 (clsW d.cl 0), .int .u64 (clsW d.cl 1), .int .u64 (clsW d.cl 2), .int .u64 (clsW d.cl 3)] : Array Value).toList = (pre ++ [d]).flatMap fun x => (wdD x).toList) := by unfold Hid; rw [List.flatMap_append]; simp [wdD, wdA]
    clear hq HI HSk HN h1 h2 h3 h4 h5 h6 h7 h8 hkd
    generalize (d.kind : Int) = XK at *
    generalize (d.at_ : Int) = XA at *
    generalize (d.nx : Int) = XN at *
    go_wp2_with fail
    refine HC.out.mono ?_
    rintro e x ⟨rfl, hb⟩
    have HBL := Lib.hid (show Below wr.heap.size wr (x.alloc (.cells #[.int .i64 XK, .int .i64 XA, .int .i64 XN, .string (tx d.tx), .int .i64 d.lv, .int .u64 (clsW d.cl 0), .int .u64 (clsW d.cl 1), .int .u64 (clsW d.cl 2), .int .u64 (clsW d.cl 3)] 119)) from hb.alloc hb.size _)
    have HWx := Lib.hid (hrow.new x #[.int .i64 XK, .int .i64 XA, .int .i64 XN, .string (tx d.tx), .int .i64 d.lv, .int .u64 (clsW d.cl 0), .int .u64 (clsW d.cl 1), .int .u64 (clsW d.cl 2), .int .u64 (clsW d.cl 3)] 119)
    have HGG : Hid (x.heap.size + 1 = (x.alloc (.cells #[.int .i64 XK, .int .i64 XA, .int .i64 XN, .string (tx d.tx), .int .i64 d.lv, .int .u64 (clsW d.cl 0), .int .u64 (clsW d.cl 1), .int .u64 (clsW d.cl 2), .int .u64 (clsW d.cl 3)] 119)).heap.size) := by unfold Hid; simp
    have HG0 := Lib.hid hb.size
    clear hb HC
    go_wp2_with (at_builtin; refine rappend_word rfl (.tmp 23) (.tmp 25) rfl w wr _ pre.length _ _ HO.out HBL.out x.heap.size HG0.out _ HWx.out #[.int .i64 XK, .int .i64 XA, .int .i64 XN, .string (tx d.tx), .int .i64 d.lv, .int .u64 (clsW d.cl 0), .int .u64 (clsW d.cl 1), .int .u64 (clsW d.cl 2), .int .u64 (clsW d.cl 3)] rfl HOne.out HPL2.out rfl _ HGG.out rfl ?_; intro v' w8 hO8 hw8; have HO8 := Lib.hid hO8; have c0 := hrow.cell hw8 0; have c2 := hrow.cell hw8 2; clear hO8 hw8)
    go_ret3
    unfold RAllP
    rw [HW1.out]
    refine ⟨_, rfl, ?_⟩
    rw [← HCell.out, List.length_append]
    exact HO8.out
   ·have hat : d.at_ ≠ d.nx := fun e => hkd (h7.1 e.symm)
    have HW1 : Hid (wordsOf s.data.toList = ((pre ++ [d]) ++ (wordsF s.data.toList f d.nx).1, (wordsF s.data.toList f d.nx).2)) := by unfold Hid; rw [HI.out.2.2.2]; simp only [wordsF]; rw [hq]; simp only []; rw [if_neg hkd]; simp
    have hXe : ((d.kind : Int) == 1) = false := by rw [beq_eq_false_iff_ne]; omega
    have HCell : Hid ((pre.flatMap fun x => (wdD x).toList) ++ (#[.int .i64 d.kind, .int .i64 d.at_, .int .i64 d.nx, .string (tx d.tx), .int .i64 d.lv, .int .u64 (clsW d.cl 0), .int .u64 (clsW d.cl 1), .int .u64 (clsW d.cl 2), .int .u64 (clsW d.cl 3)] : Array Value).toList = (pre ++ [d]).flatMap fun x => (wdD x).toList) := by unfold Hid; rw [List.flatMap_append]; simp [wdD, wdA]
    have HNx : Hid (k < d.nx ∧ d.nx ≤ s.size) := ⟨by omega, by rw [← HBA.out]; exact h4⟩
    clear hq HI HSk HN h1 h2 h3 h4 h5 h6 h7 h8 hkd hat
    generalize (d.kind : Int) = XK at *
    generalize (d.at_ : Int) = XA at *
    generalize hXN : (d.nx : Int) = XN at *
    have HXN := Lib.hid hXN; clear hXN
    go_wp2_with fail
    refine HC.out.mono ?_
    rintro e x ⟨rfl, hb⟩
    have HBL := Lib.hid (show Below wr.heap.size wr (x.alloc (.cells #[.int .i64 XK, .int .i64 XA, .int .i64 XN, .string (tx d.tx), .int .i64 d.lv, .int .u64 (clsW d.cl 0), .int .u64 (clsW d.cl 1), .int .u64 (clsW d.cl 2), .int .u64 (clsW d.cl 3)] 119)) from hb.alloc hb.size _)
    have HWx := Lib.hid (hrow.new x #[.int .i64 XK, .int .i64 XA, .int .i64 XN, .string (tx d.tx), .int .i64 d.lv, .int .u64 (clsW d.cl 0), .int .u64 (clsW d.cl 1), .int .u64 (clsW d.cl 2), .int .u64 (clsW d.cl 3)] 119)
    have HGG : Hid (x.heap.size + 1 = (x.alloc (.cells #[.int .i64 XK, .int .i64 XA, .int .i64 XN, .string (tx d.tx), .int .i64 d.lv, .int .u64 (clsW d.cl 0), .int .u64 (clsW d.cl 1), .int .u64 (clsW d.cl 2), .int .u64 (clsW d.cl 3)] 119)).heap.size) := by unfold Hid; simp
    have HG0 := Lib.hid hb.size
    clear hb HC
    go_wp2_with (at_builtin; refine rappend_word rfl (.tmp 23) (.tmp 25) rfl w wr _ pre.length _ _ HO.out HBL.out x.heap.size HG0.out _ HWx.out #[.int .i64 XK, .int .i64 XA, .int .i64 XN, .string (tx d.tx), .int .i64 d.lv, .int .u64 (clsW d.cl 0), .int .u64 (clsW d.cl 1), .int .u64 (clsW d.cl 2), .int .u64 (clsW d.cl 3)] rfl HOne.out HPL2.out rfl _ HGG.out rfl ?_; intro v' w8 hO8 hw8; have HO8 := Lib.hid hO8; have c0 := hrow.cell hw8 0; have c2 := hrow.cell hw8 2; clear hO8 hw8)
    go_roundw
    case rel => exact ⟨d.nx, f, pre ++ [d], HNx.out.2, by rw [← HXN.out], by rw [← HCell.out, List.length_append]; exact HO8.out, by have := HFk.out; have := HNx.out; omega, by have := HPk.out; have := HNx.out; simp; omega, HW1.out⟩
    case measure => have := HNx.out; have := HXN.out; simp [intOf]; omega
end Go.Proofs.YthfefbmkgebmkaaGreatDoor
namespace Go.Proofs.YthfefbmkgebmkaaGreatDoor
open Go.RowKit
set_option maxRecDepth 100000
set_option maxHeartbeats 4000000

theorem treeq_ld {y : World} {g : Nat} {v1 v2 v3 v4 v5 : Value} (h : hrow y g #[v1, v2, v3, v4, v5] 78) : (loadVar 78 ⟨g, 0, none⟩).run Tryz.prog y = .ok (.agg #[v1, v2, v3, v4, v5]) y :=
 run_loadVar_row (P := Tryz.prog) y g _ _ _ _ _ h Tryz.underlying78 rfl (by show _ = some 5; decide +kernel)
theorem stores7q {x : World} {g2 g3 : Nat} {b0 b1 b2 b3 b4 d0 d1 : Value} (u0 u1 u2 u3 u4 t0 t1 : Value) (h2 : hrow x g2 #[b0, b1, b2, b3, b4] 78) (h3 : hrow x g3 #[d0, d1] 33) (hne : g2 ≠ g3) :
  ∃ z, ((((((x.setCell ⟨g2, 0, none⟩ u0).setCell ⟨g2, 1, none⟩ u1).setCell ⟨g2, 2, none⟩ u2).setCell ⟨g2, 3, none⟩ u3).setCell ⟨g2, 4, none⟩ u4).setCell ⟨g3, 0, none⟩ t0).setCell ⟨g3, 1, none⟩ t1 = z ∧ hrow z g2 #[u0, u1, u2, u3, u4] 78 ∧ hrow z g3 #[t0, t1] 33 ∧ Fr (fun k => k = g2 ∨ k = g3) x z := by
 have hA : hrow (((((x.setCell ⟨g2, 0, none⟩ u0).setCell ⟨g2, 1, none⟩ u1).setCell ⟨g2, 2, none⟩ u2).setCell ⟨g2, 3, none⟩ u3).setCell ⟨g2, 4, none⟩ u4) g2 #[u0, u1, u2, u3, u4] 78 := ((((h2.setCell 0 u0).setCell 1 u1).setCell 2 u2).setCell 3 u3).setCell 4 u4
 have hF : Fr (fun k => k = g2) x (((((x.setCell ⟨g2, 0, none⟩ u0).setCell ⟨g2, 1, none⟩ u1).setCell ⟨g2, 2, none⟩ u2).setCell ⟨g2, 3, none⟩ u3).setCell ⟨g2, 4, none⟩ u4) := ((((Fr.setCell x ⟨g2, 0, none⟩ u0).trans (Fr.setCell _ ⟨g2, 1, none⟩ u1) (fun _ _ h => h)).trans (Fr.setCell _ ⟨g2, 2, none⟩ u2) (fun _ _ h => h)).trans (Fr.setCell _ ⟨g2, 3, none⟩ u3) (fun _ _ h => h)).trans (Fr.setCell _ ⟨g2, 4, none⟩ u4) (fun _ _ h => h)
 generalize (((((x.setCell ⟨g2, 0, none⟩ u0).setCell ⟨g2, 1, none⟩ u1).setCell ⟨g2, 2, none⟩ u2).setCell ⟨g2, 3, none⟩ u3).setCell ⟨g2, 4, none⟩ u4) = y at hA hF ⊢
 have h3' : hrow y g3 #[d0, d1] 33 := h3.fr hF (fun e => hne e.symm)
 have hf2 : Fr (fun k => k = g3) y ((y.setCell ⟨g3, 0, none⟩ t0).setCell ⟨g3, 1, none⟩ t1) := (Fr.setCell y ⟨g3, 0, none⟩ t0).trans (Fr.setCell _ ⟨g3, 1, none⟩ t1) (fun _ _ h => h)
 exact ⟨_, rfl, hA.fr hf2 (fun e => hne e), (h3'.setCell 0 t0).setCell 1 t1, (hF.weak (fun _ h => .inl h)).trans hf2 (fun _ _ h => .inr h)⟩
theorem RqW.start {x : World} {L : List Wd} {ao : Option Addr} {cap : Nat} (h : Sv x ao L.length cap 9 (L.flatMap fun y => (wdD y).toList)) (hp : 0 < L.length) : RqW L (x.heap.size + 1) x.heap.size 0 (0 : Nat) 0 0 (x.alloc (.cells #[.slice ao L.length cap, .int .i64 0, .int .i64 0, .int .i64 0, .int .i64 0] 117)) := by
 have hb := (Below.refl x.heap.size x).alloc (Nat.le_refl _) (.cells #[.slice ao L.length cap, .int .i64 0, .int .i64 0, .int .i64 0, .int .i64 0] 117)
 refine ⟨⟨ao, cap, hrow.new x _ _, h.below hb, fun a ha => ?_⟩, Nat.lt_succ_self _, by rw [World.size_alloc]; exact Nat.le_refl _⟩
 obtain ⟨p, hp2, hc⟩ := Sv.at wdD_len h (by decide) 0 hp
 rw [ha] at hp2; cases hp2
 have := World.block_lt_of_cell? x _ (hc 0 _ rfl)
 rwa [add_block, add_block] at this
/-- What comes of the rules from here on. -/
def CnT (L : List Wd) (rr : Rs (List (Wd × Pt))) (R : List Rr) (N : List Rn) (j e a : Nat) : Prop :=
 (e = 0 ∧ a = 0 ∧ ∃ acc g, R = (treeF 0 acc).1 ∧ N = (treeF 0 acc).2 ∧ (if acc = [] then rulsP L (6 * L.length + 4) (g + 1) [] j = some rr else contP L (6 * L.length + 4) g acc j = some rr)) ∨ (e ≠ 0 ∧ rr = .err e a)
theorem treeF_len1 : ∀ (n : Nat) (l : List (Wd × Pt)), (treeF n l).1.length = l.length
 | n, [] => rfl
 | n, (w, p) :: l => by simp only [treeF, List.length_cons, treeF_len1]
/-- A rule is asked for. -/
theorem CnT.ask {L : List Wd} {rr : Rs (List (Wd × Pt))} {R : List Rr} {N : List Rn} {j a : Nat} (h : CnT L rr R N j 0 a) (hg : R.length = 0 ∨ (wdAt L j).kind ≠ 1) :
  a = 0 ∧ ∃ r1, rulP L (6 * L.length + 4) j = some r1 ∧ (∀ wd p k, r1 = .ok (wd, p) k → CnT L rr (R ++ [⟨wd.tx, N.length, wd.at_⟩]) (N ++ flat N.length p) k 0 0) ∧ (∀ (R' : List Rr) (N' : List Rn) (k x y : Nat), r1 = .err x y → x ≠ 0 → CnT L rr R' N' k x y) := by
 rcases h with ⟨-, ha, acc, g, hR, hN, hc⟩ | ⟨h, -⟩
 ·have hc2 : ∃ g', rulsP L (6 * L.length + 4) (g' + 1) acc j = some rr := by
   by_cases hac : acc = []
   ·rw [if_pos hac] at hc; subst hac; exact ⟨g, hc⟩
   ·rw [if_neg hac] at hc
    have hk : (wdAt L j).kind ≠ 1 := by
     rcases hg with h0 | h0
     ·rw [hR, treeF_len1] at h0; exact absurd (List.eq_nil_of_length_eq_zero h0) hac
     ·exact h0
    unfold contP at hc
    rw [if_neg hk] at hc
    cases g with
    | zero => simp [rulsP] at hc
    | succ g => exact ⟨g, hc⟩
  obtain ⟨g', hc2⟩ := hc2
  rw [rulsP_cont] at hc2
  refine ⟨ha, ?_⟩
  cases hq : rulP L (6 * L.length + 4) j with
  | none => rw [hq] at hc2; cases hc2
  | some r1 =>
   rw [hq] at hc2
   refine ⟨r1, rfl, fun wd p k e => ?_, fun R' N' k x y e hx => ?_⟩
   ·subst e
    have hs := treeF_snoc 0 acc wd p
    simp only [Nat.zero_add] at hs
    refine .inl ⟨rfl, rfl, acc ++ [(wd, p)], g', by rw [hs, hR, hN], by rw [hs, hN], ?_⟩
    rw [if_neg (by simp)]
    exact hc2
   ·subst e
    exact .inr ⟨hx, (Option.some.inj hc2).symm⟩
 ·exact absurd rfl h
/-- No more. -/
theorem CnT.done {L : List Wd} {rr : Rs (List (Wd × Pt))} {R : List Rr} {N : List Rn} {j a : Nat} (h : CnT L rr R N j 0 a) (h0 : R.length ≠ 0) (hk : (wdAt L j).kind = 1) : ∃ acc, rr = .ok acc j ∧ R = (treeF 0 acc).1 ∧ N = (treeF 0 acc).2 := by
 rcases h with ⟨-, ha, acc, g, hR, hN, hc⟩ | ⟨h, -⟩
 ·have hac : acc ≠ [] := fun e => by subst e; rw [hR] at h0; exact h0 rfl
  rw [if_neg hac] at hc
  unfold contP at hc
  rw [if_pos hk] at hc
  exact ⟨acc, (Option.some.inj hc).symm, hR, hN⟩
 ·exact absurd rfl h
theorem CnT.bad {L : List Wd} {rr : Rs (List (Wd × Pt))} {R : List Rr} {N : List Rn} {j e a : Nat} (h : CnT L rr R N j e a) (he : e ≠ 0) : rr = .err e a := by
 rcases h with ⟨h, -⟩ | ⟨-, h⟩
 ·exact absurd h he
 ·exact h
/-- A rule, as the document goes about it. -/
theorem rulP_as {L : List Wd} {f j : Nat} {r1 : Rs (Wd × Pt)} (h : rulP L f j = some r1) (hk : (wdAt L j).kind = 2) (hl : (wdAt L j).lv < 0) {i1 e1 a1 : Nat} (hw1 : hereW L (j + 1) [60, 45] = true → i1 = j + 1 + 1 ∧ e1 = 0 ∧ a1 = 0) (hw0 : hereW L (j + 1) [60, 45] = false → i1 = j + 1 ∧ e1 = 7 ∧ a1 = (wdAt L (j + 1)).at_) :
  ∃ ra, ((e1 = 0 ∧ a1 = 0 ∧ prs L f .alt [] i1 0 = some ra) ∨ (e1 ≠ 0 ∧ ra = .err e1 a1)) ∧ ∀ (p : Pt) (i2 e2 a2 i3 e3 a3 : Nat), (match (generalizing := false) ra with | .ok q k => p = q ∧ i2 = k ∧ e2 = 0 ∧ a2 = 0 | .err x y => e2 = x ∧ a2 = y ∧ x ≠ 0) →
   (e2 = 0 → hereW L i2 [59] = true → i3 = i2 + 1 ∧ e3 = 0 ∧ a3 = a2) → (e2 = 0 → hereW L i2 [59] = false → i3 = i2 ∧ e3 = 7 ∧ a3 = (wdAt L i2).at_) → (e2 ≠ 0 → i3 = i2 ∧ e3 = e2 ∧ a3 = a2) →
   (e3 = 0 ∧ a3 = 0 ∧ r1 = .ok (wdAt L j, p) i3) ∨ (e3 ≠ 0 ∧ r1 = .err e3 a3) := by
 unfold rulP at h
 simp only [] at h
 rw [if_neg (by omega)] at h
 cases hh : hereW L (j + 1) [60, 45] with
 | false =>
  obtain ⟨h1, h2, h3⟩ := hw0 hh
  rw [hh, if_neg (by decide)] at h
  have hr := Option.some.inj h
  refine ⟨.err e1 a1, .inr ⟨by omega, rfl⟩, fun p i2 e2 a2 i3 e3 a3 hm g1 g2 g3 => ?_⟩
  obtain ⟨m1, m2, m3⟩ := hm
  obtain ⟨k1, k2, k3⟩ := g3 (by omega)
  exact .inr ⟨by omega, by rw [← hr, k2, k3, m1, m2, h2, h3]⟩
 | true =>
  obtain ⟨h1, h2, h3⟩ := hw1 hh
  rw [hh, if_pos rfl] at h
  subst h1
  cases hq : prs L f .alt [] (j + 2) 0 with
  | none => rw [hq] at h; cases h
  | some ra =>
   rw [hq] at h
   refine ⟨ra, .inl ⟨h2, h3, rfl⟩, fun p i2 e2 a2 i3 e3 a3 hm g1 g2 g3 => ?_⟩
   cases ra with
   | err x y =>
    obtain ⟨m1, m2, m3⟩ := hm
    obtain ⟨k1, k2, k3⟩ := g3 (by omega)
    have hr := Option.some.inj h
    exact .inr ⟨by omega, by rw [← hr, k2, k3, m1, m2]⟩
   | ok q k =>
    obtain ⟨m1, m2, m3, m4⟩ := hm
    subst m1 m2
    simp only [] at h
    cases hs : hereW L i2 [59] with
    | true =>
     rw [hs, if_pos rfl] at h
     obtain ⟨k1, k2, k3⟩ := g1 m3 hs
     exact .inl ⟨k2, by rw [k3, m4], by rw [← Option.some.inj h, k1]⟩
    | false =>
     rw [hs, if_neg (by decide)] at h
     obtain ⟨k1, k2, k3⟩ := g2 m3 hs
     exact .inr ⟨by omega, by rw [← Option.some.inj h, k2, k3]⟩
/-- Between two rules. -/
structure RqI (L : List Wd) (gr gt g2 : Nat) (w wr : World) (τ : Nat → Nat) (R : List Rr) (N : List Rn) (NK : List Nk) (j e a : Nat) : Prop where
 tr : TqW wr gt τ R N NK NK
 nk : NK.map (·.1) = N.map Rn.nd
 rd : RqW L (gr + 1) gr j (0 : Nat) e a wr
 ap : Ap τ gr gt
 lt : j < L.length
 nb : N.length ≤ 2 * j
 rb : R.length ≤ j
 z2 : hrow wr g2 #[.slice none 0 0, .slice none 0 0, .slice none 0 0, .slice none 0 0, .slice none 0 0] 78
 z3 : hrow wr (g2 + 1) #[.int .i64 0, .int .i64 0] 33
 lo : Below w.heap.size w wr
 fresh : ∀ k, τ k ≠ 0 → w.heap.size ≤ k
 g3 : g2 + 1 < gt
 le : w.heap.size ≤ g2
theorem RqI.below {L : List Wd} {gr gt g2 j e a : Nat} {w wr w' : World} {τ : Nat → Nat} {R : List Rr} {N : List Rn} {NK : List Nk} (h : RqI L gr gt g2 w wr τ R N NK j e a) (hb : Below wr.heap.size wr w') : RqI L gr gt g2 w w' τ R N NK j e a :=
 ⟨h.tr.below hb, h.nk, h.rd.below hb, h.ap, h.lt, h.nb, h.rb, h.z2.below hb, h.z3.below hb, h.lo.trans (hb.mono h.lo.size), h.fresh, h.g3, h.le⟩
/-- The reader alone has turned. -/
theorem RqI.call {L : List Wd} {gr gt g2 j e a j' e' a' : Nat} {w wr w' : World} {τ : Nat → Nat} {R : List Rr} {N : List Rn} {NK : List Nk} (h : RqI L gr gt g2 w wr τ R N NK j e a) (hf : Fr (fun k => k = gr) wr w') (hq : RqW L (gr + 1) gr j' (0 : Nat) e' a' w') (hlt : j' < L.length) (hjj : j ≤ j') : RqI L gr gt g2 w w' τ R N NK j' e' a' := by
 have h1 := h.ap.1; have h2 := h.g3; have h3 := h.le
 have h4 : τ gr = 0 := h.ap.2 gr (Nat.le_refl _) (Nat.ne_of_gt h1)
 exact ⟨h.tr.fr hf (fun k hk ht e => by subst e; exact ht h4), h.nk, hq, h.ap, hlt, by have := h.nb; omega, by have := h.rb; omega, h.z2.fr hf (fun e => by omega), h.z3.fr hf (fun e => by omega), h.lo.trans (hf.below h.lo.size (fun k hk e => by omega)), h.fresh, h.g3, h.le⟩
/-- The tree alone has turned. -/
theorem RqI.turn {L : List Wd} {gr gt g2 j e a : Nat} {w wr w' : World} {τ τ' : Nat → Nat} {R R' : List Rr} {N N' : List Rn} {NK NK' : List Nk} (h : RqI L gr gt g2 w wr τ R N NK j e a) (ht : TqW w' gt τ' R' N' NK' NK') (hnk : NK'.map (·.1) = N'.map Rn.nd) (hf : Fr (fun k => τ k ≠ 0) wr w') (ho : ∀ k, k < wr.heap.size → τ' k = τ k) (hnb : N'.length ≤ 2 * j) (hrb : R'.length ≤ j) : RqI L gr gt g2 w w' τ' R' N' NK' j e a := by
 have h1 := h.ap.1; have h2 := h.g3; have h3 := h.le; have h5 := h.rd.lt; have h6 := h.rd.le; have h7 := h.lo.size
 have hp : 0 < L.length := Nat.lt_of_le_of_lt (Nat.zero_le _) h.lt
 have z2 : τ g2 = 0 := h.ap.2 g2 (by omega) (by omega)
 have z3 : τ (g2 + 1) = 0 := h.ap.2 (g2 + 1) (by omega) (by omega)
 obtain ⟨a1, a2, a3, a4, a5, d1, d2, d3, d4, d5, hI⟩ := h.tr.start (Fr.refl (fun k => τ k ≠ 0) wr) (fun _ _ => rfl)
 refine ⟨ht, hnk, h.rd.frT hf h.ap hI.obj hp, ⟨h1, fun k hk hn => by rw [ho k (by omega)]; exact h.ap.2 k hk hn⟩, h.lt, hnb, hrb, h.z2.fr hf (fun e => e z2), h.z3.fr hf (fun e => e z3), h.lo.trans (hf.below h7 (fun k hk e => by have := h.fresh k e; omega)), fun k hk => ?_, h.g3, h.le⟩
 rcases Nat.lt_or_ge k wr.heap.size with hk1 | hk1
 ·rw [ho k hk1] at hk; exact h.fresh k hk
 ·omega
end Go.Proofs.YthfefbmkgebmkaaGreatDoor
