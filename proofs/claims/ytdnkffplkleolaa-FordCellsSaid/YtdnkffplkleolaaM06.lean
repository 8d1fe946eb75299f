/- Walks and plain laws: La Lb Lc Ld. -/
import Derived.Test.YtdnkffplkleolaaM05
import Derived.BigRegion
namespace Go.Proofs.Ytdnkffplkleolaa
open Go.RowKit
set_option maxRecDepth 100000
set_option maxHeartbeats 2000000

theorem elemI : Elem Try.prog 55 3 1 8 (.int .i64 0) := ⟨by kernel_rfl, by kernel_rfl, rfl, by decide⟩
theorem elemNo : Elem Try.prog 23 57 9 96 (.agg #[.int .i64 0, .int .u64 0, .int .u64 0, .int .u64 0, .int .u64 0, .string es0, .int .i64 0, .int .i64 0, .slice none 0 0]) := ⟨by kernel_rfl, infoNo, rfl, by decide⟩
theorem Own.sl {w0 w : World} {e : TypeId} {s n : Nat} {v : Value} {xs : List Value} (h : Own w0 w e s v n xs) : ∃ o c, v = .slice o n c ∧ w.ownsRow w0.heap.size e s (.slice o n c) n xs := by
 obtain ⟨o, c, rfl, _⟩ := h.sv; exact ⟨o, c, rfl, h.1⟩

theorem copyIn_any (w : World) (ao : Option Addr) (n cap : Nat) (W : List Int) (hs : Sv w ao n cap 1 (inc W)) (hbig : n ≤ 100000) :
  Calls Try.prog 71 #[.slice ao n cap] w fun r w' => ∃ bo bc, r = .returned (.slice bo n bc) ∧ w'.ownsRow w.heap.size 3 1 (.slice bo n bc) n (inc W) ∧ Below w.heap.size w w' := by
 have HS := Lib.hid hs
 have HO := Lib.hid (inc_one W)
 have HLn : Hid ((0 + n) * 8 ≤ 140737488355328 ∧ 0 + n ≤ maxLen) := ⟨by omega, by simp only [maxLen]; omega⟩
 have hb := hs.bound
 clear hs hbig
 go_enter Try.func71, Try.ntmps71
 go_wp2_with (at_builtin; refine wpList_apps w w rfl _ _ 55 3 rfl elemI _ 0 [] rfl (Own.nil w 3 1) ao n cap (inc W) rfl HS.out HO.out HLn.out.1 HLn.out.2 ?_; intro v' w1 hO1; have HO1 := Lib.hid hO1; clear hO1)
 rw [Nat.zero_add, List.nil_append] at HO1
 obtain ⟨bo, bc, rfl, ho⟩ := HO1.out.sl
 go_wp2_with fail
 go_ret
 exact ⟨bo, bc, rfl, ho, HO1.out.2⟩

theorem copyNo_any (w : World) (x : Nd) (ao : Option Addr) (cap : Nat) (hs : Sv w ao x.kids.length cap 1 (inc x.kids)) (hbig : x.kids.length ≤ 100000) :
  Calls Try.prog 60 #[.agg #[.int .i64 x.kind, .int .u64 x.c0, .int .u64 x.c1, .int .u64 x.c2, .int .u64 x.c3, .string x.text, .int .i64 x.rule, .int .i64 x.lev, .slice ao x.kids.length cap]] w fun r w' => ∃ bo bc, r = .returned (.agg #[.int .i64 x.kind, .int .u64 x.c0, .int .u64 x.c1, .int .u64 x.c2, .int .u64 x.c3, .string x.text, .int .i64 x.rule, .int .i64 x.lev, .slice bo x.kids.length bc]) ∧ w'.ownsRow w.heap.size 3 1 (.slice bo x.kids.length bc) x.kids.length (inc x.kids) ∧ Below w.heap.size w w' := by
 have HL := Lib.hid (fun w' (hb : Below w.heap.size w w') => copyIn_any w' ao x.kids.length cap x.kids (hs.below hb) hbig)
 have HB0 := Lib.hid (al2 (Below.refl w.heap.size w) (.cells #[.int .i64 x.kind, .int .u64 x.c0, .int .u64 x.c1, .int .u64 x.c2, .int .u64 x.c3, .string x.text, .int .i64 x.rule, .int .i64 x.lev, .slice ao x.kids.length cap] 57) (.cells #[.int .i64 0, .int .u64 0, .int .u64 0, .int .u64 0, .int .u64 0, .string ⟨#[]⟩, .int .i64 0, .int .i64 0, .slice none 0 0] 57))
 have HA0 := Lib.hid ((hrow.new w #[.int .i64 x.kind, .int .u64 x.c0, .int .u64 x.c1, .int .u64 x.c2, .int .u64 x.c3, .string x.text, .int .i64 x.rule, .int .i64 x.lev, .slice ao x.kids.length cap] 57).below ((Below.refl _ _).alloc (Nat.le_refl _) (.cells #[.int .i64 0, .int .u64 0, .int .u64 0, .int .u64 0, .int .u64 0, .string ⟨#[]⟩, .int .i64 0, .int .i64 0, .slice none 0 0] 57)))
 have HZ0 : Hid (hrow ((w.alloc (.cells #[.int .i64 x.kind, .int .u64 x.c0, .int .u64 x.c1, .int .u64 x.c2, .int .u64 x.c3, .string x.text, .int .i64 x.rule, .int .i64 x.lev, .slice ao x.kids.length cap] 57)).alloc (.cells #[.int .i64 0, .int .u64 0, .int .u64 0, .int .u64 0, .int .u64 0, .string ⟨#[]⟩, .int .i64 0, .int .i64 0, .slice none 0 0] 57)) (w.heap.size + 1) #[.int .i64 0, .int .u64 0, .int .u64 0, .int .u64 0, .int .u64 0, .string ⟨#[]⟩, .int .i64 0, .int .i64 0, .slice none 0 0] 57) := by have h := hrow.new (w.alloc (.cells #[.int .i64 x.kind, .int .u64 x.c0, .int .u64 x.c1, .int .u64 x.c2, .int .u64 x.c3, .string x.text, .int .i64 x.rule, .int .i64 x.lev, .slice ao x.kids.length cap] 57)) #[.int .i64 0, .int .u64 0, .int .u64 0, .int .u64 0, .int .u64 0, .string ⟨#[]⟩, .int .i64 0, .int .i64 0, .slice none 0 0] 57; rwa [World.size_alloc] at h
 have hkb := hs.bound
 clear hs hbig
 go_enter Try.func60, Try.ntmps60
 go_upto_region 1 with (fail)
 revert HB0 HA0 HZ0
 generalize (w.alloc _).alloc _ = w1
 generalize hh1 : w.heap.size + 1 = h1
 generalize hh0 : w.heap.size = h0
 intro HB0 HA0 HZ0
 have HH : Hid (w.heap.size = h0 ∧ h0 + 1 = h1) := ⟨hh0, by omega⟩
 have hne : h0 ≠ h1 := by omega
 have HB1 : Hid (Below w.heap.size w w1) := by rw [hh0]; exact HB0.out
 clear HB0 hh0 hh1
 have HL1 := Lib.hid (HL.out w1 HB1.out)
 have a8 : w1.cell? ⟨h0, 8, none⟩ = some (.slice ao x.kids.length cap) := HA0.out.cell 8
 clear HL
 go_wp2_with fail
 refine (HL1.out).mono ?_
 rintro e w2 ⟨bo, bc, rfl, hk, hb2⟩
 have HA2 := Lib.hid (HA0.out.below hb2)
 have HZ2 := Lib.hid (HZ0.out.below hb2)
 have HB2 := Lib.hid (HB1.out.trans (hb2.mono HB1.out.size))
 have HK2 := Lib.hid hk
 have HGe : Hid (h1 < w1.heap.size) := HZ0.out.lt
 clear hb2 hk a8 HL1 HA0 HZ0 HB1
 revert HK2 HGe
 generalize w1.heap.size = g
 intro HK2 HGe
 have hkg : ∀ q : Nat, q ≤ h1 → ∀ k, (Value.slice bo x.kids.length bc).ownBlock = some k → ¬ k = q := fun q hq k hk e => by have h := (HK2.out.lt k hk).1; have h2 := HGe.out; omega
 have HKG := Lib.hid hkg
 clear hkg
 have b8 : w2.cell? ⟨h0, 8, none⟩ = some (.slice ao x.kids.length cap) := HA2.out.cell 8
 have b8f := HA2.out.frozen 8
 have hf3 := Fr.setCell w2 ⟨h0, 8, none⟩ (.slice bo x.kids.length bc)
 have HA3 : Hid (hrow (w2.setCell ⟨h0, 8, none⟩ (.slice bo x.kids.length bc)) h0 #[.int .i64 x.kind, .int .u64 x.c0, .int .u64 x.c1, .int .u64 x.c2, .int .u64 x.c3, .string x.text, .int .i64 x.rule, .int .i64 x.lev, .slice bo x.kids.length bc] 57) := heap_setCell_same _ _ _ _ _ _ HA2.out.h
 have HZ3 := Lib.hid (HZ2.out.fr hf3 (fun e => hne e.symm))
 have HK3 := Lib.hid (owns_fr HK2.out hf3 (HKG.out h0 (by have := HH.out; omega)))
 have HB3 := Lib.hid (HB2.out.setCell (p := ⟨h0, 8, none⟩) (by have := HH.out; show w.heap.size ≤ h0; omega) (.slice bo x.kids.length bc))
 go_upto_region 2 with (fail)
 clear b8 b8f HA2 HZ2 HB2 HK2 hf3
 revert HA3 HZ3 HK3 HB3
 generalize w2.setCell _ _ = w3
 intro HA3 HZ3 HK3 HB3
 obtain ⟨a0, a1, a2, a3, a4, a5, a6, a7, a8⟩ := (HA3.out).c9
 obtain ⟨zq0, zq1, zq2, zq3, zq4, zq5, zq6, zq7, zq8⟩ := (HZ3.out).c9
 obtain ⟨zf0, zf1, zf2, zf3, zf4, zf5, zf6, zf7, zf8⟩ := (HZ3.out).f9
 have zr := set9_row (.int .i64 x.kind) (.int .u64 x.c0) (.int .u64 x.c1) (.int .u64 x.c2) (.int .u64 x.c3) (.string x.text) (.int .i64 x.rule) (.int .i64 x.lev) (.slice bo x.kids.length bc) HZ3.out
 have zf := set9_fr w3 h1 (.int .i64 x.kind) (.int .u64 x.c0) (.int .u64 x.c1) (.int .u64 x.c2) (.int .u64 x.c3) (.string x.text) (.int .i64 x.rule) (.int .i64 x.lev) (.slice bo x.kids.length bc)
 unfold set9 at zr zf
 have ZR := Lib.hid zr
 have ZF := Lib.hid zf
 clear zr zf
 go_wp2_with fail
 revert ZR ZF
 generalize ((((((((w3.setCell _ _).setCell _ _).setCell _ _).setCell _ _).setCell _ _).setCell _ _).setCell _ _).setCell _ _).setCell _ _ = wz
 intro ZR ZF
 obtain ⟨zc0, zc1, zc2, zc3, zc4, zc5, zc6, zc7, zc8⟩ := (ZR.out).c9
 exact bodyPost_ret (v := .agg #[.int .i64 x.kind, .int .u64 x.c0, .int .u64 x.c1, .int .u64 x.c2, .int .u64 x.c3, .string x.text, .int .i64 x.rule, .int .i64 x.lev, .slice bo x.kids.length bc]) (by simp [results, Try.results60, go_sem, zc0, zc1, zc2, zc3, zc4, zc5, zc6, zc7, zc8]) rfl ⟨bo, bc, rfl, (owns_fr HK3.out ZF.out (HKG.out h1 (Nat.le_refl _))).mono (by have h1 := HH.out; have h2 := HGe.out; omega), HB3.out.trans (ZF.out.below HB3.out.size (fun k hk e => by have e' : k = h1 := e; have := HH.out; omega))⟩

/-- A node's kids, as a value. -/
def kv (p : Nd × (Option Addr × Nat)) : Value := .slice p.2.1 p.1.kids.length p.2.2
/-- v holds the nodes NL, in a row of the call's own, each node's kids in a row of their own; no two of these are one. -/
structure Cn (B : Nat) (w : World) (v : Value) (NL : List (Nd × (Option Addr × Nat))) : Prop where
 own : w.ownsRow B 57 9 v NL.length (NL.flatMap ndc)
 kids : ∀ p ∈ NL, w.ownsRow B 3 1 (kv p) p.1.kids.length (inc p.1.kids)
 ap : ∀ (i j : Nat) (p q : Nd × (Option Addr × Nat)) (g : Nat), NL[i]? = some p → NL[j]? = some q → (kv p).ownBlock = some g → (kv q).ownBlock = some g → i = j
section
variable {B : Nat} {w w' : World} {v : Value} {NL : List (Nd × (Option Addr × Nat))}
theorem Cn.below (h : Cn B w v NL) (hb : Below w.heap.size w w') : Cn B w' v NL := by
 have k : ∀ {e s n v xs}, w.ownsRow B e s v n xs → w'.ownsRow B e s v n xs := fun ho => owns_fr ho (Fr.of_below (F := fun _ => False) hb) (fun _ _ h => h)
 exact ⟨k h.own, fun p hp => k (h.kids p hp), h.ap⟩
theorem Cn.mono {B' : Nat} (h : Cn B w v NL) (hB : B' ≤ B) : Cn B' w v NL := ⟨h.own.mono hB, fun p hp => (h.kids p hp).mono hB, h.ap⟩
theorem Cn.nil (B : Nat) (w : World) : Cn B w (.slice none 0 0) [] := ⟨World.ownsRow_nil _ _ _ _, by simp, by simp⟩
/-- They are read as nodes. -/
theorem Cn.ndw (h : Cn B w v NL) (ht : ∀ p ∈ NL, p.1.text.size ≤ 9223372036854775807) : ∃ o c, v = .slice o NL.length c ∧ NdW w o NL.length c NL := by
 obtain ⟨o, c, rfl, hs⟩ := Sv.of_owns h.own
 refine ⟨o, c, rfl, hs, fun p hp => ?_, ht⟩
 obtain ⟨o', c', e, hs'⟩ := Sv.of_owns (h.kids p hp)
 simp only [kv, Value.slice.injEq, true_and] at e
 rw [e.1, e.2]; exact hs'
/-- What is written into a block of neither kind leaves them. -/
theorem Cn.fr {F : Nat → Prop} (h : Cn B w v NL) (hf : Fr F w w') (hF : ∀ k, B ≤ k → k < w.heap.size → ¬ F k) : Cn B w' v NL := by
 have k : ∀ {e s n v xs}, w.ownsRow B e s v n xs → w'.ownsRow B e s v n xs := fun ho => owns_fr ho hf (fun g hg => hF g (ho.lt g hg).1 (ho.lt g hg).2)
 exact ⟨k h.own, fun p hp => k (h.kids p hp), h.ap⟩
/-- More nodes were appended to the row; their kids lie apart from those that were there. -/
theorem Cn.more {B2 : Nat} {v' : Value} {M : List (Nd × (Option Addr × Nat))} (h : Cn B w v NL) (h2 : ∀ p ∈ M, w.ownsRow B2 3 1 (kv p) p.1.kids.length (inc p.1.kids)) (ha2 : ∀ (i j : Nat) (p q : Nd × (Option Addr × Nat)) (g : Nat), M[i]? = some p → M[j]? = some q → (kv p).ownBlock = some g → (kv q).ownBlock = some g → i = j) (hB : B ≤ B2)
  (hap : ∀ p ∈ NL, ∀ q ∈ M, ∀ g, (kv p).ownBlock = some g → (kv q).ownBlock ≠ some g) (hBw : B ≤ w.heap.size) (hA : AppTo w B 57 9 v NL.length (NL.flatMap ndc) M.length (M.flatMap ndc) v' w') : Cn B w' v' (NL ++ M) := by
 have own : w'.ownsRow B 57 9 v' (NL ++ M).length ((NL ++ M).flatMap ndc) := by
  rw [List.length_append, List.flatMap_append]
  rcases hA with ⟨g, cap, e1, e2, hf, ho, ho'⟩ | ho
  ·exact ho
  ·exact ho.1.mono hBw
 have kp : ∀ {B' n v0 xs}, w.ownsRow B' 3 1 v0 n xs → w'.ownsRow B' 3 1 v0 n xs := by
  intro B' n v0 xs hk
  rcases hA with ⟨g, cap, e1, e2, hf, ho, ho'⟩ | ho
  ·refine owns_fr hk hf (fun k hk' e => ?_)
   subst e
   have := owns_type hk h.own hk' (by rw [e1]; rfl)
   exact absurd this (by decide)
  ·exact owns_fr hk (Fr.of_below (F := fun _ => False) ho.2) (fun _ _ h => h)
 refine ⟨own, fun p hp => ?_, fun i j p q g hi hj hg hg' => ?_⟩
 ·rcases List.mem_append.1 hp with hp | hp
  ·exact kp (h.kids p hp)
  ·exact (kp (h2 p hp)).mono hB
 ·rw [List.getElem?_append] at hi hj
  by_cases h1 : i < NL.length <;> by_cases h3 : j < NL.length
  ·rw [if_pos h1] at hi; rw [if_pos h3] at hj
   exact h.ap i j p q g hi hj hg hg'
  ·rw [if_pos h1] at hi; rw [if_neg h3] at hj
   exact absurd hg' (hap p (List.mem_of_getElem? hi) q (List.mem_of_getElem? hj) g hg)
  ·rw [if_neg h1] at hi; rw [if_pos h3] at hj
   exact absurd hg (hap q (List.mem_of_getElem? hj) p (List.mem_of_getElem? hi) g hg')
  ·rw [if_neg h1] at hi; rw [if_neg h3] at hj
   have := ha2 _ _ p q g hi hj hg hg'
   omega
end

theorem AppTo.below {w0 w w' : World} {B e s n m : Nat} {v v' : Value} {xs ys : List Value} (h : AppTo w B e s v n xs m ys v' w') (hb : Below w0.heap.size w0 w) (hB : ∀ g, v.ownBlock = some g → w0.heap.size ≤ g) : Below w0.heap.size w0 w' := by
 rcases h with ⟨g, cap, e1, e2, hf, ho, ho'⟩ | ho
 ·exact hb.trans (hf.below hb.size (fun k hk e' => by have := hB g (by rw [e1]; rfl); have e2 : k = g := e'; omega))
 ·exact hb.trans (ho.2.mono hb.size)

theorem copyNs_any (w : World) (ao : Option Addr) (n cap : Nat) (NK : List (Nd × (Option Addr × Nat))) (hs : NdW w ao n cap NK) (hbig : n ≤ 100000) (hkb : ∀ p ∈ NK, p.1.kids.length ≤ 100000) :
  Calls Try.prog 45 #[.slice ao n cap] w fun r w' => ∃ v NL, r = .returned v ∧ Cn w.heap.size w' v NL ∧ NL.map (·.1) = NK.map (·.1) ∧ Below w.heap.size w w' := by
 obtain ⟨h1, h2⟩ := hs.sv.bound
 have hwl := hs.sv.n_eq ndc_len (by decide)
 have HSl := Lib.hid hs; have HWl := Lib.hid hwl; have HKb := Lib.hid hkb; clear hs hwl hkb
 go_enter Try.func45, Try.ntmps45
 go_wp2_with fail
 go_loopw [3, 4] (fun v i wr => ∃ k : Nat, k ≤ n ∧ i = .int .i64 k ∧ Hid (∃ NL, Cn w.heap.size wr v NL ∧ NL.map (·.1) = (NK.take k).map (·.1) ∧ Below w.heap.size w wr)) (fun _ i _ => n - (intOf i).toNat)
 case atStart => exact ⟨0, by omega, rfl, [], Cn.nil _ _, by simp, Below.refl _ _⟩
 case round =>
  obtain ⟨k, hk, rfl, hI⟩ := hrel
  by_cases hlt : k < n
  ·have hlt' : (k : Int) < n := by omega
   have hkl : k < NK.length := by have := HWl.out; omega
   obtain ⟨NL, hO, hL, hB⟩ := hI.out
   have HO := Lib.hid hO; have HL := Lib.hid hL; have HB := Lib.hid hB
   clear hI hO hL hB
   have HTk := Lib.hid (show NK.take (k + 1) = NK.take k ++ [NK[k]] from List.take_succ_eq_append_getElem hkl)
   have HSk := Lib.hid (HSl.out.below HB.out)
   have HCk := Lib.hid (copyNo_any wr NK[k].1 NK[k].2.1 NK[k].2.2 (HSk.out.kids _ (List.getElem_mem hkl)) (HKb.out _ (List.getElem_mem hkl)))
   obtain ⟨a, rfl, a0, a1, a2, a3, a4, a5, a6, a7, a8⟩ := HSk.out.sv.nd9 hkl
   clear HSk
   generalize NK[k] = p at *
   obtain ⟨x, ko, kc⟩ := p
   simp only [] at a0 a1 a2 a3 a4 a5 a6 a7 a8 HCk
   clear hkl
   go_wp2_with fail
   refine (HCk.out).mono ?_
   rintro e w2 ⟨bo, bc, rfl, hk2, hb2⟩
   have HKr := Lib.hid hk2
   have HO2 := Lib.hid (HO.out.below hb2)
   have HB2 := Lib.hid (HB.out.trans (hb2.mono HB.out.size))
   have HAp : Hid (∀ p ∈ NL, ∀ g, (kv p).ownBlock = some g → (Value.slice bo x.kids.length bc).ownBlock ≠ some g) := fun p hp g hg hg' => by
    have h1 := ((HO.out.kids p hp).lt g hg).2
    have h2 := (hk2.lt g hg').1
    omega
   have HBk := Lib.hid HB.out.size
   clear hk2 hb2 HO HB a0 a1 a2 a3 a4 a5 a6 a7 a8 HCk
   go_upto_region 6 with (fail)
   have hb3 := (Below.refl w2.heap.size w2).alloc (Nat.le_refl _) (.cells #[.int .i64 x.kind, .int .u64 x.c0, .int .u64 x.c1, .int .u64 x.c2, .int .u64 x.c3, .string x.text, .int .i64 x.rule, .int .i64 x.lev, .slice bo x.kids.length bc] 57)
   have HN3 := Lib.hid (hrow.new w2 #[.int .i64 x.kind, .int .u64 x.c0, .int .u64 x.c1, .int .u64 x.c2, .int .u64 x.c3, .string x.text, .int .i64 x.rule, .int .i64 x.lev, .slice bo x.kids.length bc] 57)
   have HO3 := Lib.hid (HO2.out.below hb3)
   have HK3 := Lib.hid (owns_fr HKr.out (Fr.of_below (F := fun _ => False) hb3) (fun _ _ h => h))
   have HB3 := Lib.hid (HB2.out.trans (hb3.mono HB2.out.size))
   clear hb3 HO2 HKr HB2
   revert HN3 HO3 HK3 HB3
   generalize w2.alloc _ = w3
   generalize w2.heap.size = h
   intro HN3 HO3 HK3 HB3
   obtain ⟨z0, z1, z2, z3, z4, z5, z6, z7, z8⟩ := (HN3.out).c9
   have hb4 := (Below.refl w3.heap.size w3).alloc (Nat.le_refl _) (.cells #[.int .i64 x.kind, .int .u64 x.c0, .int .u64 x.c1, .int .u64 x.c2, .int .u64 x.c3, .string x.text, .int .i64 x.rule, .int .i64 x.lev, .slice bo x.kids.length bc] 57)
   have HO4 := Lib.hid (HO3.out.below hb4)
   have HK4 := Lib.hid (owns_fr HK3.out (Fr.of_below (F := fun _ => False) hb4) (fun _ _ h => h))
   have HB4 := Lib.hid (HB3.out.trans (hb4.mono HB3.out.size))
   have HSv := Lib.hid (Sv.lit w3 57 #[.int .i64 x.kind, .int .u64 x.c0, .int .u64 x.c1, .int .u64 x.c2, .int .u64 x.c3, .string x.text, .int .i64 x.rule, .int .i64 x.lev, .slice bo x.kids.length bc] 1 9 (by decide) rfl)
   have HOc := Lib.hid (ndc_one [(x, (bo, bc))])
   have HLk := Lib.hid (show NL.length = k by have h1 := congrArg List.length HL.out; simp only [List.length_map, List.length_take] at h1; have := HWl.out; omega)
   have HLn : Hid ((NL.length + 1) * 96 ≤ 140737488355328 ∧ NL.length + 1 ≤ maxLen) := by have := HLk.out; exact ⟨by omega, by simp only [maxLen]; omega⟩
   clear hb4 HO3 HK3 HB3
   go_wp2_with (at_builtin; refine wpList_appf _ w.heap.size rfl _ _ 23 57 rfl elemNo _ _ _ rfl HO4.out.own _ 1 1 _ rfl HSv.out HOc.out (by decide) HLn.out ?_; intro v8 w8 hA; have HA := Lib.hid hA; clear hA)
   go_roundw
   case rel =>
    refine ⟨k + 1, by omega, by go_num, NL ++ [(x, (bo, bc))], ?_, ?_, ?_⟩
    ·refine HO4.out.more (B2 := wr.heap.size) ?_ ?_ HBk.out ?_ HB4.out.size HA.out
     ·intro p hp; simp only [List.mem_singleton] at hp; subst hp; exact HK4.out
     ·intro i j p q g hi hj _ _
      have h1 := (List.getElem?_eq_some_iff.1 hi).1; have h2 := (List.getElem?_eq_some_iff.1 hj).1
      simp at h1 h2; omega
     ·intro p hp q hq g hg; simp only [List.mem_singleton] at hq; subst hq; exact HAp.out p hp g hg
    ·rw [HTk.out, List.map_append, List.map_append, HL.out]; rfl
    ·exact HA.out.below HB4.out (fun g hg => (HO4.out.own.lt g hg).1)
   case measure => simp [intOf]; omega
  ·have hke : k = n := by omega
   subst hke
   go_wp2_with fail
   go_ret
   obtain ⟨NL, hO, hL, hB⟩ := hI.out
   exact ⟨_, rfl, NL, hO, by rw [hL, List.take_of_length_le (by have := HWl.out; omega)], hB⟩
end Go.Proofs.Ytdnkffplkleolaa
namespace Go.Proofs.Ytdnkffplkleolaa
open Go.RowKit
set_option maxRecDepth 100000
set_option maxHeartbeats 2000000

/-- Few nodes, of few kids, no great numbers. -/
def okN (N : List Nd) : Prop := (0 < N.length ∧ N.length ≤ 5000) ∧ ∀ x ∈ N, x.text.size ≤ 5000 ∧ x.kids.length ≤ 5000 ∧ ∀ c ∈ x.kids, 0 ≤ c ∧ c ≤ 100000
/-- v reads as the nodes N. -/
def Ar (w : World) (v : Value) (N : List Nd) : Prop := ∃ o c NK, v = .slice o N.length c ∧ NdW w o N.length c NK ∧ NK.map (·.1) = N
theorem Ar.below {w w' : World} {v : Value} {N : List Nd} (h : Ar w v N) (hb : Below w.heap.size w w') : Ar w' v N := by
 obtain ⟨o, c, NK, e, h1, h2⟩ := h; exact ⟨o, c, NK, e, h1.below hb, h2⟩
/-- A call answers the nodes N, in memory of its own. -/
def Mk (w : World) (N : List Nd) (e : Ending) (w' : World) : Prop := ∃ v NL, e = .returned v ∧ Cn w.heap.size w' v NL ∧ NL.map (·.1) = N ∧ Below w.heap.size w w'
theorem Cn.ar {B : Nat} {w : World} {v : Value} {NL : List (Nd × (Option Addr × Nat))} {N : List Nd} (h : Cn B w v NL) (e : NL.map (·.1) = N) (hN : okN N) : Ar w v N := by
 subst e
 obtain ⟨o, c, rfl, h1⟩ := h.ndw (fun p hp => by have := (hN.2 p.1 (List.mem_map_of_mem hp)).1; omega)
 exact ⟨o, c, NL, by simp, by simpa using h1, rfl⟩
theorem Mk.ar {w w' : World} {N : List Nd} {e : Ending} (h : Mk w N e w') (hN : okN N) : ∃ v, e = .returned v ∧ Ar w' v N ∧ Below w.heap.size w w' := by
 obtain ⟨v, NL, rfl, h1, h2, h3⟩ := h; exact ⟨v, rfl, h1.ar h2 hN, h3⟩

theorem flat_set {α β : Type} {f : α → List β} {x : α} : ∀ {l : List α} {i : Nat} {p : α}, l[i]? = some p → f x = f p → (l.set i x).flatMap f = l.flatMap f
 | [], _, _, h, _ => by simp at h
 | a :: l, 0, p, h, e => by simp only [List.getElem?_cons_zero, Option.some.injEq] at h; subst h; simp [e]
 | a :: l, i + 1, p, h, e => by simp only [List.getElem?_cons_succ] at h; simp [flat_set h e]
/-- A kid is written. -/
theorem Cn.put {B : Nat} {w : World} {v : Value} {NL : List (Nd × (Option Addr × Nat))} (h : Cn B w v NL) {i : Nat} {x : Nd} {g cp : Nat} (hi : NL[i]? = some (x, (some ⟨g, 0, none⟩, cp))) (j : Nat) (c : Int) :
  Cn B (w.setCell ⟨g, j, none⟩ (.int .i64 c)) v (NL.set i ({ x with kids := x.kids.set j c }, (some ⟨g, 0, none⟩, cp))) := by
 have hk := h.kids _ (List.mem_of_getElem? hi)
 have hb : (kv (x, (some ⟨g, 0, none⟩, cp))).ownBlock = some g := rfl
 refine ⟨?_, fun q hq => ?_, fun a b p q g' ha hb' hp hq => ?_⟩
 ·rw [List.length_set, flat_set hi (by simp [ndc])]
  refine ownsRow_setCell_other h.own (fun e => ?_) _
  exact absurd (owns_type hk h.own hb e) (by decide)
 ·obtain ⟨a, ha⟩ := List.mem_iff_getElem?.1 hq
  rw [List.getElem?_set] at ha
  by_cases he : i = a
  ·subst he
   rw [if_pos rfl] at ha
   have hl := (List.getElem?_eq_some_iff.1 hi).1
   rw [if_pos hl] at ha
   obtain rfl := Option.some.inj ha
   have := (World.ownsRow.stored hk j (.int .i64 c)).1
   have e2 : (inc x.kids).set j (.int .i64 c) = inc (x.kids.set j c) := by simp [inc, List.map_set]
   rw [e2] at this
   simpa [kv] using this
  ·rw [if_neg he] at ha
   refine ownsRow_setCell_other (h.kids q (List.mem_of_getElem? ha)) (fun e => ?_) _
   exact he (h.ap i a _ _ g hi ha hb e)
 ·rw [List.getElem?_set] at ha hb'
  have key : ∀ a p, (if i = a then (if i < NL.length then some (({ x with kids := x.kids.set j c } : Nd), ((some ⟨g, 0, none⟩ : Option Addr), cp)) else none) else NL[a]?) = some p → (kv p).ownBlock = some g' → ∃ p', NL[a]? = some p' ∧ (kv p').ownBlock = some g' := by
   intro a p ha hp
   by_cases he : i = a
   ·subst he
    rw [if_pos rfl, if_pos (List.getElem?_eq_some_iff.1 hi).1] at ha
    obtain rfl := Option.some.inj ha
    exact ⟨_, hi, hp⟩
   ·rw [if_neg he] at ha; exact ⟨p, ha, hp⟩
  obtain ⟨p', h1, h2⟩ := key a p ha hp
  obtain ⟨q', h3, h4⟩ := key b q hb' hq
  exact h.ap a b p' q' g' h1 h3 h2 h4

theorem Cn.drew {B : Nat} {w : World} {v : Value} {NL : List (Nd × (Option Addr × Nat))} (h : Cn B w v NL) : Cn B w.drew v NL := ⟨h.own, h.kids, h.ap⟩
def mvN (d : Int) (x : Nd) : Nd := { x with kids := x.kids.map (· + d) }
def mvK (d : Int) (m : Nat) (x : Nd) : Nd := { x with kids := (x.kids.take m).map (· + d) ++ x.kids.drop m }
theorem mvK_zero (d : Int) (x : Nd) : mvK d 0 x = x := by simp [mvK]
theorem mvK_all (d : Int) (x : Nd) : mvK d x.kids.length x = mvN d x := by simp [mvK, mvN]
theorem mvK_succ (d : Int) (m : Nat) (x : Nd) (h : m < x.kids.length) : { mvK d m x with kids := (mvK d m x).kids.set m (x.kids[m] + d) } = mvK d (m + 1) x := by
 simp only [mvK, Nd.mk.injEq, true_and]
 rw [List.set_append_right _ _ (by simp; omega)]
 have hl : ((x.kids.take m).map (· + d)).length = m := by simp; omega
 rw [hl, Nat.sub_self, List.drop_eq_getElem_cons h, List.set_cons_zero, List.take_succ_eq_append_getElem h, List.map_append, List.append_assoc]
 rfl
theorem mvK_len (d : Int) (m : Nat) (x : Nd) : (mvK d m x).kids.length = x.kids.length := by simp only [mvK, List.length_append, List.length_map, List.length_take, List.length_drop]; omega

theorem moved_any (w : World) (v : Value) (N : List Nd) (d : Int) (ha : Ar w v N) (hN : okN N) (h0 : 0 ≤ d) (hd : d ≤ 100000) :
  Calls Try.prog 33 #[v, .int .i64 d] w (Mk w (N.map (mvN d))) := by
 obtain ⟨o, c, NK, rfl, hn, hN1⟩ := ha
 have hkl : ∀ p ∈ NK, p.1.kids.length ≤ 100000 := fun p hp => by have h := hN.2 p.1 (by rw [← hN1]; exact List.mem_map_of_mem hp); omega
 have HCp := Lib.hid (copyNs_any w o N.length c NK hn (by have := hN.1.2; omega) hkl)
 have HN1 := Lib.hid hN1
 have HN := Lib.hid hN
 have hn5 := hN.1.2
 clear hn hkl hN1 hN
 go_enter Try.func33, Try.ntmps33
 go_wp2_with fail
 refine (HCp.out).mono ?_
 rintro e w1 ⟨v1, NL, rfl, hC, hM, hB⟩
 obtain ⟨o1, c1, hv1, hnd⟩ := hC.ndw (fun p hp => by
  have h1 : p.1 ∈ NK.map (·.1) := by rw [← hM]; exact List.mem_map_of_mem hp
  rw [HN1.out] at h1
  have := (HN.out.2 _ h1).1; omega)
 have hlen : NL.length = N.length := by have := congrArg List.length hM; rw [HN1.out] at this; simpa using this
 rw [hlen] at hv1 hnd
 subst hv1
 have hM2 : NL.map (·.1) = N := hM.trans HN1.out
 have HC := Lib.hid hC; have HM := Lib.hid hM2; have HB := Lib.hid hB
 have hcb := hnd.sv.bound
 clear hC hM hM2 hB hnd hlen HN1 HCp
 go_wp2_with fail
 go_loopw [6, 7] (fun i _ wr => ∃ k : Nat, k ≤ N.length ∧ i = .int .i64 k ∧ Hid (∃ NL, Cn w.heap.size wr (.slice o1 N.length c1) NL ∧ NL.map (·.1) = (N.take k).map (mvN d) ++ N.drop k ∧ Below w.heap.size w wr)) (fun i _ _ => N.length - (intOf i).toNat)
 case atStart => exact ⟨0, by omega, rfl, NL, HC.out, by simpa using HM.out, HB.out⟩
 case round =>
  obtain ⟨k, hk, rfl, hI⟩ := hrel
  clear HC HM HB
  by_cases hlt : k < N.length
  ·have hlt' : (k : Int) < N.length := by omega
   have HX : Hid (∃ x, N[k]? = some x) := ⟨N[k], List.getElem?_eq_getElem hlt⟩
   obtain ⟨x, hx⟩ := HX.out
   have HXk := Lib.hid hx
   have HXb := Lib.hid (HN.out.2 x (List.mem_of_getElem? hx))
   have hxl : x.kids.length ≤ 5000 := HXb.out.2.1
   clear HX hx
   go_wp2_with fail
   go_loopw [7] (fun j wr => ∃ m : Nat, m ≤ x.kids.length ∧ j = .int .i64 m ∧ Hid (∃ NL, Cn w.heap.size wr (.slice o1 N.length c1) NL ∧ NL.map (·.1) = (N.take k).map (mvN d) ++ mvK d m x :: N.drop (k + 1) ∧ Below w.heap.size w wr)) (fun j _ => x.kids.length - (intOf j).toNat)
   case atStart =>
    obtain ⟨NL, h1, h2, h3⟩ := hI.out
    refine ⟨0, by omega, rfl, NL, h1, ?_, h3⟩
    obtain ⟨hl, hx⟩ := List.getElem?_eq_some_iff.1 HXk.out
    rw [h2, mvK_zero, List.drop_eq_getElem_cons hl, hx]
   case round =>
    obtain ⟨m, hm, rfl, hJ⟩ := hrel
    clear hI
    obtain ⟨NL, hC, hM, hB⟩ := hJ.out
    have hNk : NL.map (·.1) = (N.take k).map (mvN d) ++ mvK d m x :: N.drop (k + 1) := hM
    have hpk : ∃ p, NL[k]? = some p ∧ p.1 = mvK d m x := by
     have h1 := congrArg (fun l => l[k]?) hNk
     simp only [List.getElem?_map] at h1
     rw [List.getElem?_append_right (by simp; omega)] at h1
     have hl : ((N.take k).map (mvN d)).length = k := by simp; omega
     rw [hl, Nat.sub_self, List.getElem?_cons_zero] at h1
     cases hp : NL[k]? with
     | none => rw [hp] at h1; cases h1
     | some p => rw [hp] at h1; exact ⟨p, rfl, by simpa using h1⟩
    obtain ⟨⟨y, ko, kc⟩, hp, rfl⟩ := hpk
    have hlen : NL.length = N.length := by have := congrArg List.length hNk; simp at this; omega
    obtain ⟨o2, c2, e2, hsv⟩ := Sv.of_owns hC.own
    rw [hlen] at e2 hsv
    simp only [Value.slice.injEq, true_and] at e2
    obtain ⟨rfl, rfl⟩ := e2
    have hkk := hC.kids _ (List.mem_of_getElem? hp)
    have hkl2 : k < NL.length := by omega
    have hpe : NL[k] = (mvK d m x, (ko, kc)) := (List.getElem?_eq_some_iff.1 hp).2
    obtain ⟨a, rfl, -, -, -, -, -, -, -, -, a8⟩ := hsv.nd9 hkl2
    rw [hpe] at a8
    simp only [mvK_len] at a8
    have HC := Lib.hid hC; have HM := Lib.hid hM; have HB := Lib.hid hB; have HP := Lib.hid hp; have HL := Lib.hid hlen
    have hkk2 : wr.ownsRow w.heap.size 3 1 (.slice ko x.kids.length kc) x.kids.length (inc (mvK d m x).kids) := by have h := hkk; simp only [kv, mvK_len] at h; exact h
    clear hkk hJ hC hM hB hp hNk hpe hsv hlen hkl2
    by_cases hml : m < x.kids.length
    ·have hml' : (m : Int) < x.kids.length := by omega
     obtain ⟨g, hg1, hg2⟩ : ∃ g, ko = some ⟨g, 0, none⟩ ∧ w.heap.size ≤ g := by
      rcases hkk2.2 with ⟨h, h0⟩ | ⟨g, c3, cur, h, hg, _⟩
      ·simp only [Value.slice.injEq] at h; omega
      ·cases h; exact ⟨g, rfl, hg⟩
     subst hg1
     have hkb : x.kids.length ≤ kc ∧ kc ≤ 9223372036854775807 := by
      obtain ⟨o', c', e', hs'⟩ := Sv.of_owns hkk2
      simp only [Value.slice.injEq, true_and] at e'
      have := hs'.bound; omega
     have hcm : (mvK d m x).kids[m]? = some x.kids[m] := by
      have hl : ((x.kids.take m).map (· + d)).length = m := by simp; omega
      simp only [mvK]
      rw [List.getElem?_append_right (by omega), hl, Nat.sub_self, List.getElem?_drop]
      simp
     have hc0 : wr.cell? ⟨g, m, none⟩ = some (.int .i64 x.kids[m]) := by
      rw [World.ownsRow.cellAt hkk2 m (by omega)]
      simp only [inc, List.getElem?_map, hcm, Option.map_some]
     have hf0 : wr.frozen? ⟨g, m, none⟩ = false := World.ownsRow.frozenAt hkk2 m
     have hxm := HXb.out.2.2 x.kids[m] (List.getElem_mem hml)
     have HS := Lib.hid (mvK_succ d m x hml)
     generalize hxc : x.kids[m] = y at *
     clear hxc hkk2 hcm
     have HC2 := Lib.hid (HC.out.put HP.out m (y + d))
     have HB2 := Lib.hid (HB.out.setCell (p := ⟨g, m, none⟩) hg2 (.int .i64 (y + d)))
     clear HC HB hg2
     go_wp2_with fail
     go_region
     go_wp2_with fail
     go_roundw
     case rel =>
      refine ⟨m + 1, by omega, by go_num, _, HC2.out.drew, ?_, HB2.out.drew⟩
      rw [HS.out, List.map_set, HM.out, List.set_append_right _ _ (by simp; omega)]
      have hl : ((N.take k).map (mvN d)).length = k := by simp; omega
      rw [hl, Nat.sub_self, List.set_cons_zero]
     case measure => simp [intOf]; omega
    ·have hme : m = x.kids.length := by omega
     subst hme
     clear hkk2
     have HR := Lib.hid (show (N.take (k + 1)).map (mvN d) = (N.take k).map (mvN d) ++ [mvN d x] by
      obtain ⟨hl, hx⟩ := List.getElem?_eq_some_iff.1 HXk.out
      rw [List.take_succ_eq_append_getElem hl, List.map_append, hx]; rfl)
     go_wp2_with fail
     go_roundw
     case rel =>
      refine ⟨k + 1, by omega, by go_num, NL, HC.out, ?_, HB.out⟩
      rw [HR.out, HM.out, mvK_all, List.append_assoc]; rfl
     case measure => simp [intOf]; omega
  ·have hke : k = N.length := by omega
   subst hke
   obtain ⟨NL, hC, hM, hB⟩ := hI.out
   go_wp2_with fail
   go_ret
   exact ⟨_, NL, rfl, hC, by simpa using hM, hB⟩
end Go.Proofs.Ytdnkffplkleolaa
namespace Go.Proofs.Ytdnkffplkleolaa
open Go.RowKit
set_option maxRecDepth 100000

def hdN (k : Int) (ks : List Int) : Nd := ⟨k, 0, 0, 0, 0, es0, 0, 0, ks⟩
def leafN (k : Int) : List Nd := [hdN k []]
def wordN (s : ByteArray) : List Nd := [⟨4, 0, 0, 0, 0, s, 0, 0, []⟩]
def callN (r l : Int) : List Nd := [⟨5, 0, 0, 0, 0, es0, r, l, []⟩]
def ofS (st : List Int × List Nd) (b : List Nd) : List Int × List Nd := (st.1 ++ [((st.2.length + 1 : Nat) : Int)], st.2 ++ b.map (mvN ((st.2.length + 1 : Nat) : Int)))
def ofL (bs : List (List Nd)) : List Int × List Nd := bs.foldl ofS ([], [])
/-- A node of a kind, with kids. -/
def ofN (k : Int) (bs : List (List Nd)) : List Nd := hdN k (ofL bs).1 :: (ofL bs).2
theorem ofL_snoc (bs : List (List Nd)) (b : List Nd) : ofL (bs ++ [b]) = ofS (ofL bs) b := by simp [ofL]
theorem foldl_inv {α β : Type} {f : β → α → β} (p : Nat → β → Prop) (h : ∀ n b a, p n b → p (n + 1) (f b a)) : ∀ (l : List α) (n : Nat) (b : β), p n b → p (n + l.length) (l.foldl f b)
 | [], _, _, hb => hb
 | a :: l, n, b, hb => by have := foldl_inv p h l (n + 1) (f b a) (h n b a hb); rw [show n + (a :: l).length = n + 1 + l.length by simp; omega]; exact this
theorem ofL_len1 (bs : List (List Nd)) : (ofL bs).1.length = bs.length := by
 have := foldl_inv (f := ofS) (fun n st => st.1.length = n) (fun n b a h => by simp [ofS, h]) bs 0 ([], []) rfl
 simpa [ofL] using this
theorem ofL_len2 {bs : List (List Nd)} (h : ∀ b ∈ bs, b.length ≤ 5000) : (ofL bs).2.length ≤ 5000 * bs.length := by
 unfold ofL
 have key : ∀ (l : List (List Nd)) (st : List Int × List Nd), (∀ b ∈ l, b.length ≤ 5000) → (l.foldl ofS st).2.length ≤ st.2.length + 5000 * l.length := by
  intro l
  induction l with
  | nil => intro st _; simp
  | cons b l ih =>
   intro st hb
   have h1 := ih (ofS st b) (fun b' hb' => hb b' (by simp [hb']))
   have h2 := hb b (by simp)
   have h3 : (ofS st b).2.length = st.2.length + b.length := by simp [ofS]
   simp only [List.foldl_cons, List.length_cons]
   omega
 simpa using key bs ([], []) h

/-- A row of bodies. -/
structure Bw (w : World) (ao : Option Addr) (cap : Nat) (bs : List (Value × List Nd)) : Prop where
 sv : Sv w ao bs.length cap 1 (bs.map (·.1))
 ar : ∀ p ∈ bs, Ar w p.1 p.2
 ok : ∀ p ∈ bs, okN p.2
theorem Bw.below {w w' : World} {ao : Option Addr} {cap : Nat} {bs : List (Value × List Nd)} (h : Bw w ao cap bs) (hb : Below w.heap.size w w') : Bw w' ao cap bs :=
 ⟨h.sv.below hb, fun p hp => (h.ar p hp).below hb, h.ok⟩

theorem Cn.one (w : World) (x : Nd) (hx : x.kids = []) : Cn w.heap.size (w.alloc (.cells (ndc (x, (none, 0))).toArray 57)) (.slice (some ⟨w.heap.size, 0, none⟩) 1 1) [(x, (none, 0))] := by
 refine ⟨?_, fun p hp => ?_, fun i j p q g hi hj _ _ => ?_⟩
 ·exact World.ownsRow_lit w (ndc (x, (none, 0))).toArray 1 (Nat.le_refl _) (by decide) rfl
 ·simp only [List.mem_singleton] at hp; subst hp
  simp only [kv, hx, List.length_nil]
  exact World.ownsRow_nil _ _ _ _
 ·have h1 := (List.getElem?_eq_some_iff.1 hi).1; have h2 := (List.getElem?_eq_some_iff.1 hj).1
  simp at h1 h2; omega
theorem Mk.one (w : World) (x : Nd) (hx : x.kids = []) : Mk w [x] (.returned (.slice (some ⟨w.heap.size, 0, none⟩) 1 1)) (w.alloc (.cells (ndc (x, (none, 0))).toArray 57)) :=
 ⟨_, _, rfl, Cn.one w x hx, rfl, (Below.refl _ _).alloc (Nat.le_refl _) _⟩

theorem leaf_any (w : World) (k : Int) : Calls Try.prog 31 #[.int .i64 k] w (Mk w (leafN k)) := by
 go_enter Try.func31, Try.ntmps31
 go_wp2_with fail
 go_ret
 exact Mk.one w (hdN k []) rfl
theorem word_any (w : World) (s : ByteArray) : Calls Try.prog 15 #[.string s] w (Mk w (wordN s)) := by
 go_enter Try.func15, Try.ntmps15
 go_wp2_with fail
 go_ret
 exact Mk.one w ⟨4, 0, 0, 0, 0, s, 0, 0, []⟩ rfl
theorem call_any' (w : World) (r l : Int) : Calls Try.prog 16 #[.int .i64 r, .int .i64 l] w (Mk w (callN r l)) := by
 go_enter Try.func16, Try.ntmps16
 go_wp2_with fail
 go_ret
 exact Mk.one w ⟨5, 0, 0, 0, 0, es0, r, l, []⟩ rfl

theorem Cn.kid {B : Nat} {w w' : World} {g n cap : Nat} {x : Nd} {o o' : Option Addr} {c c' : Nat} {NL : List (Nd × (Option Addr × Nat))} {y : Int} (h : Cn B w (.slice (some ⟨g, 0, none⟩) n cap) ((x, (o, c)) :: NL)) (hB : B ≤ w.heap.size)
  (hA : AppTo w B 3 1 (.slice o x.kids.length c) x.kids.length (inc x.kids) 1 [.int .i64 y] (.slice o' (x.kids.length + 1) c') w') :
  Cn B (w'.setCell ⟨g, 8, none⟩ (.slice o' (x.kids.length + 1) c')) (.slice (some ⟨g, 0, none⟩) n cap) (({ x with kids := x.kids ++ [y] }, (o', c')) :: NL) := by
 have hk0 := h.kids _ (List.mem_cons_self ..)
 have hn : n = NL.length + 1 := by
  rcases h.own.2 with ⟨e, _⟩ | ⟨g1, c1, cur, e, _⟩
  ·cases e
  ·simp only [Value.slice.injEq, List.length_cons] at e; omega
 have hnew : w'.ownsRow B 3 1 (.slice o' (x.kids.length + 1) c') (x.kids.length + 1) (inc (x.kids ++ [y])) := by
  have e : inc (x.kids ++ [y]) = inc x.kids ++ [.int .i64 y] := by simp [inc]
  rw [e]
  rcases hA with ⟨gk, cap', e1, e2, hf, ho, ho'⟩ | ho
  ·exact ho
  ·exact ho.1.mono hB
 have hnode : w'.ownsRow B 57 9 (.slice (some ⟨g, 0, none⟩) n cap) (NL.length + 1) (((x, (o, c)) :: NL).flatMap ndc) := by
  rcases hA with ⟨gk, cap', e1, e2, hf, ho, ho'⟩ | ho
  ·refine owns_fr h.own hf (fun k hk e => ?_)
   subst e
   exact absurd (owns_type hk0 h.own (by rw [kv, e1]; rfl) hk) (by decide)
  ·exact owns_fr h.own (Fr.of_below (F := fun _ => False) ho.2) (fun _ _ h => h)
 have hother : ∀ q ∈ NL, w'.ownsRow B 3 1 (kv q) q.1.kids.length (inc q.1.kids) := by
  intro q hq
  have hq' := h.kids q (List.mem_cons_of_mem _ hq)
  rcases hA with ⟨gk, cap', e1, e2, hf, ho, ho'⟩ | ho
  ·refine owns_fr hq' hf (fun k hk e => ?_)
   subst e
   obtain ⟨i, hi⟩ := List.mem_iff_getElem?.1 hq
   have := h.ap 0 (i + 1) _ _ k (List.getElem?_cons_zero ..) (by rw [List.getElem?_cons_succ]; exact hi) (by rw [kv, e1]; rfl) hk
   omega
  ·exact owns_fr hq' (Fr.of_below (F := fun _ => False) ho.2) (fun _ _ h => h)
 have hfar : ∀ {v m xs}, w'.ownsRow B 3 1 v m xs → (w'.setCell ⟨g, 8, none⟩ (.slice o' (x.kids.length + 1) c')).ownsRow B 3 1 v m xs := by
  intro v m xs hv
  refine ownsRow_setCell_other hv (fun e => ?_) _
  exact absurd (owns_type hv hnode e rfl) (by decide)
 refine ⟨?_, fun p hp => ?_, fun i j p q b hi hj hp hq => ?_⟩
 ·have := (World.ownsRow.stored (n := n) (by rw [← hn] at hnode; exact hnode) 8 (.slice o' (x.kids.length + 1) c')).1
  have e : (((x, (o, c)) :: NL).flatMap ndc).set 8 (.slice o' (x.kids.length + 1) c') = ((({ x with kids := x.kids ++ [y] } : Nd), (o', c')) :: NL).flatMap ndc := by
   simp only [List.flatMap_cons, ndc, List.length_append, List.length_singleton]; rfl
  rw [e] at this
  rw [List.length_cons, ← hn]
  exact this
 ·rcases List.mem_cons.1 hp with rfl | hp
  ·have h1 := hfar hnew
   simpa [kv] using h1
  ·exact hfar (hother p hp)
 ·have key : ∀ (i : Nat) (p : Nd × (Option Addr × Nat)), ((({ x with kids := x.kids ++ [y] } : Nd), (o', c')) :: NL)[i]? = some p → (kv p).ownBlock = some b → (∃ p', ((x, (o, c)) :: NL)[i]? = some p' ∧ (kv p').ownBlock = some b) ∨ (i = 0 ∧ w.heap.size ≤ b) := by
   intro i p hi hp
   cases i with
   | zero =>
    simp only [List.getElem?_cons_zero, Option.some.injEq] at hi
    subst hi
    rcases hA with ⟨gk, cap', e1, e2, hf, ho, ho'⟩ | ho
    ·refine .inl ⟨_, List.getElem?_cons_zero .., ?_⟩
     rw [kv, e1]
     simp only [kv, Value.slice.injEq] at hp e2
     rw [e2.1] at hp
     exact hp
    ·have hp' : (Value.slice o' (x.kids.length + 1) c').ownBlock = some b := by simpa [kv, Value.ownBlock] using hp
     exact .inr ⟨rfl, (ho.1.lt b hp').1⟩
   | succ i => exact .inl ⟨p, hi, hp⟩
  have old : ∀ (i : Nat) (p : Nd × (Option Addr × Nat)), ((x, (o, c)) :: NL)[i]? = some p → (kv p).ownBlock = some b → b < w.heap.size := fun i p hi hp => ((h.kids p (List.mem_of_getElem? hi)).lt b hp).2
  rcases key i p hi hp with ⟨p', k1, k2⟩ | ⟨k1, k2⟩ <;> rcases key j q hj hq with ⟨q', k3, k4⟩ | ⟨k3, k4⟩
  ·exact h.ap i j p' q' b k1 k3 k2 k4
  ·have := old i p' k1 k2; omega
  ·have := old j q' k3 k4; omega
  ·omega
end Go.Proofs.Ytdnkffplkleolaa
namespace Go.Proofs.Ytdnkffplkleolaa
open Go.RowKit
set_option maxRecDepth 100000
set_option maxHeartbeats 2000000

theorem owns_appTo {w w' : World} {B B' : Nat} {e e' : TypeId} {s s' n n' m : Nat} {v v' v1 : Value} {xs xs' ys : List Value} (h : w.ownsRow B e s v n xs) (h' : w.ownsRow B' e' s' v' n' xs') (he : e' ≠ e) (hA : AppTo w B' e' s' v' n' xs' m ys v1 w') : w'.ownsRow B e s v n xs := by
 rcases hA with ⟨gk, cap', e1, e2, hf, ho, ho'⟩ | ho
 ·refine owns_fr h hf (fun k hk e3 => ?_)
  subst e3
  exact absurd (owns_type h' h (by rw [e1]; rfl) hk) he
 ·exact owns_fr h (Fr.of_below (F := fun _ => False) ho.2) (fun _ _ h => h)

theorem of_any' (w : World) (kd : Int) (ao : Option Addr) (cap : Nat) (bs : List (Value × List Nd)) (hb : Bw w ao cap bs) (hl : bs.length ≤ 15) :
  Calls Try.prog 29 #[.int .i64 kd, .slice ao bs.length cap] w (Mk w (ofN kd (bs.map (·.2)))) := by
 have hcb := hb.sv.bound
 have HBw := Lib.hid hb
 clear hb
 have HC0 : Hid (Cn w.heap.size (w.alloc (.cells #[.int .i64 kd, .int .u64 0, .int .u64 0, .int .u64 0, .int .u64 0, .string ⟨#[]⟩, .int .i64 0, .int .i64 0, .slice none 0 0] 57)) (.slice (some ⟨w.heap.size, 0, none⟩) 1 1) [(hdN kd [], (none, 0))]) := Cn.one w (hdN kd []) rfl
 have HB0 := Lib.hid ((Below.refl _ _).alloc (Nat.le_refl w.heap.size) (.cells #[.int .i64 kd, .int .u64 0, .int .u64 0, .int .u64 0, .int .u64 0, .string ⟨#[]⟩, .int .i64 0, .int .i64 0, .slice none 0 0] 57))
 go_enter Try.func29, Try.ntmps29
 go_upto_region 2 with (fail)
 revert HC0 HB0
 generalize w.alloc _ = w1
 intro HC0 HB0
 go_wp2_with fail
 go_loopw [5, 6] (fun v i wr => ∃ k : Nat, k ≤ bs.length ∧ i = .int .i64 k ∧ Hid (∃ NL, Cn w.heap.size wr v NL ∧ NL.map (·.1) = ofN kd ((bs.take k).map (·.2)) ∧ Below w.heap.size w wr)) (fun _ i _ => bs.length - (intOf i).toNat)
 case atStart => exact ⟨0, by omega, rfl, [(hdN kd [], (none, 0))], HC0.out, rfl, HB0.out⟩
 case round =>
  obtain ⟨k, hk, rfl, hI⟩ := hrel
  by_cases hlt : k < bs.length
  ·have hlt' : (k : Int) < bs.length := by omega
   obtain ⟨NL, hC, hM, hB⟩ := hI.out
   clear hI HC0 HB0
   have hbk : bs[k]? = some bs[k] := List.getElem?_eq_getElem hlt
   have hTk : (bs.take (k + 1)).map (·.2) = (bs.take k).map (·.2) ++ [bs[k].2] := by rw [List.take_succ_eq_append_getElem hlt, List.map_append]; rfl
   have hcell : ∀ w', Below w.heap.size w w' → ∃ a, ao = some a ∧ w'.cell? (a.add k) = some bs[k].1 := fun w' hb => by
    obtain ⟨a, ha, hc⟩ := (HBw.out.below hb).sv.cell k (by simpa using hlt)
    exact ⟨a, ha, by rw [hc]; simp [hbk]⟩
   have har : ∀ w', Below w.heap.size w w' → Ar w' bs[k].1 bs[k].2 := fun w' hb => (HBw.out.ar _ (List.getElem_mem hlt)).below hb
   have hok := HBw.out.ok _ (List.getElem_mem hlt)
   generalize bs[k] = p at *
   obtain ⟨bv, bN⟩ := p
   simp only [] at hTk hcell har hok
   have hst := ofL_len1 ((bs.take k).map (·.2))
   have hst2 := ofL_len2 (bs := (bs.take k).map (·.2)) (by
    intro b hb
    obtain ⟨p, hp, rfl⟩ := List.mem_map.1 hb
    exact (HBw.out.ok p (List.mem_of_mem_take hp)).1.2)
   simp only [List.length_map, List.length_take] at hst hst2
   unfold ofN at hM
   have hofs : ofL ((bs.take (k + 1)).map (·.2)) = ofS (ofL ((bs.take k).map (·.2))) bN := by rw [hTk, ofL_snoc]
   generalize ofL ((bs.take k).map (·.2)) = st at *
   obtain ⟨ks, rest⟩ := st
   simp only [] at hst hst2 hM hofs
   cases NL with
   | nil => simp at hM
   | cons p NL =>
    obtain ⟨x, o, c⟩ := p
    simp only [List.map_cons, List.cons.injEq] at hM
    obtain ⟨rfl, hM⟩ := hM
    have hv : ∃ g cp n, n = NL.length + 1 ∧ u5 = .slice (some ⟨g, 0, none⟩) n cp := by
     rcases hC.own.2 with ⟨_, h0⟩ | ⟨g, c3, cur, h, _⟩
     ·simp at h0
     ·exact ⟨g, c3, _, rfl, by simpa using h⟩
    obtain ⟨g, cp, n, hn, rfl⟩ := hv
    have hlM : NL.length = rest.length := by rw [← hM]; simp
    have hks : ks.length = k := by omega
    have hn5 : n ≤ 75001 := by omega
    have hn0 : 0 < n := by omega
    have HC := Lib.hid hC; have HM := Lib.hid hM; have HB := Lib.hid hB; have HOf := Lib.hid hofs; have HCl := Lib.hid hcell; have HAr := Lib.hid har; have HOk := Lib.hid hok; have HLM := Lib.hid hlM; have HKs := Lib.hid hks; have HN := Lib.hid hn
    clear hC hM hB hTk hofs hcell har hok hlM hks hn hst hst2 hbk
    have hown : wr.ownsRow w.heap.size 57 9 (.slice (some ⟨g, 0, none⟩) n cp) n (((hdN kd ks, (o, c)) :: NL).flatMap ndc) := by have h := HC.out.own; rw [List.length_cons, ← HN.out] at h; exact h
    obtain ⟨o1, c1, e1, hs1⟩ := Sv.of_owns hown
    simp only [Value.slice.injEq, true_and] at e1
    obtain ⟨rfl, rfl⟩ := e1
    have hcp := hs1.bound
    have b8 : wr.cell? ⟨g, 8, none⟩ = some (.slice o k c) := by
     have hn' := HN.out
     rw [World.ownsRow.cellAt hown 8 (by omega), List.flatMap_cons]
     show some (Value.slice o ks.length c) = _
     rw [HKs.out]
    have b8f : wr.frozen? ⟨g, 8, none⟩ = false := World.ownsRow.frozenAt hown 8
    clear hs1 hown
    have ha1 := (Below.refl wr.heap.size wr).alloc (Nat.le_refl _) (.cells #[.int .i64 (n : Int)] 3)
    have HC1 := Lib.hid (HC.out.below ha1)
    have HB1 := Lib.hid (HB.out.trans (ha1.mono HB.out.size))
    have HS1 := Lib.hid (Sv.lit wr 3 #[.int .i64 (n : Int)] 1 1 (by decide) rfl)
    have HO1 := Lib.hid (inc_one [(n : Int)])
    have HKd : Hid ((wr.alloc (.cells #[.int .i64 (n : Int)] 3)).ownsRow w.heap.size 3 1 (.slice o k c) k (inc ks)) := by
     have h := HC1.out.kids _ (List.mem_cons_self ..); simp only [kv, hdN, HKs.out] at h; exact h
    have HLn : Hid ((k + 1) * 8 ≤ 140737488355328 ∧ k + 1 ≤ maxLen) := ⟨by omega, by simp only [maxLen]; omega⟩
    have HNo : Hid ((wr.alloc (.cells #[.int .i64 (n : Int)] 3)).ownsRow w.heap.size 57 9 (.slice (some ⟨g, 0, none⟩) n cp) n (((hdN kd ks, (o, c)) :: NL).flatMap ndc)) := by have h := HC1.out.own; rw [List.length_cons, ← HN.out] at h; exact h
    have HBf : Hid (∀ v' w', AppTo (wr.alloc (.cells #[.int .i64 (n : Int)] 3)) w.heap.size 3 1 (.slice o k c) k (inc ks) 1 [.int .i64 (n : Int)] v' w' → (∃ o' c', v' = .slice o' (k + 1) c') ∧ w'.cell? ⟨g, 8, none⟩ = some (.slice o k c) ∧ w'.frozen? ⟨g, 8, none⟩ = false) := fun v' w' hA => by
     have ho2 := owns_appTo HNo.out HKd.out (by decide) hA
     refine ⟨?_, ?_, World.ownsRow.frozenAt ho2 8⟩
     rotate_left
     ·have hn' := HN.out
      rw [World.ownsRow.cellAt ho2 8 (by omega), List.flatMap_cons]
      show some (Value.slice o ks.length c) = _
      rw [HKs.out]
     rcases hA with ⟨gk, cap', e1, e2, _⟩ | ho
     ·exact ⟨_, _, e2⟩
     ·obtain ⟨o', c', e, _⟩ := ho.sv; exact ⟨o', c', e⟩
    clear HC HB ha1
    go_upto_region 7 with (at_builtin; refine wpList_appf _ w.heap.size rfl _ _ 55 3 rfl elemI _ k _ rfl HKd.out _ 1 1 _ rfl HS1.out HO1.out (by decide) HLn.out ?_; intro v8 w8 hA; obtain ⟨⟨o', c', rfl⟩, q8, q8f⟩ := HBf.out _ _ hA; have HA := Lib.hid hA; clear hA)
    have HC2 : Hid (Cn w.heap.size (w8.setCell ⟨g, 8, none⟩ (.slice o' (k + 1) c')) (.slice (some ⟨g, 0, none⟩) n cp) ((hdN kd (ks ++ [(n : Int)]), (o', c')) :: NL)) := by
     have h := HC1.out.kid (x := hdN kd ks) (y := n) (o' := o') (c' := c') (w' := w8) HB1.out.size (by simp only [hdN, HKs.out]; exact HA.out)
     simp only [hdN, HKs.out] at h
     exact h
    have HB2 : Hid (Below w.heap.size w (w8.setCell ⟨g, 8, none⟩ (.slice o' (k + 1) c'))) := Lib.hid ((HA.out.below HB1.out (fun b hb => (HKd.out.lt b hb).1)).setCell (p := ⟨g, 8, none⟩) ((HNo.out.lt g rfl).1) _)
    clear HC1 HB1 HS1 HO1 HKd HLn HBf HNo HA q8 q8f b8 b8f
    revert HC2 HB2
    generalize w8.setCell _ _ = w9
    intro HC2 HB2
    obtain ⟨a, rfl, c0⟩ := HCl.out w9 HB2.out
    have HMv := Lib.hid (moved_any w9 bv bN (n : Int) (HAr.out w9 HB2.out) HOk.out (by omega) (by omega))
    have hb9 := HBw.out.sv.bound
    go_upto_region 7 with (fail)
    go_wp2_with fail
    refine (HMv.out).mono ?_
    rintro e w10 ⟨v10, ML, rfl, hC10, hM10, hB10⟩
    obtain ⟨o2, c2, m, hm, hv, hs2⟩ : ∃ o2 c2 m, m = ML.length ∧ v10 = .slice o2 m c2 ∧ Sv w10 o2 m c2 9 (ML.flatMap ndc) := by
     obtain ⟨o2, c2, e, h⟩ := Sv.of_owns hC10.own; exact ⟨o2, c2, _, rfl, e, h⟩
    subst hv
    have hmb : m = bN.length := by have h := congrArg List.length hM10; simp at h; omega
    have hml : 0 < m ∧ m ≤ 5000 := by have h := HOk.out.1; omega
    have HC3 := Lib.hid (HC2.out.below hB10)
    have HB3 := Lib.hid (HB2.out.trans (hB10.mono HB2.out.size))
    have HM3 := Lib.hid hM10; have HD3 := Lib.hid hC10; have HS3 := Lib.hid hs2; have HMm := Lib.hid hm
    have HOc := Lib.hid (ndc_one ML)
    have HNo : Hid (w10.ownsRow w.heap.size 57 9 (.slice (some ⟨g, 0, none⟩) n cp) n (((hdN kd (ks ++ [(n : Int)]), (o', c')) :: NL).flatMap ndc)) := by have h := HC3.out.own; rw [List.length_cons, ← HN.out] at h; exact h
    have HLn : Hid (0 < m ∧ (n + m) * 96 ≤ 140737488355328 ∧ n + m ≤ maxLen) := ⟨hml.1, by omega, by simp only [maxLen]; omega⟩
    have HB9 := Lib.hid HB2.out.size
    have hsb := hs2.bound
    have HAp : Hid (∀ p ∈ ((hdN kd (ks ++ [(n : Int)]), (o', c')) :: NL), ∀ q ∈ ML, ∀ b, (kv p).ownBlock = some b → (kv q).ownBlock ≠ some b) := fun p hp q hq b h1 h2 => by
     have h3 := ((HC2.out.kids p hp).lt b h1).2
     have h4 := ((hC10.kids q hq).lt b h2).1
     omega
    clear hM10 hC10 hs2 hm hB10 HC2 HB2 HMv c0 hmb HCl HAr
    generalize w9.heap.size = g9 at *
    go_wp2_with (at_builtin; refine wpList_appf _ w.heap.size rfl _ _ 23 57 rfl elemNo _ n _ rfl HNo.out _ m c2 _ rfl HS3.out HOc.out HLn.out.1 HLn.out.2 ?_; intro v8 w11 hA; have HA := Lib.hid hA; clear hA)
    go_roundw
    case rel =>
     refine ⟨k + 1, by omega, by go_num, ((hdN kd (ks ++ [(n : Int)]), (o', c')) :: NL) ++ ML, ?_, ?_, ?_⟩
     ·refine HC3.out.more (B2 := g9) HD3.out.kids HD3.out.ap HB9.out HAp.out HB3.out.size ?_
      rw [List.length_cons, ← HN.out, ← HMm.out]
      exact HA.out
     ·unfold ofN
      rw [HOf.out]
      have hnr : n = rest.length + 1 := by have := HLM.out; have := HN.out; omega
      simp only [ofS, List.cons_append, List.map_cons, List.map_append, HM.out, HM3.out, hnr]
     ·exact HA.out.below HB3.out (fun b hb => (HNo.out.lt b hb).1)
    case measure => simp [intOf]; omega
  ·have hke : k = bs.length := by omega
   subst hke
   obtain ⟨NL, hC, hM, hB⟩ := hI.out
   go_wp2_with fail
   go_ret
   exact ⟨_, NL, rfl, hC, by rw [hM, List.take_of_length_le (Nat.le_refl _)], hB⟩
end Go.Proofs.Ytdnkffplkleolaa
