/- Walks and plain laws: Ld Le Kh Ki. -/
import Derived.Test.YtdnkffplkleolaaGreatM07
import Derived.Test.YtdnkffplkleolaaGreatM06
namespace Go.Proofs.YtdnkffplkleolaaGreat
open Go.RowKit
set_option maxRecDepth 100000
set_option maxHeartbeats 2000000

theorem owns_appTo {w w' : World} {B B' : Nat} {e e' : TypeId} {s s' n n' m : Nat} {v v' v1 : Value} {xs xs' ys : List Value} (h : w.ownsRow B e s v n xs) (h' : w.ownsRow B' e' s' v' n' xs') (he : e' ≠ e) (hA : AppTo w B' e' s' v' n' xs' m ys v1 w') : w'.ownsRow B e s v n xs := by
 rcases hA with ⟨gk, cap', e1, e2, hf, ho, ho'⟩ | ho
 ·refine owns_fr h hf (fun k hk e3 => ?_)
  subst e3
  exact absurd (owns_type h' h (by rw [e1]; rfl) hk) he
 ·exact owns_fr h (Fr.of_below (F := fun _ => False) ho.2) (fun _ _ h => h)

theorem of_any' (w : World) (kd : Int) (ao : Option Addr) (cap : Nat) (bs : List (Value × List Nd)) (hb : Bw w ao cap bs) (hl : bs.length ≤ 15) :
  Calls Tryz.prog 39 #[.int .i64 kd, .slice ao bs.length cap] w (Mk w (ofN kd (bs.map (·.2)))) := by
 have hcb := hb.sv.bound
 have HBw := Lib.hid hb
 clear hb
 have HC0 : Hid (Cn w.heap.size (w.alloc (.cells #[.int .i64 kd, .int .u64 0, .int .u64 0, .int .u64 0, .int .u64 0, .string ⟨#[]⟩, .int .i64 0, .int .i64 0, .slice none 0 0] 55)) (.slice (some ⟨w.heap.size, 0, none⟩) 1 1) [(hdN kd [], (none, 0))]) := Cn.one w (hdN kd []) rfl
 have HB0 := Lib.hid ((Below.refl _ _).alloc (Nat.le_refl w.heap.size) (.cells #[.int .i64 kd, .int .u64 0, .int .u64 0, .int .u64 0, .int .u64 0, .string ⟨#[]⟩, .int .i64 0, .int .i64 0, .slice none 0 0] 55))
 go_enter Tryz.func39, Tryz.ntmps39
 go_upto_region 2 with (fail)
 revert HC0 HB0
 generalize w.alloc _ = w1
 intro HC0 HB0
 go_wp2_with fail
 go_loopw [5, 6] (fun v i wr => ∃ k : Nat, k ≤ bs.length ∧ i = .int .i64 k ∧ Hid (∃ NL, Cn w.heap.size wr v NL ∧ NL.map (·.1) = ofN kd ((bs.take k).map (·.2)) ∧ Below w.heap.size w wr)) (fun _ i _ => bs.length - (intOf i).toNat)
 case atStart => exact ⟨0, by omega, rfl, [(hdN kd [], (none, 0))], HC0.out, rfl, HB0.out⟩
 case round =>
  obtain ⟨k, hk, rfl, hI⟩ := hrel
  by_cases hlt : k < bs.length
  ·have hlt' : (k : Int) < bs.length := by omega
   obtain ⟨NL, hC, hM, hB⟩ := hI.out
   clear hI HC0 HB0
   have hbk : bs[k]? = some bs[k] := List.getElem?_eq_getElem hlt
   have hTk : (bs.take (k + 1)).map (·.2) = (bs.take k).map (·.2) ++ [bs[k].2] := by rw [List.take_succ_eq_append_getElem hlt, List.map_append]; rfl
   have hcell : ∀ w', Below w.heap.size w w' → ∃ a, ao = some a ∧ w'.cell? (a.add k) = some bs[k].1 := fun w' hb => by
    obtain ⟨a, ha, hc⟩ := (HBw.out.below hb).sv.cell k (by simpa using hlt)
    exact ⟨a, ha, by rw [hc]; simp [hbk]⟩
   have har : ∀ w', Below w.heap.size w w' → Ar w' bs[k].1 bs[k].2 := fun w' hb => (HBw.out.ar _ (List.getElem_mem hlt)).below hb
   have hok := HBw.out.ok _ (List.getElem_mem hlt)
   generalize bs[k] = p at *
   obtain ⟨bv, bN⟩ := p
   simp only [] at hTk hcell har hok
   have hst := ofL_len1 ((bs.take k).map (·.2))
   have hst2 := ofL_len2 (bs := (bs.take k).map (·.2)) (by
    intro b hb
    obtain ⟨p, hp, rfl⟩ := List.mem_map.1 hb
    exact (HBw.out.ok p (List.mem_of_mem_take hp)).1.2)
   simp only [List.length_map, List.length_take] at hst hst2
   unfold ofN at hM
   have hofs : ofL ((bs.take (k + 1)).map (·.2)) = ofS (ofL ((bs.take k).map (·.2))) bN := by rw [hTk, ofL_snoc]
   generalize ofL ((bs.take k).map (·.2)) = st at *
   obtain ⟨ks, rest⟩ := st
   simp only [] at hst hst2 hM hofs
   cases NL with
   | nil => simp at hM
   | cons p NL =>
    obtain ⟨x, o, c⟩ := p
    simp only [List.map_cons, List.cons.injEq] at hM
    obtain ⟨rfl, hM⟩ := hM
    have hv : ∃ g cp n, n = NL.length + 1 ∧ u5 = .slice (some ⟨g, 0, none⟩) n cp := by
     rcases hC.own.2 with ⟨_, h0⟩ | ⟨g, c3, cur, h, _⟩
     ·simp at h0
     ·exact ⟨g, c3, _, rfl, by simpa using h⟩
    obtain ⟨g, cp, n, hn, rfl⟩ := hv
    have hlM : NL.length = rest.length := by rw [← hM]; simp
    have hks : ks.length = k := by omega
    have hn5 : n ≤ 75001 := by omega
    have hn0 : 0 < n := by omega
    have HC := Lib.hid hC; have HM := Lib.hid hM; have HB := Lib.hid hB; have HOf := Lib.hid hofs; have HCl := Lib.hid hcell; have HAr := Lib.hid har; have HOk := Lib.hid hok; have HLM := Lib.hid hlM; have HKs := Lib.hid hks; have HN := Lib.hid hn
    clear hC hM hB hTk hofs hcell har hok hlM hks hn hst hst2 hbk
    have hown : wr.ownsRow w.heap.size 55 9 (.slice (some ⟨g, 0, none⟩) n cp) n (((hdN kd ks, (o, c)) :: NL).flatMap ndc) := by have h := HC.out.own; rw [List.length_cons, ← HN.out] at h; exact h
    obtain ⟨o1, c1, e1, hs1⟩ := Sv.of_owns hown
    simp only [Value.slice.injEq, true_and] at e1
    obtain ⟨rfl, rfl⟩ := e1
    have hcp := hs1.bound
    have b8 : wr.cell? ⟨g, 8, none⟩ = some (.slice o k c) := by
     have hn' := HN.out
     rw [World.ownsRow.cellAt hown 8 (by omega), List.flatMap_cons]
     show some (Value.slice o ks.length c) = _
     rw [HKs.out]
    have b8f : wr.frozen? ⟨g, 8, none⟩ = false := World.ownsRow.frozenAt hown 8
    clear hs1 hown
    have ha1 := (Below.refl wr.heap.size wr).alloc (Nat.le_refl _) (.cells #[.int .i64 (n : Int)] 3)
    have HC1 := Lib.hid (HC.out.below ha1)
    have HB1 := Lib.hid (HB.out.trans (ha1.mono HB.out.size))
    have HS1 := Lib.hid (Sv.lit wr 3 #[.int .i64 (n : Int)] 1 1 (by decide) rfl)
    have HO1 := Lib.hid (inc_one [(n : Int)])
    have HKd : Hid ((wr.alloc (.cells #[.int .i64 (n : Int)] 3)).ownsRow w.heap.size 3 1 (.slice o k c) k (inc ks)) := by
     have h := HC1.out.kids _ (List.mem_cons_self ..); simp only [kv, hdN, HKs.out] at h; exact h
    have HLn : Hid ((k + 1) * 8 ≤ 140737488355328 ∧ k + 1 ≤ maxLen) := ⟨by omega, by simp only [maxLen]; omega⟩
    have HNo : Hid ((wr.alloc (.cells #[.int .i64 (n : Int)] 3)).ownsRow w.heap.size 55 9 (.slice (some ⟨g, 0, none⟩) n cp) n (((hdN kd ks, (o, c)) :: NL).flatMap ndc)) := by have h := HC1.out.own; rw [List.length_cons, ← HN.out] at h; exact h
    have HBf : Hid (∀ v' w', AppTo (wr.alloc (.cells #[.int .i64 (n : Int)] 3)) w.heap.size 3 1 (.slice o k c) k (inc ks) 1 [.int .i64 (n : Int)] v' w' → (∃ o' c', v' = .slice o' (k + 1) c') ∧ w'.cell? ⟨g, 8, none⟩ = some (.slice o k c) ∧ w'.frozen? ⟨g, 8, none⟩ = false) := fun v' w' hA => by
     have ho2 := owns_appTo HNo.out HKd.out (by decide) hA
     refine ⟨?_, ?_, World.ownsRow.frozenAt ho2 8⟩
     rotate_left
     ·have hn' := HN.out
      rw [World.ownsRow.cellAt ho2 8 (by omega), List.flatMap_cons]
      show some (Value.slice o ks.length c) = _
      rw [HKs.out]
     rcases hA with ⟨gk, cap', e1, e2, _⟩ | ho
     ·exact ⟨_, _, e2⟩
     ·obtain ⟨o', c', e, _⟩ := ho.sv; exact ⟨o', c', e⟩
    clear HC HB ha1
    go_upto_region 7 with (at_builtin; refine wpList_appf _ w.heap.size rfl _ _ 49 3 rfl elemI _ k _ rfl HKd.out _ 1 1 _ rfl HS1.out HO1.out (by decide) HLn.out ?_; intro v8 w8 hA; obtain ⟨⟨o', c', rfl⟩, q8, q8f⟩ := HBf.out _ _ hA; have HA := Lib.hid hA; clear hA)
    have HC2 : Hid (Cn w.heap.size (w8.setCell ⟨g, 8, none⟩ (.slice o' (k + 1) c')) (.slice (some ⟨g, 0, none⟩) n cp) ((hdN kd (ks ++ [(n : Int)]), (o', c')) :: NL)) := by
     have h := HC1.out.kid (x := hdN kd ks) (y := n) (o' := o') (c' := c') (w' := w8) HB1.out.size (by simp only [hdN, HKs.out]; exact HA.out)
     simp only [hdN, HKs.out] at h
     exact h
    have HB2 : Hid (Below w.heap.size w (w8.setCell ⟨g, 8, none⟩ (.slice o' (k + 1) c'))) := Lib.hid ((HA.out.below HB1.out (fun b hb => (HKd.out.lt b hb).1)).setCell (p := ⟨g, 8, none⟩) ((HNo.out.lt g rfl).1) _)
    clear HC1 HB1 HS1 HO1 HKd HLn HBf HNo HA q8 q8f b8 b8f
    revert HC2 HB2
    generalize w8.setCell _ _ = w9
    intro HC2 HB2
    obtain ⟨a, rfl, c0⟩ := HCl.out w9 HB2.out
    have HMv := Lib.hid (moved_any w9 bv bN (n : Int) (HAr.out w9 HB2.out) HOk.out (by omega) (by omega))
    have hb9 := HBw.out.sv.bound
    go_upto_region 7 with (fail)
    go_wp2_with fail
    refine (HMv.out).mono ?_
    rintro e w10 ⟨v10, ML, rfl, hC10, hM10, hB10⟩
    obtain ⟨o2, c2, m, hm, hv, hs2⟩ : ∃ o2 c2 m, m = ML.length ∧ v10 = .slice o2 m c2 ∧ Sv w10 o2 m c2 9 (ML.flatMap ndc) := by
     obtain ⟨o2, c2, e, h⟩ := Sv.of_owns hC10.own; exact ⟨o2, c2, _, rfl, e, h⟩
    subst hv
    have hmb : m = bN.length := by have h := congrArg List.length hM10; simp at h; omega
    have hml : 0 < m ∧ m ≤ 5000 := by have h := HOk.out.1; omega
    have HC3 := Lib.hid (HC2.out.below hB10)
    have HB3 := Lib.hid (HB2.out.trans (hB10.mono HB2.out.size))
    have HM3 := Lib.hid hM10; have HD3 := Lib.hid hC10; have HS3 := Lib.hid hs2; have HMm := Lib.hid hm
    have HOc := Lib.hid (ndc_one ML)
    have HNo : Hid (w10.ownsRow w.heap.size 55 9 (.slice (some ⟨g, 0, none⟩) n cp) n (((hdN kd (ks ++ [(n : Int)]), (o', c')) :: NL).flatMap ndc)) := by have h := HC3.out.own; rw [List.length_cons, ← HN.out] at h; exact h
    have HLn : Hid (0 < m ∧ (n + m) * 96 ≤ 140737488355328 ∧ n + m ≤ maxLen) := ⟨hml.1, by omega, by simp only [maxLen]; omega⟩
    have HB9 := Lib.hid HB2.out.size
    have hsb := hs2.bound
    have HAp : Hid (∀ p ∈ ((hdN kd (ks ++ [(n : Int)]), (o', c')) :: NL), ∀ q ∈ ML, ∀ b, (kv p).ownBlock = some b → (kv q).ownBlock ≠ some b) := fun p hp q hq b h1 h2 => by
     have h3 := ((HC2.out.kids p hp).lt b h1).2
     have h4 := ((hC10.kids q hq).lt b h2).1
     omega
    clear hM10 hC10 hs2 hm hB10 HC2 HB2 HMv c0 hmb HCl HAr
    generalize w9.heap.size = g9 at *
    go_wp2_with (at_builtin; refine wpList_appf _ w.heap.size rfl _ _ 23 55 rfl elemNo _ n _ rfl HNo.out _ m c2 _ rfl HS3.out HOc.out HLn.out.1 HLn.out.2 ?_; intro v8 w11 hA; have HA := Lib.hid hA; clear hA)
    go_roundw
    case rel =>
     refine ⟨k + 1, by omega, by go_num, ((hdN kd (ks ++ [(n : Int)]), (o', c')) :: NL) ++ ML, ?_, ?_, ?_⟩
     ·refine HC3.out.more (B2 := g9) HD3.out.kids HD3.out.ap HB9.out HAp.out HB3.out.size ?_
      rw [List.length_cons, ← HN.out, ← HMm.out]
      exact HA.out
     ·unfold ofN
      rw [HOf.out]
      have hnr : n = rest.length + 1 := by have := HLM.out; have := HN.out; omega
      simp only [ofS, List.cons_append, List.map_cons, List.map_append, HM.out, HM3.out, hnr]
     ·exact HA.out.below HB3.out (fun b hb => (HNo.out.lt b hb).1)
    case measure => simp [intOf]; omega
  ·have hke : k = bs.length := by omega
   subst hke
   obtain ⟨NL, hC, hM, hB⟩ := hI.out
   go_wp2_with fail
   go_ret
   exact ⟨_, NL, rfl, hC, by rw [hM, List.take_of_length_le (Nat.le_refl _)], hB⟩
end Go.Proofs.YtdnkffplkleolaaGreat
namespace Go.Proofs.YtdnkffplkleolaaGreat
open Go.RowKit
set_option maxRecDepth 100000

theorem Mk.since {w w1 w' : World} {N : List Nd} {e : Ending} (h : Mk w1 N e w') (hb : Below w.heap.size w w1) : Mk w N e w' := by
 obtain ⟨v, NL, rfl, h1, h2, h3⟩ := h
 exact ⟨v, NL, rfl, h1.mono hb.size, h2, hb.trans (h3.mono hb.size)⟩
theorem Bw.lit (w : World) (bs : List (Value × List Nd)) (n : Nat) (hn : bs.length = n) (hl : n ≤ 1000) (ha : ∀ p ∈ bs, Ar w p.1 p.2) (ho : ∀ p ∈ bs, okN p.2) : Bw (w.alloc (.cells (bs.map (·.1)).toArray 23)) (some ⟨w.heap.size, 0, none⟩) n bs := by
 subst hn
 refine ⟨?_, fun p hp => (ha p hp).below ((Below.refl _ _).alloc (Nat.le_refl _) _), ho⟩
 have := Sv.lit w 23 (bs.map (·.1)).toArray bs.length 1 (by simp only [maxLen]; omega) (by simp)
 simpa using this

theorem in_any (w : World) (kd : Int) (v : Value) (N : List Nd) (ha : Ar w v N) (hN : okN N) : Calls Tryz.prog 42 #[.int .i64 kd, v] w (Mk w (ofN kd [N])) := by
 have HO := Lib.hid (of_any' (w.alloc (.cells #[v] 23)) kd (some ⟨w.heap.size, 0, none⟩) 1 [(v, N)] (Bw.lit w [(v, N)] 1 rfl (by decide) (by simpa using ha) (by simpa using hN)) (by simp))
 obtain ⟨o, c, NK, rfl, _, _⟩ := ha
 have HB := Lib.hid ((Below.refl w.heap.size w).alloc (Nat.le_refl _) (.cells #[.slice o N.length c] 23))
 go_enter Tryz.func42, Tryz.ntmps42
 go_wp2_with (go_at_call 39; refine (HO.out).mono ?_; rintro e w1 hm; obtain ⟨v, NL, rfl, h1, h2, h3⟩ := hm.since HB.out)
 go_ret
 exact ⟨v, NL, rfl, h1, h2, h3⟩

def bs2 (a b : List Nd) (va vb : Value) : List (Value × List Nd) := [(va, a), (vb, b)]
theorem bw2 (w : World) (va vb : Value) (a b : List Nd) (ha : Ar w va a) (hb : Ar w vb b) (h1 : okN a) (h2 : okN b) : Bw (w.alloc (.cells #[va, vb] 23)) (some ⟨w.heap.size, 0, none⟩) 2 (bs2 a b va vb) :=
 Bw.lit w (bs2 a b va vb) 2 rfl (by decide) (by simp [bs2, ha, hb]) (by simp [bs2, h1, h2])
theorem chain_any (w : World) (va vb : Value) (a b : List Nd) (ha : Ar w va a) (hb : Ar w vb b) (h1 : okN a) (h2 : okN b) : Calls Tryz.prog 38 #[va, vb] w (Mk w (ofN 6 [a, b])) := by
 have HO := Lib.hid (of_any' _ 6 _ 2 _ (bw2 w va vb a b ha hb h1 h2) (by simp [bs2]))
 have HB := Lib.hid ((Below.refl w.heap.size w).alloc (Nat.le_refl _) (.cells #[va, vb] 23))
 obtain ⟨o, c, NK, rfl, _, _⟩ := ha
 obtain ⟨o2, c2, NK2, rfl, _, _⟩ := hb
 go_enter Tryz.func38, Tryz.ntmps38
 go_wp2_with (go_at_call 39; refine (HO.out).mono ?_; rintro e w1 hm; obtain ⟨v, NL, rfl, h1, h2, h3⟩ := hm.since HB.out)
 go_ret
 exact ⟨v, NL, rfl, h1, h2, h3⟩
theorem first_any (w : World) (va vb : Value) (a b : List Nd) (ha : Ar w va a) (hb : Ar w vb b) (h1 : okN a) (h2 : okN b) : Calls Tryz.prog 25 #[va, vb] w (Mk w (ofN 7 [a, b])) := by
 have HO := Lib.hid (of_any' _ 7 _ 2 _ (bw2 w va vb a b ha hb h1 h2) (by simp [bs2]))
 have HB := Lib.hid ((Below.refl w.heap.size w).alloc (Nat.le_refl _) (.cells #[va, vb] 23))
 obtain ⟨o, c, NK, rfl, _, _⟩ := ha
 obtain ⟨o2, c2, NK2, rfl, _, _⟩ := hb
 go_enter Tryz.func25, Tryz.ntmps25
 go_wp2_with (go_at_call 39; refine (HO.out).mono ?_; rintro e w1 hm; obtain ⟨v, NL, rfl, h1, h2, h3⟩ := hm.since HB.out)
 go_ret
 exact ⟨v, NL, rfl, h1, h2, h3⟩
end Go.Proofs.YtdnkffplkleolaaGreat
namespace Go.Proofs.YtdnkffplkleolaaGreat
open Go.RowKit
set_option maxRecDepth 100000
set_option maxHeartbeats 2000000

theorem sameNs_any (w : World) (ao bo : Option Addr) (n ac bc : Nat) (s t : List (Nd × (Option Addr × Nat))) (ha : NdW w ao n ac s) (hb : NdW w bo n bc t) (he : s.map (·.1) = t.map (·.1)) :
  Calls Tryz.prog 60 #[.slice ao n ac, .slice bo n bc] w fun r w' => r = .returned (.bool true) ∧ Below w.heap.size w w' := by
 obtain ⟨h1, h2⟩ := ha.sv.bound
 obtain ⟨h3, h4⟩ := hb.sv.bound
 have hl := ha.sv.n_eq ndc_len (by decide)
 have hl' := hb.sv.n_eq ndc_len (by decide)
 have hx : ∀ k (hk : k < s.length) (hk' : k < t.length), s[k].1 = t[k].1 := fun k hk hk' => by
  have h := congrArg (fun l => l[k]?) he
  simp only [List.getElem?_map, List.getElem?_eq_getElem hk, List.getElem?_eq_getElem hk', Option.map_some] at h
  exact Option.some.inj h
 have HA := Lib.hid ha; have HB := Lib.hid hb; have HL := Lib.hid hl; have HL' := Lib.hid hl'; have HX := Lib.hid hx
 clear ha hb hl hl' he hx
 go_enter Tryz.func60, Tryz.ntmps60
 go_wp2_with fail
 go_loopw [5] (fun i wr => ∃ k : Nat, k ≤ n ∧ i = .int .i64 k ∧ Hid (Below w.heap.size w wr)) (fun i _ => n - (intOf i).toNat)
 case atStart => exact ⟨0, by omega, rfl, Below.refl _ _⟩
 case round =>
  obtain ⟨k, hk, rfl, HBr⟩ := hrel
  by_cases hlt : k < n
  ·have hlt' : (k : Int) < n := by omega
   have hkl : k < s.length := by have := HL.out; omega
   have hkl' : k < t.length := by have := HL'.out; omega
   have HAr := Lib.hid (HA.out.below HBr.out)
   have HBb := Lib.hid (HB.out.below HBr.out)
   have HE := Lib.hid (HX.out k hkl hkl')
   have HM : Hid (∀ y : Later wr, Calls Tryz.prog 62 #[.agg #[.int .i64 s[k].1.kind, .int .u64 s[k].1.c0, .int .u64 s[k].1.c1, .int .u64 s[k].1.c2, .int .u64 s[k].1.c3, .string s[k].1.text, .int .i64 s[k].1.rule, .int .i64 s[k].1.lev, .slice s[k].2.1 s[k].1.kids.length s[k].2.2], .agg #[.int .i64 t[k].1.kind, .int .u64 t[k].1.c0, .int .u64 t[k].1.c1, .int .u64 t[k].1.c2, .int .u64 t[k].1.c3, .string t[k].1.text, .int .i64 t[k].1.rule, .int .i64 t[k].1.lev, .slice t[k].2.1 t[k].1.kids.length t[k].2.2]] y.val fun r w' => r = .returned (.bool true) ∧ Below y.val.heap.size y.val w') := fun y => by
    have h := HAr.out.kids _ (List.getElem_mem hkl)
    have h' := HBb.out.kids _ (List.getElem_mem hkl')
    rw [← HE.out] at h' ⊢
    exact sameNo_any y.val s[k].1 s[k].2.1 t[k].2.1 s[k].2.2 t[k].2.2 (h.below y.ok) (h'.below y.ok)
   obtain ⟨a, rfl, a0, a1, a2, a3, a4, a5, a6, a7, a8⟩ := HAr.out.sv.nd9 hkl
   obtain ⟨b, rfl, b0, b1, b2, b3, b4, b5, b6, b7, b8⟩ := HBb.out.sv.nd9 hkl'
   clear HAr HBb HE
   generalize s[k] = p at *
   generalize t[k] = q at *
   obtain ⟨⟨p0, p1, p2, p3, p4, p5, p6, p7, p8⟩, p9, p10⟩ := p
   obtain ⟨⟨q0, q1, q2, q3, q4, q5, q6, q7, q8⟩, q9, q10⟩ := q
   simp only [] at a0 a1 a2 a3 a4 a5 a6 a7 a8 b0 b1 b2 b3 b4 b5 b6 b7 b8 HM
   clear hkl hkl'
   have later : ∀ (p : Addr) (v : Value), wr.cell? p = some v → ∀ y : Later wr, y.val.cell? p = some v := fun p v h y => (y.ok.cell (World.block_lt_of_cell? wr _ h)).trans h
   have a0 := later _ _ a0
   have a1 := later _ _ a1
   have a2 := later _ _ a2
   have a3 := later _ _ a3
   have a4 := later _ _ a4
   have a5 := later _ _ a5
   have a6 := later _ _ a6
   have a7 := later _ _ a7
   have a8 := later _ _ a8
   have b0 := later _ _ b0
   have b1 := later _ _ b1
   have b2 := later _ _ b2
   have b3 := later _ _ b3
   have b4 := later _ _ b4
   have b5 := later _ _ b5
   have b6 := later _ _ b6
   have b7 := later _ _ b7
   have b8 := later _ _ b8
   clear later
   go_wp2_with fail
   refine wp_region_later (by kernel_rfl) (by kernel_rfl) ?_
   repeat (go_big_quiet_step ((go_at_call 62; exact Calls.later (HM.out _))))
   refine wpQuiet_nil ?_
   intro w5 hw5
   obtain ⟨y, rfl⟩ := hw5
   have HB5 := Lib.hid (HBr.out.trans (y.ok.mono HBr.out.size))
   clear a0 a1 a2 a3 a4 a5 a6 a7 a8 b0 b1 b2 b3 b4 b5 b6 b7 b8 HM
   generalize y.val = w5 at *
   go_wp2_with fail
   go_roundw
   case rel => exact ⟨k + 1, by omega, by go_num, HB5⟩
   case measure => simp [intOf]; omega
  ·have hge : (n : Int) ≤ k := by omega
   go_wp2_with fail
   go_ret
   exact ⟨rfl, HBr.out⟩

theorem row9 {w : World} {g : Nat} {t : TypeId} {l : List (Nd × (Option Addr × Nat))} (h : hrow w g (l.flatMap ndc).toArray t) (k : Nat) (hk : k < l.length) :
  w.cell? ⟨g, k * 9, none⟩ = some (.int .i64 l[k].1.kind) ∧ w.cell? ⟨g, k * 9 + 1, none⟩ = some (.int .u64 l[k].1.c0) ∧ w.cell? ⟨g, k * 9 + 2, none⟩ = some (.int .u64 l[k].1.c1) ∧ w.cell? ⟨g, k * 9 + 3, none⟩ = some (.int .u64 l[k].1.c2) ∧ w.cell? ⟨g, k * 9 + 4, none⟩ = some (.int .u64 l[k].1.c3) ∧ w.cell? ⟨g, k * 9 + 5, none⟩ = some (.string l[k].1.text) ∧ w.cell? ⟨g, k * 9 + 6, none⟩ = some (.int .i64 l[k].1.rule) ∧ w.cell? ⟨g, k * 9 + 7, none⟩ = some (.int .i64 l[k].1.lev) ∧ w.cell? ⟨g, k * 9 + 8, none⟩ = some (.slice l[k].2.1 l[k].1.kids.length l[k].2.2) := by
 have e : ∀ j v, j < 9 → (ndc l[k])[j]? = some v → w.cell? ⟨g, k * 9 + j, none⟩ = some v := fun j v hj hv => by
  rw [h.cell, List.getElem?_toArray, fl_get ndc_len l k j hk hj]; exact hv
 exact ⟨e 0 _ (by decide) rfl, e 1 _ (by decide) rfl, e 2 _ (by decide) rfl, e 3 _ (by decide) rfl, e 4 _ (by decide) rfl, e 5 _ (by decide) rfl, e 6 _ (by decide) rfl, e 7 _ (by decide) rfl, e 8 _ (by decide) rfl⟩

theorem keptNs_any (β : Int → Int → Int) (HMb : Hid (MiC β)) (HMn : Hid (MnC β)) (w : World) (g B : Nat) (bo : Option Addr) (n bc : Nat) (NK NL : List (Nd × (Option Addr × Nat))) (hr : hrow w g ((NL ++ nmarks β 12).flatMap ndc).toArray 55) (hL : Lt β B w NK NL) (hs : NdW w bo n bc NK) (hbig : n ≤ 5000) (hkb : ∀ p ∈ NK, p.1.kids.length ≤ 5000) :
  Calls Tryz.prog 35 #[.slice (some ⟨g, 0, none⟩) n (n + 12), .slice bo n bc] w fun r w' => r = .returned (.bool true) ∧ Below w.heap.size w w' := by
 obtain ⟨h3, h4⟩ := hs.sv.bound
 have hl := hs.sv.n_eq ndc_len (by decide)
 have hl' : NL.length = n := by rw [← hl]; simpa using congrArg List.length hL.eq
 have hx : ∀ k (hk : k < NL.length) (hk' : k < NK.length), NL[k].1 = NK[k].1 := fun k hk hk' => by
  have h := congrArg (fun l => l[k]?) hL.eq
  simp only [List.getElem?_map, List.getElem?_eq_getElem hk, List.getElem?_eq_getElem hk', Option.map_some] at h
  exact Option.some.inj h
 have HR := Lib.hid hr; have HT := Lib.hid hL; have HS := Lib.hid hs; have HL := Lib.hid hl; have HL' := Lib.hid hl'; have HX := Lib.hid hx; have HKb := Lib.hid hkb
 have HLl : Hid ((NL ++ nmarks β 12).length = n + 12) := by show _ = _; rw [List.length_append, nmarks_len]; omega
 clear hr hL hs hl hl' hx hkb
 go_enter Tryz.func35, Tryz.ntmps35
 go_wp2_with fail
 go_loopw [6] (fun i wr => ∃ k : Nat, k ≤ n + 12 ∧ i = .int .i64 k ∧ Hid (Below w.heap.size w wr)) (fun i _ => n + 12 - (intOf i).toNat)
 case atStart => exact ⟨0, by omega, rfl, Below.refl _ _⟩
 case round =>
  obtain ⟨k, hk, rfl, HB⟩ := hrel
  by_cases hlt : k < n + 12
  ·have hlt' : (k : Int) < (n : Int) + 12 := by omega
   have hcl := row9 (HR.out.below HB.out) k (by have := HLl.out; omega)
   by_cases hkn : k < n
   ·have hkL : k < NL.length := by have := HL'.out; omega
    have hkR : k < NK.length := by have := HL.out; omega
    rw [List.getElem_append_left hkL] at hcl
    obtain ⟨a0, a1, a2, a3, a4, a5, a6, a7, a8⟩ := hcl
    have hkn' : (k : Int) < n := by omega
    have t1 : decide (k < n) = true := decide_eq_true hkn
    have t2 : decide (n ≤ k) = false := decide_eq_false (by omega)
    have HSr := Lib.hid (HS.out.below HB.out)
    have HE := Lib.hid (HX.out k hkL hkR)
    have HM : Hid (∀ y : Later wr, Calls Tryz.prog 61 #[.agg #[.int .i64 NL[k].1.kind, .int .u64 NL[k].1.c0, .int .u64 NL[k].1.c1, .int .u64 NL[k].1.c2, .int .u64 NL[k].1.c3, .string NL[k].1.text, .int .i64 NL[k].1.rule, .int .i64 NL[k].1.lev, .slice NL[k].2.1 NL[k].1.kids.length NL[k].2.2], .agg #[.int .i64 NK[k].1.kind, .int .u64 NK[k].1.c0, .int .u64 NK[k].1.c1, .int .u64 NK[k].1.c2, .int .u64 NK[k].1.c3, .string NK[k].1.text, .int .i64 NK[k].1.rule, .int .i64 NK[k].1.lev, .slice NK[k].2.1 NK[k].1.kids.length NK[k].2.2]] y.val fun r w' => r = .returned (.bool true) ∧ Below y.val.heap.size y.val w') := fun y => by
     obtain ⟨g', _, e2, h⟩ := (HT.out.below HB.out).row _ (List.getElem_mem hkL)
     have h' := HSr.out.kids _ (List.getElem_mem hkR)
     have hb' := HKb.out _ (List.getElem_mem hkR)
     rw [e2]
     rw [HE.out] at h ⊢
     exact keptNo_any β HMb y.val NK[k].1 g' NK[k].2.1 NK[k].2.2 (h.below y.ok) (h'.below y.ok) hb'
    obtain ⟨b, rfl, b0, b1, b2, b3, b4, b5, b6, b7, b8⟩ := HSr.out.sv.nd9 hkR
    clear HSr HE
    generalize NL[k] = p at *
    generalize NK[k] = q at *
    obtain ⟨⟨p0, p1, p2, p3, p4, p5, p6, p7, p8⟩, p9, p10⟩ := p
    obtain ⟨⟨q0, q1, q2, q3, q4, q5, q6, q7, q8⟩, q9, q10⟩ := q
    simp only [] at a0 a1 a2 a3 a4 a5 a6 a7 a8 b0 b1 b2 b3 b4 b5 b6 b7 b8 HM
    clear hkL hkR
    have later : ∀ (p : Addr) (v : Value), wr.cell? p = some v → ∀ y : Later wr, y.val.cell? p = some v := fun p v h y => (y.ok.cell (World.block_lt_of_cell? wr _ h)).trans h
    have a0 := later _ _ a0
    have a1 := later _ _ a1
    have a2 := later _ _ a2
    have a3 := later _ _ a3
    have a4 := later _ _ a4
    have a5 := later _ _ a5
    have a6 := later _ _ a6
    have a7 := later _ _ a7
    have a8 := later _ _ a8
    have b0 := later _ _ b0
    have b1 := later _ _ b1
    have b2 := later _ _ b2
    have b3 := later _ _ b3
    have b4 := later _ _ b4
    have b5 := later _ _ b5
    have b6 := later _ _ b6
    have b7 := later _ _ b7
    have b8 := later _ _ b8
    clear later
    go_wp2_with fail
    refine wp_region_later (by kernel_rfl) (by kernel_rfl) ?_
    repeat (go_big_quiet_step ((go_at_call 61; exact Calls.later (HM.out _))))
    refine wpQuiet_nil ?_
    intro w5 hw5
    obtain ⟨y, rfl⟩ := hw5
    have HB5 := Lib.hid (HB.out.trans (y.ok.mono HB.out.size))
    clear a0 a1 a2 a3 a4 a5 a6 a7 a8 b0 b1 b2 b3 b4 b5 b6 b7 b8 HM
    generalize y.val = w5 at *
    go_wp2_with fail
    go_roundw
    case rel => exact ⟨k + 1, by omega, by go_num, HB5⟩
    case measure => simp [intOf]; omega
   ·have hkn' : (n : Int) ≤ k := by omega
    have t1 : decide (k < n) = false := decide_eq_false hkn
    have t2 : decide (n ≤ k) = true := decide_eq_true (by omega)
    have hwR := HL'.out
    have hx : ((NL ++ nmarks β 12)[k]'(by have := HLl.out; omega)) = mkN β 1 ((k : Int) - n) := by
     rw [List.getElem_append_right (by omega)]
     simp [nmarks, show ((k - NL.length : Nat) : Int) = (k : Int) - n by omega]
    rw [hx] at hcl
    simp only [mkN] at hcl
    obtain ⟨a0, a1, a2, a3, a4, a5, a6, a7, a8⟩ := hcl
    have HM := Lib.hid (fun y : Later wr => HMn.out y.val 1 ((k : Int) - n) (by decide) (by decide) (by omega) (by omega))
    have HM2 : Hid (∀ y : Later wr, Calls Tryz.prog 62 #[.agg #[.int .i64 0, .int .u64 0, .int .u64 0, .int .u64 0, .int .u64 0, .string es0, .int .i64 (β 1 ((k : Int) - n)), .int .i64 0, .slice none 0 0], .agg #[.int .i64 0, .int .u64 0, .int .u64 0, .int .u64 0, .int .u64 0, .string es0, .int .i64 (β 1 ((k : Int) - n)), .int .i64 0, .slice none 0 0]] y.val fun r w' => r = .returned (.bool true) ∧ Below y.val.heap.size y.val w') := fun y =>
     sameNo_any y.val ⟨0, 0, 0, 0, 0, es0, β 1 ((k : Int) - n), 0, []⟩ none none 0 0 (Sv.nil _ _) (Sv.nil _ _)
    clear hx hwR
    generalize β 1 ((k : Int) - n) = c at *
    have later : ∀ (p : Addr) (v : Value), wr.cell? p = some v → ∀ y : Later wr, y.val.cell? p = some v := fun p v h y => (y.ok.cell (World.block_lt_of_cell? wr _ h)).trans h
    have a0 := later _ _ a0
    have a1 := later _ _ a1
    have a2 := later _ _ a2
    have a3 := later _ _ a3
    have a4 := later _ _ a4
    have a5 := later _ _ a5
    have a6 := later _ _ a6
    have a7 := later _ _ a7
    have a8 := later _ _ a8
    clear later
    go_wp2_with fail
    refine wp_region_later (by kernel_rfl) (by kernel_rfl) ?_
    repeat (go_big_quiet_step (first | (go_at_call 54; exact Calls.later (HM.out _)) | (go_at_call 62; exact Calls.later (HM2.out _))))
    refine wpQuiet_nil ?_
    intro w5 hw5
    obtain ⟨y, rfl⟩ := hw5
    have HB5 := Lib.hid (HB.out.trans (y.ok.mono HB.out.size))
    clear a0 a1 a2 a3 a4 a5 a6 a7 a8 HM HM2
    generalize y.val = w5 at *
    go_wp2_with fail
    go_roundw
    case rel => exact ⟨k + 1, by omega, by go_num, HB5⟩
    case measure => simp [intOf]; omega
  ·have hge : (n : Int) + 12 ≤ k := by omega
   go_wp2_with fail
   go_ret
   exact ⟨rfl, HB.out⟩
end Go.Proofs.YtdnkffplkleolaaGreat
namespace Go.Proofs.YtdnkffplkleolaaGreat
open Go.RowKit
set_option maxRecDepth 100000
set_option maxHeartbeats 2000000

/-- A grammar that is lent: rules and nodes in fresh rows, marks behind them, each node's kids in a row of their own. -/
structure Lg (β : Int → Int → Int) (w : World) (g1 g2 : Nat) (NK NL : List (Nd × (Option Addr × Nat))) (G : Gr) : Prop where
 rul : hrow w g1 ((G.rules ++ rmarks β 12).flatMap ruc).toArray 112
 nod : hrow w g2 ((NL ++ nmarks β 12).flatMap ndc).toArray 55
 lt : Lt β g2 w NK NL
theorem Lg.below {β : Int → Int → Int} {w w' : World} {g1 g2 : Nat} {NK NL : List (Nd × (Option Addr × Nat))} {G : Gr} (h : Lg β w g1 g2 NK NL G) (hb : Below w.heap.size w w') : Lg β w' g1 g2 NK NL G :=
 ⟨h.rul.below hb, h.nod.below hb, h.lt.below hb⟩
/-- A lent grammar is a grammar. -/
theorem Lg.gr {β : Int → Int → Int} {w : World} {g1 g2 : Nat} {NK NL : List (Nd × (Option Addr × Nat))} {G : Gr} (h : Lg β w g1 g2 NK NL G) {ro no : Option Addr} {rn rc nn nc : Nat} (hg : GrW w ro rn rc no nn nc NK G) (hr : rn ≤ 100000) (hn : nn ≤ 100000) (hk : ∀ p ∈ NK, p.1.kids.length ≤ 100000) :
  GrW w (some ⟨g1, 0, none⟩) rn (rn + 12) (some ⟨g2, 0, none⟩) nn (nn + 12) NL G := by
 have e1 : (G.rules.flatMap ruc) ++ ((rmarks β 12).flatMap ruc) = (G.rules ++ rmarks β 12).flatMap ruc := by rw [List.flatMap_append]
 have e2 : (NL.flatMap ndc) ++ ((nmarks β 12).flatMap ndc) = (NL ++ nmarks β 12).flatMap ndc := by rw [List.flatMap_append]
 have l1 := hg.rul.n_eq ruc_len (by decide)
 have l2 := hg.nod.sv.n_eq ndc_len (by decide)
 have l3 : NL.length = NK.length := by simpa using congrArg List.length h.lt.eq
 have hx : ∀ p ∈ NL, ∃ q ∈ NK, q.1 = p.1 := fun p hp => by
  have h' : p.1 ∈ NL.map (·.1) := List.mem_map_of_mem hp
  rw [h.lt.eq] at h'
  obtain ⟨q, hq, e⟩ := List.mem_map.1 h'
  exact ⟨q, hq, e⟩
 refine ⟨Sv.of_pre (ys := (rmarks β 12).flatMap ruc) (by rw [e1]; exact h.rul) _ _ _ (by rw [fl_len ruc_len, l1]) (by omega) (by simp only [maxLen]; omega), hg.nam, ⟨Sv.of_pre (ys := (nmarks β 12).flatMap ndc) (by rw [e2]; exact h.nod) _ _ _ (by rw [fl_len ndc_len, l3, l2]) (by omega) (by simp only [maxLen]; omega), ?_, ?_⟩, ?_⟩
 ·intro p hp
  obtain ⟨g, _, e, hr⟩ := h.lt.row p hp
  obtain ⟨q, hq, eq⟩ := hx p hp
  have hb := hk q hq
  rw [eq] at hb
  rw [e]
  have e0 : inc p.1.kids ++ inc (imarks β 12) = inc (p.1.kids ++ imarks β 12) := by simp [inc]
  exact Sv.of_pre (ys := inc (imarks β 12)) (by rw [e0]; exact hr) _ _ _ (by simp [inc]) (by omega) (by simp only [maxLen]; omega)
 ·intro p hp
  obtain ⟨q, hq, eq⟩ := hx p hp
  rw [← eq]; exact hg.nod.txt q hq
 ·rw [h.lt.eq]; exact hg.eq

theorem Lt.frx {β : Int → Int → Int} {B b : Nat} {w w' : World} {NK NL : List (Nd × (Option Addr × Nat))} (h : Lt β B w NK NL) (hf : Fr (fun k => k = b) w w') (hb : b < B) : Lt β B w' NK NL :=
 ⟨h.eq, fun p hp => by obtain ⟨g, h1, h2, h3⟩ := h.row p hp; exact ⟨g, h1, h2, h3.fr hf (fun e => by have e' : g = b := e; omega)⟩⟩
def set2 (w : World) (g : Nat) (x0 x1 : Value) : World := (w.setCell ⟨g, 0, none⟩ x0).setCell ⟨g, 1, none⟩ x1
theorem set2_fr (w : World) (g : Nat) (x0 x1 : Value) : Fr (fun k => k = g) w (set2 w g x0 x1) :=
 (Fr.setCell w ⟨g, 0, none⟩ x0).trans (Fr.setCell _ ⟨g, 1, none⟩ x1) (fun _ _ h => h)
theorem set2_row {w : World} {g : Nat} {a0 a1 : Value} {t : TypeId} (x0 x1 : Value) (h : hrow w g #[a0, a1] t) : hrow (set2 w g x0 x1) g #[x0, x1] t := by
 have k0 : hrow (w.setCell ⟨g, 0, none⟩ x0) g #[x0, a1] t := heap_setCell_same _ _ _ _ _ _ h.h
 have k1 : hrow ((w.setCell ⟨g, 0, none⟩ x0).setCell ⟨g, 1, none⟩ x1) g #[x0, x1] t := heap_setCell_same _ _ _ _ _ _ k0.h
 exact k1

theorem lentGr_any (β : Int → Int → Int) (HMb : Hid (MiC β)) (HMr : Hid (MrC β)) (HMn : Hid (MnC β)) (w : World) (ro no : Option Addr) (rn rc nn nc : Nat) (NK : List (Nd × (Option Addr × Nat))) (G : Gr) (hg : GrW w ro rn rc no nn nc NK G) (hr : rn ≤ 100000) (hn : nn ≤ 100000) (hkb : ∀ p ∈ NK, p.1.kids.length ≤ 100000) :
  Calls Tryz.prog 9 #[.agg #[.slice ro rn rc, .slice no nn nc]] w fun r w' => ∃ g1 g2 NL, r = .returned (.agg #[.slice (some ⟨g1, 0, none⟩) rn (rn + 12), .slice (some ⟨g2, 0, none⟩) nn (nn + 12)]) ∧ Lg β w' g1 g2 NK NL G ∧ w.heap.size ≤ g1 ∧ w.heap.size ≤ g2 ∧ Below w.heap.size w w' := by
 have HR := Lib.hid (fun w' (hb : Below w.heap.size w w') => lentRu_any β HMr w' ro rn rc G.rules (hg.rul.below hb) hr)
 have HN := Lib.hid (fun w' (hb : Below w.heap.size w w') => lentNs_any β HMb HMn w' no nn nc NK (hg.nod.below hb) hn hkb)
 obtain ⟨hx1, hx2⟩ := hg.rul.bound
 obtain ⟨hx3, hx4⟩ := hg.nod.sv.bound
 have HB0 := Lib.hid (al2 (Below.refl w.heap.size w) (.cells #[.slice ro rn rc, .slice no nn nc] 25) (.cells #[.slice none 0 0, .slice none 0 0] 25))
 have HA0 := Lib.hid ((hrow.new w #[.slice ro rn rc, .slice no nn nc] 25).below ((Below.refl _ _).alloc (Nat.le_refl _) (.cells #[.slice none 0 0, .slice none 0 0] 25)))
 have HZ0 : Hid (hrow ((w.alloc (.cells #[.slice ro rn rc, .slice no nn nc] 25)).alloc (.cells #[.slice none 0 0, .slice none 0 0] 25)) (w.heap.size + 1) #[.slice none 0 0, .slice none 0 0] 25) := by have h := hrow.new (w.alloc (.cells #[.slice ro rn rc, .slice no nn nc] 25)) #[.slice none 0 0, .slice none 0 0] 25; rwa [World.size_alloc] at h
 clear hg hr hn hkb
 go_enter Tryz.func9, Tryz.ntmps9
 go_upto_region 1 with (fail)
 revert HB0 HA0 HZ0
 generalize (w.alloc _).alloc _ = w1
 generalize hh1 : w.heap.size + 1 = h1
 generalize hh0 : w.heap.size = h0
 intro HB0 HA0 HZ0
 have HH : Hid (w.heap.size = h0 ∧ h0 + 1 = h1) := ⟨hh0, by omega⟩
 have hne : h0 ≠ h1 := by omega
 have HB1 : Hid (Below w.heap.size w w1) := by rw [hh0]; exact HB0.out
 clear HB0 hh0 hh1
 have HR1 := Lib.hid (HR.out w1 HB1.out)
 have a0 : w1.cell? ⟨h0, 0, none⟩ = some (.slice ro rn rc) := HA0.out.cell 0
 clear HR
 go_wp2_with fail
 refine (HR1.out).mono ?_
 rintro e w2 ⟨rfl, hk, hb2⟩
 have hg : w1.heap.size < w2.heap.size := hk.lt
 have HA2 := Lib.hid (HA0.out.below hb2)
 have HZ2 := Lib.hid (HZ0.out.below hb2)
 have HB2 := Lib.hid (HB1.out.trans (hb2.mono HB1.out.size))
 have HK2 := Lib.hid hk
 have HGe : Hid (h1 < w1.heap.size) := HZ0.out.lt
 clear hb2 hk a0 HR1 HA0 HZ0 HB1
 revert HK2 HGe hg
 generalize w1.heap.size = g1
 intro hg HK2 HGe
 have b0 : w2.cell? ⟨h0, 0, none⟩ = some (.slice ro rn rc) := HA2.out.cell 0
 have b0f := HA2.out.frozen 0
 have hf3 := Fr.setCell w2 ⟨h0, 0, none⟩ (.slice (some ⟨g1, 0, none⟩) rn (rn + 12))
 have HA3 : Hid (hrow (w2.setCell ⟨h0, 0, none⟩ (.slice (some ⟨g1, 0, none⟩) rn (rn + 12))) h0 #[.slice (some ⟨g1, 0, none⟩) rn (rn + 12), .slice no nn nc] 25) := heap_setCell_same _ _ _ _ _ _ HA2.out.h
 have HZ3 := Lib.hid (HZ2.out.fr hf3 (fun e => hne e.symm))
 have HK3 := Lib.hid (HK2.out.fr hf3 (fun e => by have e' : g1 = h0 := e; have h1 := HH.out; have h2 := HGe.out; omega))
 have HB3 := Lib.hid (HB2.out.setCell (p := ⟨h0, 0, none⟩) (by have := HH.out; show w.heap.size ≤ h0; omega) (.slice (some ⟨g1, 0, none⟩) rn (rn + 12)))
 go_upto_region 2 with (fail)
 clear b0 b0f HA2 HZ2 HB2 HK2 hf3 hg
 revert HA3 HZ3 HK3 HB3
 generalize w2.setCell _ _ = w3
 intro HA3 HZ3 HK3 HB3
 obtain ⟨a0, a1⟩ := (HA3.out).c2
 have HN3 := Lib.hid (HN.out w3 HB3.out)
 clear HN
 go_wp2_with fail
 refine (HN3.out).mono ?_
 rintro e w4 ⟨rfl, ⟨NL, hk, hlt⟩, hb4⟩
 have HA4 := Lib.hid (HA3.out.below hb4)
 have HZ4 := Lib.hid (HZ3.out.below hb4)
 have HR4 := Lib.hid (HK3.out.below hb4)
 have HB4 := Lib.hid (HB3.out.trans (hb4.mono HB3.out.size))
 have HK4 := Lib.hid hk
 have HT4 := Lib.hid hlt
 have HGe2 : Hid (h1 < w3.heap.size) := HZ3.out.lt
 clear hb4 hk hlt a0 a1 HN3 HA3 HZ3 HK3 HB3
 revert HGe2 HK4 HT4
 generalize w3.heap.size = g2
 intro HK4 HT4 HGe2
 obtain ⟨b0, b1⟩ := (HA4.out).c2
 have b1f := HA4.out.frozen 1
 have hf5 := Fr.setCell w4 ⟨h0, 1, none⟩ (.slice (some ⟨g2, 0, none⟩) nn (nn + 12))
 have HA5 : Hid (hrow (w4.setCell ⟨h0, 1, none⟩ (.slice (some ⟨g2, 0, none⟩) nn (nn + 12))) h0 #[.slice (some ⟨g1, 0, none⟩) rn (rn + 12), .slice (some ⟨g2, 0, none⟩) nn (nn + 12)] 25) := heap_setCell_same _ _ _ _ _ _ HA4.out.h
 have HZ5 := Lib.hid (HZ4.out.fr hf5 (fun e => hne e.symm))
 have HR5 := Lib.hid (HR4.out.fr hf5 (fun e => by have e' : g1 = h0 := e; have h1 := HH.out; have h2 := HGe.out; omega))
 have HK5 := Lib.hid (HK4.out.fr hf5 (fun e => by have e' : g2 = h0 := e; have h1 := HH.out; have h2 := HGe2.out; omega))
 have HT5 := Lib.hid (HT4.out.frx hf5 (by have h1 := HH.out; have h2 := HGe2.out; show h0 < g2; omega))
 have HB5 := Lib.hid (HB4.out.setCell (p := ⟨h0, 1, none⟩) (by have := HH.out; show w.heap.size ≤ h0; omega) (.slice (some ⟨g2, 0, none⟩) nn (nn + 12)))
 go_upto_region 3 with (fail)
 clear b0 b1 b1f HA4 HZ4 HB4 HR4 HK4 HT4 hf5
 revert HA5 HZ5 HR5 HK5 HT5 HB5
 generalize w4.setCell _ _ = w5
 intro HA5 HZ5 HR5 HK5 HT5 HB5
 obtain ⟨a0, a1⟩ := (HA5.out).c2
 obtain ⟨zq0, zq1⟩ := (HZ5.out).c2
 obtain ⟨zf0, zf1⟩ := (HZ5.out).f2
 have zr := set2_row (.slice (some ⟨g1, 0, none⟩) rn (rn + 12)) (.slice (some ⟨g2, 0, none⟩) nn (nn + 12)) HZ5.out
 have zf := set2_fr w5 h1 (.slice (some ⟨g1, 0, none⟩) rn (rn + 12)) (.slice (some ⟨g2, 0, none⟩) nn (nn + 12))
 unfold set2 at zr zf
 have ZR := Lib.hid zr
 have ZF := Lib.hid zf
 clear zr zf
 go_wp2_with fail
 revert ZR ZF
 generalize (w5.setCell _ _).setCell _ _ = wz
 intro ZR ZF
 obtain ⟨zc0, zc1⟩ := (ZR.out).c2
 exact bodyPost_ret (v := .agg #[.slice (some ⟨g1, 0, none⟩) rn (rn + 12), .slice (some ⟨g2, 0, none⟩) nn (nn + 12)]) (by simp [results, Tryz.results9, go_sem, zc0, zc1]) rfl ⟨g1, g2, NL, rfl,
  ⟨HR5.out.fr ZF.out (fun e => by have e' : g1 = h1 := e; have := HGe.out; omega), HK5.out.fr ZF.out (fun e => by have e' : g2 = h1 := e; have := HGe2.out; omega), HT5.out.frx ZF.out (HGe2.out)⟩,
  by have h1 := HH.out; have h2 := HGe.out; omega, by have h1 := HH.out; have h2 := HGe2.out; omega, HB5.out.trans (ZF.out.below HB5.out.size (fun k hk e => by have e' : k = h1 := e; have := HH.out; omega))⟩
end Go.Proofs.YtdnkffplkleolaaGreat
