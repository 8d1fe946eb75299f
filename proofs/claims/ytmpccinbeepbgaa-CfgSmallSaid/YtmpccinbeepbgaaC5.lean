/- Walks: is a table right? -/
import Derived.Test.YtmpccinbeepbgaaC4
import Derived.Maps.Own
import Derived.Maps.OwnOps
import Derived.Maps.OwnSet
import Derived.Maps.Views
namespace Go.Proofs.Ytmpccinbeepbgaa
open Go.RowKit Go.Maps

theorem law5 : Keyed Try.prog 5 := int_keyed Try.underlying5
theorem zero3 (w : World) : (zeroValue 3).run Try.prog w = .ok (.int .i64 0) w := by kernel_rfl

/-- How many different numbers. -/
def dR : List Int → Nat
  | [] => 0
  | c :: r => if c ∈ r then dR r else dR r + 1
theorem dR_le : ∀ l : List Int, dR l ≤ l.length
  | [] => Nat.le_refl _
  | c :: r => by have := dR_le r; simp only [dR, List.length_cons]; split <;> omega
theorem dR_eq : ∀ l : List Int, dR l = l.length ↔ l.Nodup
  | [] => by simp [dR]
  | c :: r => by
    have h := dR_le r
    have ih := dR_eq r
    simp only [dR, List.length_cons, List.nodup_cons]
    split
    · rename_i hc; constructor
      · intro e; omega
      · intro e; exact absurd hc e.1
    · rename_i hc; constructor
      · intro e; exact ⟨hc, ih.1 (by omega)⟩
      · intro e; rw [ih.2 e.2]

structure MD (D : DataW Unit) (zs : List Int) : Prop where
  tidy : Tidy D
  has : ∀ c, Maps.has D (.int .u8 c) = decide (c ∈ zs)
  size : Maps.size D = dR zs.reverse
theorem MD.nil : MD (.map []) [] := ⟨tidy_empty, fun c => by simp [Maps.has_eq], rfl⟩
theorem MD.put {D : DataW Unit} {zs : List Int} (h : MD D zs) (c : Int) (d : DataW Unit) : MD (D.put (.int .u8 c) d) (zs ++ [c]) := by
  refine ⟨h.tidy.put (by trivial) _, fun c' => ?_, ?_⟩
  · by_cases hc : c' = c
    · subst hc; rw [has_put_same h.tidy.isMap (by trivial)]; simp
    · rw [has_put_other (by simpa using hc), h.has]; simp [hc]
  · rw [size_put h.tidy, h.has, h.size]
    simp only [List.reverse_append, List.reverse_cons, List.reverse_nil, List.nil_append, List.singleton_append, dR, List.mem_reverse, decide_eq_true_eq]

def sgs (l : Tab) : List Int := l.map (·.1)
def rightB (l : Tab) : Bool := decide (1 ≤ l.length) && decide (l.length ≤ 32) && decide (dR (sgs l).reverse = l.length) && l.all (fun o => mayI o.1)

set_option maxRecDepth 100000 in
set_option maxHeartbeats 2000000 in
theorem right_any (w : World) (ao : Option Addr) (cap n : Nat) (l : Tab) (hs : Sv w ao n cap 2 (opc l)) (hb : Byt l) :
    Calls Try.prog 22 #[.slice ao n cap] w fun r w' => r = .returned (.bool (rightB l)) ∧ Below w.heap.size w w' := by
  obtain ⟨h1, h2⟩ := hs.bound
  have hl := hs.ops_len
  have HSl := Lib.hid hs; clear hs
  have HL := Lib.hid hl; clear hl
  have HB := Lib.hid hb; clear hb
  have hmm := @run_makeMap Try.prog
  go_enter Try.func22, Try.ntmps22
  go_wp2_with fail
  have HO0 := Lib.hid (World.ownsMap_made w Try.prog 5 (plainElem (H := Unit) Try.prog 3))
  have HB0 := Lib.hid ((Below.refl w.heap.size w).alloc (Nat.le_refl _) (.map #[] 0))
  go_loopw [9] (fun i wr => ∃ k : Nat, k ≤ n ∧ i = .int .i64 k ∧ Hid (∃ D : DataW Unit, wr.ownsMap Try.prog 5 (plainElem Try.prog 3) w.heap.size k D ∧ MD D (sgs (l.take k)) ∧ Below w.heap.size w wr)) (fun i _ => n - (intOf i).toNat)
  case atStart => exact ⟨0, by omega, rfl, _, HO0.out, MD.nil, HB0.out⟩
  case round =>
    obtain ⟨k, hk, rfl, hI⟩ := hrel
    obtain ⟨D, hD, hM, hB⟩ := hI.out
    have HD := Lib.hid hD; have HM := Lib.hid hM; have HBl := Lib.hid hB
    clear hI hD hM hB HO0 HB0
    by_cases hlt : k < n
    · have hkz : k < l.length := by have := HL.out; omega
      obtain ⟨a, rfl, hc0, hc1⟩ := (HSl.out.below HBl.out).op k hkz
      obtain ⟨hb0, hb1⟩ := HB.out _ (List.getElem_mem hkz)
      have hts : sgs (l.take (k + 1)) = sgs (l.take k) ++ [(l[k]).1] := by unfold sgs; rw [List.take_succ_eq_append_getElem hkz, List.map_append]; rfl
      have HT := Lib.hid hts
      clear hts
      generalize l[k]'_ = o at *
      clear hkz
      obtain ⟨c, r⟩ := o
      simp only [] at hc0 hc1 hb0 hb1 HT
      have h0k : (0 : Int) ≤ k := by omega
      have e2 : (a.add (k * 2)).add 1 = a.add (k * 2 + 1) := add_add _ _ _
      rw [← e2] at hc1
      have HCp := Lib.hid (two_cells hc0 hc1)
      have K2 : Hid ((Try.prog.info? 43).map (·.size) = some (#[Value.int .u8 c, .bool r] : Array Value).size) := by unfold Hid; kernel_rfl
      clear hc0 hc1
      have hkey : keyOf Try.prog 5 (.int .u8 c) = some (.int .u8 c) := keyOf_int_mk Try.underlying5 (by simp [Lit.wf, IntKind.min, IntKind.max, IntKind.signed, IntKind.bits]; omega)
      have HKy := Lib.hid hkey; clear hkey
      have HDa := Lib.hid (HD.out.alloc (.cells #[.int .u8 c, .bool r] 43))
      have HKm : Hid (k < maxLen) := by unfold Hid maxLen; omega
      have HBa := Lib.hid (HBl.out.alloc HBl.out.size (.cells #[.int .u8 c, .bool r] 43))
      have HWf := Lib.hid (fun z : Int => plainElem_int (H := Unit) Try.underlying3 (wrap64_wf z))
      go_wp2_with (first
        | (refine wpList_load_part rfl 43 (.tmp 11) rfl (a.add (k * 2)) rfl #[.int .u8 c, .bool r] _ HCp.out Try.underlying43 rfl K2.out ?_)
        | (at_lookup; refine wpList_lookup_own_int _ rfl _ _ 89 rfl 5 3 .i64 law5 Try.underlying89 Try.underlying3 (zero3 _) w.heap.size k _ rfl HDa.out _ _ rfl HKy.out ?_; intro c' hat hwc; clear hat hwc)
        | (at_mapUpdate; refine wpList_mapUpdate_own _ rfl _ _ _ 89 rfl 5 3 law5 Try.underlying89 _ w.heap.size k _ rfl HDa.out HKm.out _ _ _ rfl rfl HKy.out _ [] (HWf.out _) ?_; intro w1 hown1 hgrow1; have HO1 := Lib.hid hown1; have HG1 := Lib.hid hgrow1; clear hown1 hgrow1))
      go_roundw
      case rel => exact ⟨k + 1, by omega, by go_num, _, HO1.out, by rw [HT.out]; exact HM.out.put c _, HBa.out.grown HG1.out HBa.out.size (fun j hj => by cases hj; exact Nat.le_refl _)⟩
      case measure => simp [intOf]; omega
    · have hke : k = n := by omega
      subst hke
      have ht : l.take k = l := List.take_of_length_le (by have := HL.out; omega)
      rw [ht] at HM
      clear ht
      have HAl := Lib.hid (fun w' hb => all_any w' ao cap k l ((HSl.out.below HBl.out).below hb) HB.out)
      have hR : rightB l = (decide (1 ≤ k) && decide (k ≤ 32) && decide (Maps.size D = k) && l.all (fun o => mayI o.1)) := by
        unfold rightB; rw [HL.out, HM.out.size]
      have HRb := Lib.hid hR; clear hR
      have HLn := Lib.hid (fun ty => HD.out.len Try.underlying89 ty)
      generalize l.all (fun o => mayI o.1) = ba at *
      generalize hsz : Maps.size D = sz at *
      have hq1 : 1 ≤ k ∨ k < 1 := by omega
      have hq2 : k ≤ 32 ∨ 32 < k := by omega
      have hq3 : sz = k ∨ sz ≠ k := by omega
      rcases hq1 with hq1 | hq1 <;> rcases hq2 with hq2 | hq2 <;> rcases hq3 with hq3 | hq3
      · have hlen := HLn.out
        have hb1 : decide (1 ≤ k) = true := by simp; omega
        have hb2 : decide (k ≤ 32) = true := by simp; omega
        have hb3 : ((sz : Int) == k) = true := by simp; omega
        have HRx : Hid (rightB l = ba) := by
          unfold Hid; rw [HRb.out, hb1, hb2]; rw [decide_eq_true hq3]; simp
        go_wp2_with (first
          | (go_at_call 35; refine (HAl.out _ (Below.refl _ _)).mono ?_; rintro e w2 ⟨rfl, hb2⟩; have HB2 := Lib.hid hb2; clear hb2))
        go_ret
        exact ⟨ret_bool HRx.out.symm, HBl.out.trans (HB2.out.mono HBl.out.size)⟩
      · have hlen := HLn.out
        have hb1 : decide (1 ≤ k) = true := by simp; omega
        have hb2 : decide (k ≤ 32) = true := by simp; omega
        have hb3 : ((sz : Int) == k) = false := by simp; omega
        have HRx : Hid (rightB l = false) := by
          unfold Hid; rw [HRb.out, hb1, hb2]; rw [decide_eq_false hq3]; simp
        go_wp2_with (first
          | (go_at_call 35; refine (HAl.out _ (Below.refl _ _)).mono ?_; rintro e w2 ⟨rfl, hb2⟩; have HB2 := Lib.hid hb2; clear hb2))
        go_ret
        exact ⟨ret_bool HRx.out.symm, HBl.out⟩
      · have hlen := HLn.out
        have hb1 : decide (1 ≤ k) = true := by simp; omega
        have hb2 : decide (k ≤ 32) = false := by simp; omega
        have hb3 : ((sz : Int) == k) = true := by simp; omega
        have HRx : Hid (rightB l = false) := by
          unfold Hid; rw [HRb.out, hb1, hb2]; simp
        go_wp2_with (first
          | (go_at_call 35; refine (HAl.out _ (Below.refl _ _)).mono ?_; rintro e w2 ⟨rfl, hb2⟩; have HB2 := Lib.hid hb2; clear hb2))
        go_ret
        exact ⟨ret_bool HRx.out.symm, HBl.out⟩
      · have hlen := HLn.out
        have hb1 : decide (1 ≤ k) = true := by simp; omega
        have hb2 : decide (k ≤ 32) = false := by simp; omega
        have hb3 : ((sz : Int) == k) = false := by simp; omega
        have HRx : Hid (rightB l = false) := by
          unfold Hid; rw [HRb.out, hb1, hb2]; simp
        go_wp2_with (first
          | (go_at_call 35; refine (HAl.out _ (Below.refl _ _)).mono ?_; rintro e w2 ⟨rfl, hb2⟩; have HB2 := Lib.hid hb2; clear hb2))
        go_ret
        exact ⟨ret_bool HRx.out.symm, HBl.out⟩
      · have hlen := HLn.out
        have hb1 : decide (1 ≤ k) = false := by simp; omega
        have hb2 : decide (k ≤ 32) = true := by simp; omega
        have hb3 : ((sz : Int) == k) = true := by simp; omega
        have HRx : Hid (rightB l = false) := by
          unfold Hid; rw [HRb.out, hb1, hb2]; simp
        go_wp2_with (first
          | (go_at_call 35; refine (HAl.out _ (Below.refl _ _)).mono ?_; rintro e w2 ⟨rfl, hb2⟩; have HB2 := Lib.hid hb2; clear hb2))
        go_ret
        exact ⟨ret_bool HRx.out.symm, HBl.out⟩
      · have hlen := HLn.out
        have hb1 : decide (1 ≤ k) = false := by simp; omega
        have hb2 : decide (k ≤ 32) = true := by simp; omega
        have hb3 : ((sz : Int) == k) = false := by simp; omega
        have HRx : Hid (rightB l = false) := by
          unfold Hid; rw [HRb.out, hb1, hb2]; simp
        go_wp2_with (first
          | (go_at_call 35; refine (HAl.out _ (Below.refl _ _)).mono ?_; rintro e w2 ⟨rfl, hb2⟩; have HB2 := Lib.hid hb2; clear hb2))
        go_ret
        exact ⟨ret_bool HRx.out.symm, HBl.out⟩
      · omega
      · omega

theorem mayI_iff (c : Int) (h0 : 0 ≤ c) : mayI c = true ↔ ¬ isDig c ∧ c ≠ 40 ∧ c ≠ 41 := by
  unfold mayI mayB isDig
  simp only [Bool.not_eq_true', Bool.or_eq_false_iff, decide_eq_false_iff_not]
  omega
theorem rightB_iff (l : Tab) (hb : Byt l) : rightB l = true ↔ RightT l := by
  unfold rightB
  simp only [Bool.and_eq_true, decide_eq_true_eq, List.all_eq_true]
  have hlen : (sgs l).reverse.length = l.length := by simp [sgs]
  have hd : dR (sgs l).reverse = l.length ↔ (sgs l).Nodup := by
    rw [← hlen, dR_eq]; exact (List.reverse_perm _).nodup_iff
  rw [hd]
  have hg : ∀ i (h : i < l.length), l.getD i (0, false) = l[i] := fun i h => by simp [List.getD_eq_getElem?_getD, h]
  constructor
  · rintro ⟨⟨⟨h1, h2⟩, h3⟩, h4⟩
    refine ⟨h1, h2, fun i hi => ?_, fun i j hi hj he => ?_⟩
    · rw [hg i hi]
      have hm := List.getElem_mem hi
      have hbb := hb _ hm
      have := (mayI_iff _ hbb.1).1 (h4 _ hm)
      exact ⟨hbb.1, by omega, this⟩
    · rw [hg i hi, hg j hj] at he
      have hi' : i < (sgs l).length := by simpa [sgs] using hi
      have hj' : j < (sgs l).length := by simpa [sgs] using hj
      have hp := List.pairwise_iff_getElem.1 h3
      have he' : (sgs l)[i] = (sgs l)[j] := by simpa [sgs] using he
      rcases Nat.lt_trichotomy i j with hlt | hlt | hlt
      · exact absurd he' (hp i j hi' hj' hlt)
      · exact hlt
      · exact absurd he'.symm (hp j i hj' hi' hlt)
  · intro h
    refine ⟨⟨⟨h.pos, h.le⟩, ?_⟩, fun o ho => ?_⟩
    · rw [List.nodup_iff_pairwise_ne, List.pairwise_iff_getElem]
      intro i j hi hj hlt he
      have hi' : i < l.length := by simpa [sgs] using hi
      have hj' : j < l.length := by simpa [sgs] using hj
      have := h.apart i j hi' hj' (by rw [hg i hi', hg j hj']; simpa [sgs] using he)
      omega
    · obtain ⟨i, hi, rfl⟩ := List.getElem_of_mem ho
      have := h.ok i hi
      rw [hg i hi] at this
      exact (mayI_iff _ this.1).2 this.2.2
end Go.Proofs.Ytmpccinbeepbgaa
