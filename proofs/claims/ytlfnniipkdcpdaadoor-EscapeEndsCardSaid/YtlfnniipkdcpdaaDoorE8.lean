/- Walks: escape: bytes, written. -/
import Derived.Test.YtlfnniipkdcpdaaDoorE7
import Derived.Test.YtlfnniipkdcpdaaDoorLaid
import Derived.Test.YtlfnniipkdcpdaaDoorDh
import Derived.OwnWalk
namespace Go.Proofs.YtlfnniipkdcpdaaDoor
open Go.RowKit
set_option maxRecDepth 100000
set_option maxHeartbeats 4000000

theorem Lib.IsBuilderF.below {T e : TypeId} {B b : Nat} {bs : List Value} {w w' : World} (h : Lib.IsBuilderF T e B b bs w) (hb : Below w.heap.size w w') : Lib.IsBuilderF T e B b bs w' := by
 have go : ∀ p, Lib.BuilderAtF T e B b p bs w → Lib.BuilderAtF T e B b p bs w' := fun p hp => by
  have hlt := hp.lt
  obtain ⟨hB, v, hv, hown, hne⟩ := hp
  exact ⟨hB, v, (hb.block _ hlt).trans hv, hown.kept (row := none) ⟨hb.os, hb.tape, hb.output, hb.size, fun k hk _ => hb.block k hk⟩ (by cases v.ownBlock <;> simp), hne⟩
 exact h.elim (fun x => .inl (go _ x)) (fun x => .inr (go _ x))
theorem one_le4 (p : Int) (c : UInt8) : (one p c).length ≤ 4 := by
 by_cases hp : isPl p = true
 ·rcases spec_alt p hp with rfl | rfl
  ·exact u8_all (P := fun c => (one 1 c).length ≤ 4) (by decide +kernel) c
  ·exact u8_all (P := fun c => (one 2 c).length ≤ 4) (by decide +kernel) c
 ·have : isPl p = false := by simpa using hp
  unfold one; rw [this]; simp
theorem all_le4 (p : Int) : ∀ l, (all p l).length ≤ 4 * l.length
 | [] => by simp [all_nil]
 | c :: l => by
  have := one_le4 p c; have := all_le4 p l
  rw [all_cons, List.length_append, List.length_cons]; omega
theorem all_snoc (p : Int) (l : List UInt8) (k : Nat) (hk : k < l.length) : all p (l.take (k + 1)) = all p (l.take k) ++ one p l[k] := by
 rw [List.take_succ_eq_append_getElem hk, all_app, all_cons, all_nil, List.append_nil]
theorem Sv.by {w : World} {ao : Option Addr} {n cap : Nat} {l : List UInt8} (h : Sv w ao n cap 1 (Lib.byteCells l)) (k : Nat) (hk : k < l.length) : ∃ a, ao = some a ∧ w.cell? (a.add k) = some (.int .u8 l[k].toNat) := by
 obtain ⟨a, ha, hc⟩ := h.cell k (by rw [Lib.byteCells_length]; exact hk)
 exact ⟨a, ha, by rw [hc]; simp [Lib.byteCells, hk]⟩
theorem eall_any (p : Int) (l : List UInt8) (ao : Option Addr) (n cap : Nat) (w : World) (hs : Sv w ao n cap 1 (Lib.byteCells l)) (hl : n ≤ 1000000) (h : TzOk w) :
  Calls Tryd.prog 9 #[.int .i64 p, .slice ao n cap] w fun e w' => e = .returned (.string ⟨(all p l).toArray⟩) ∧ Below w.heap.size w w' := by
 have hn : n = l.length := by have := hs.len; rw [Lib.byteCells_length] at this; omega
 obtain ⟨h1, h2⟩ := hs.bound
 have HS := Lib.hid hs; have HT := Lib.hid h; have HN := Lib.hid hn; clear hs h hn
 go_enter Tryd.func9, Tryd.ntmps9
 go_wp2_with fail
 go_loopw [10] (fun i wr => ∃ k : Nat, k ≤ n ∧ i = .int .i64 k ∧ Hid (Lib.IsBuilderF 43 5 w.heap.size w.heap.size (Lib.byteCells (all p (l.take k))) wr ∧ Below w.heap.size w wr)) (fun i _ => n - (intOf i).toNat)
 case atStart => exact ⟨0, by omega, rfl, .of (Lib.fresh_isBuilder _ _ _), (Below.refl _ _).alloc (Nat.le_refl _) _⟩
 case round =>
  obtain ⟨k, hk, rfl, hI⟩ := hrel
  by_cases hlt : k < n
  ·obtain ⟨a, rfl, hc⟩ := (HS.out.below hI.out.2).by k (by have := HN.out; omega)
   have HO := Lib.hid (eone_any p (l[k]'(by have := HN.out; omega)) wr (HT.out.below hI.out.2))
   have HA := Lib.hid (all_snoc p l k (by have := HN.out; omega))
   generalize l[k]'(by have := HN.out; omega) = c at hc HO HA
   go_wp2_with fail
   refine HO.out.mono ?_
   rintro e x ⟨rfl, hb⟩
   have HJ := Lib.hid (Lib.IsBuilderF.below hI.out.1 hb)
   have HB := Lib.hid (hI.out.2.trans (hb.mono hI.out.2.size)); clear hb HO
   go_wp2_with fail
   refine (Tryd.Builder_WriteString_k _ _ _ _ _ HJ.out ?_ HB.out.size).mono ?_
   ·have e1 := all_le4 p (l.take k); have e2 := one_le4 p c
    rw [List.length_take] at e1
    rw [Lib.byteCells_length]
    show _ + (one p c).toArray.size ≤ _
    simp; omega
   rintro e x2 ⟨rfl, hb1, hb2, _⟩
   have H5 : Hid (Lib.IsBuilderF 43 5 w.heap.size w.heap.size (Lib.byteCells (all p (l.take (k + 1)))) x2 ∧ Below w.heap.size w x2) := by
    rw [HA.out, Lib.byteCells_append]
    exact ⟨.inr hb1, HB.out.trans hb2⟩
   clear hb1 hb2 HB HJ
   go_wp2_with fail
   go_roundw
   case rel => exact ⟨k + 1, by omega, by go_num, H5⟩
   case measure => simp [intOf]; omega
  ·have HE : Hid (all p (l.take k) = all p l) := by unfold Hid; rw [List.take_of_length_le (by have := HN.out; omega)]
   have HJ := hI.out
   rw [HE.out] at HJ
   have H1 := Lib.hid HJ.1; have H2 := Lib.hid HJ.2
   clear HJ hI HE
   go_wp2_with fail
   refine (Tryd.Builder_String_any_k _ _ _ _ H1.out H2.out.size).mono ?_
   rintro e x ⟨rfl, _, hb, _⟩
   have H3 := Lib.hid (H2.out.trans hb); clear hb
   go_wp2_with fail
   go_ret
   exact ⟨rfl, H3.out⟩
end Go.Proofs.YtlfnniipkdcpdaaDoor
