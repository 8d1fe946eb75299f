/- Walks: a table's operators, all of them. -/
import Derived.Test.YtmpccinbeepbgaaC3
import Derived.Test.YtmpccinbeepbgaaGr2
namespace Go.Proofs.Ytmpccinbeepbgaa
open Go.RowKit

def opc (l : Tab) : List Value := l.flatMap fun o => [.int .u8 o.1, .bool o.2]
theorem opc_len : ∀ l : Tab, (opc l).length = l.length * 2
  | [] => rfl
  | o :: r => by
    have h := opc_len r
    show ([Value.int .u8 o.1, .bool o.2] ++ opc r).length = _
    rw [List.length_append, h]; simp; omega
theorem opc_get : ∀ (l : Tab) (k : Nat) (hk : k < l.length), (opc l)[k * 2]? = some (.int .u8 (l[k]).1) ∧ (opc l)[k * 2 + 1]? = some (.bool (l[k]).2)
  | o :: r, 0, _ => ⟨rfl, rfl⟩
  | o :: r, k + 1, hk => by
    have ih := opc_get r k (by simpa using hk)
    have e1 : (k + 1) * 2 = k * 2 + 2 := by omega
    rw [e1]
    exact ⟨by simpa [opc] using ih.1, by simpa [opc, show k * 2 + 2 + 1 = k * 2 + 1 + 2 from by omega] using ih.2⟩
/-- The bytes of a table are bytes. -/
def Byt (l : Tab) : Prop := ∀ o ∈ l, 0 ≤ o.1 ∧ o.1 < 256
def mayI (c : Int) : Bool := mayB c.toNat
theorem may_int (w : World) (c : Int) (h0 : 0 ≤ c) (h1 : c < 256) (r : Bool) :
    Calls Try.prog 36 #[.agg #[.int .u8 c, .bool r]] w fun e w' => e = .returned (.bool (mayI c)) ∧ Below w.heap.size w w' := by
  obtain ⟨n, rfl⟩ := Int.eq_ofNat_of_zero_le h0
  exact may_any w n (by omega) r

/-- A table that lies in a slice: the cells of an operator. -/
theorem Sv.op {w : World} {ao : Option Addr} {n cap : Nat} {l : Tab} (h : Sv w ao n cap 2 (opc l)) (k : Nat) (hk : k < l.length) : ∃ a, ao = some a ∧ w.cell? (a.add (k * 2)) = some (.int .u8 (l[k]).1) ∧ w.cell? (a.add (k * 2 + 1)) = some (.bool (l[k]).2) := by
  have hl := opc_len l
  obtain ⟨h1, h2⟩ := opc_get l k hk
  obtain ⟨a, rfl, hc⟩ := h.cell (k * 2) (by omega)
  obtain ⟨a', ha, hc'⟩ := h.cell (k * 2 + 1) (by omega)
  cases ha
  exact ⟨a, rfl, hc.trans h1, hc'.trans h2⟩
theorem Sv.ops_len {w : World} {ao : Option Addr} {n cap : Nat} {l : Tab} (h : Sv w ao n cap 2 (opc l)) : l.length = n := by
  have := h.len; rw [opc_len] at this; omega

theorem all_split {α : Type} {f : α → Bool} (l : List α) (k : Nat) : l.all f = ((l.take k).all f && (l.drop k).all f) := by
  rw [← List.all_append, List.take_append_drop]
theorem two_cells {w : World} {p : Addr} {x y : Value} (h0 : w.cell? p = some x) (h1 : w.cell? (p.add 1) = some y) : ∀ j v, (#[x, y] : Array Value).toList[j]? = some v → w.cell? (p.add j) = some v := by
  intro j v hj
  match j, hj with
  | 0, hj => simp at hj; subst hj; simpa [Addr.add] using h0
  | 1, hj => simp at hj; subst hj; exact h1

set_option maxRecDepth 100000 in
set_option maxHeartbeats 1000000 in
theorem all_any (w : World) (ao : Option Addr) (cap n : Nat) (l : Tab) (hs : Sv w ao n cap 2 (opc l)) (hb : Byt l) :
    Calls Try.prog 35 #[.slice ao n cap, .func (.func 36) #[] #[]] w fun r w' => r = .returned (.bool (l.all fun o => mayI o.1)) ∧ Below w.heap.size w w' := by
  obtain ⟨h1, h2⟩ := hs.bound
  have hl := hs.ops_len
  have HSl := Lib.hid hs; clear hs
  have HL := Lib.hid hl; clear hl
  have HB := Lib.hid hb; clear hb
  go_enter Try.func35, Try.ntmps35
  go_wp2_with fail
  go_loopw [9] (fun i wr => ∃ k : Nat, k ≤ n ∧ i = .int .i64 k ∧ Hid ((l.take k).all (fun o => mayI o.1) = true ∧ Below w.heap.size w wr)) (fun i _ => n - (intOf i).toNat)
  case atStart => exact ⟨0, by omega, rfl, by simp, Below.refl _ _⟩
  case round =>
    obtain ⟨k, hk, rfl, hI⟩ := hrel
    by_cases hlt : k < n
    · have hkz : k < l.length := by have := HL.out; omega
      obtain ⟨a, rfl, hc0, hc1⟩ := (HSl.out.below hI.out.2).op k hkz
      have hbk := HB.out _ (List.getElem_mem hkz)
      have hts : l.take (k + 1) = l.take k ++ [l[k]] := List.take_succ_eq_append_getElem hkz
      have hall : l.all (fun o => mayI o.1) = ((l.take k).all (fun o => mayI o.1) && (mayI (l[k]).1 && (l.drop (k + 1)).all (fun o => mayI o.1))) := by
        rw [all_split l k, List.drop_eq_getElem_cons hkz, List.all_cons]
      obtain ⟨hb0, hb1⟩ := hbk
      have HT := Lib.hid hts; have HA := Lib.hid hall
      clear hts hall
      generalize l[k]'_ = o at *
      clear hkz
      obtain ⟨c, r⟩ := o
      simp only [] at hc0 hc1 hb0 hb1 HA
      have h0k : (0 : Int) ≤ k := by omega
      have e2 : (a.add (k * 2)).add 1 = a.add (k * 2 + 1) := add_add _ _ _
      rw [← e2] at hc1
      have HCp := Lib.hid (two_cells hc0 hc1)
      have K2 : Hid ((Try.prog.info? 43).map (·.size) = some (#[Value.int .u8 c, .bool r] : Array Value).size) := by unfold Hid; kernel_rfl
      clear hc0 hc1
      cases hm : mayI c
      · have HM := Lib.hid hm
        go_wp2_with (first
          | (refine wpList_load_part rfl 43 (.tmp 11) rfl (a.add (k * 2)) rfl #[.int .u8 c, .bool r] _ HCp.out Try.underlying43 rfl K2.out ?_)
          | (go_at_call 36; refine (may_int _ c hb0 hb1 r).mono ?_; rintro e w2 ⟨rfl, hb2⟩; have HB2 := Lib.hid hb2; clear hb2))
        have HBx := Lib.hid ((hI.out.2.alloc hI.out.2.size (.cells #[.int .u8 c, .bool r] 43)).trans (HB2.out.mono (by have := hI.out.2.size; simp; omega)))
        go_ret
        exact ⟨ret_bool (by rw [HA.out, HM.out, hI.out.1]; rfl), HBx.out⟩
      · have HM := Lib.hid hm
        go_wp2_with (first
          | (refine wpList_load_part rfl 43 (.tmp 11) rfl (a.add (k * 2)) rfl #[.int .u8 c, .bool r] _ HCp.out Try.underlying43 rfl K2.out ?_)
          | (go_at_call 36; refine (may_int _ c hb0 hb1 r).mono ?_; rintro e w2 ⟨rfl, hb2⟩; have HB2 := Lib.hid hb2; clear hb2))
        have HBx := Lib.hid ((hI.out.2.alloc hI.out.2.size (.cells #[.int .u8 c, .bool r] 43)).trans (HB2.out.mono (by have := hI.out.2.size; simp; omega)))
        go_roundw
        case rel => exact ⟨k + 1, by omega, by go_num, by rw [HT.out, List.all_append, hI.out.1]; simp [HM.out], HBx.out⟩
        case measure => simp [intOf]; omega
    · have ht : l.take k = l := List.take_of_length_le (by have := HL.out; omega)
      rw [ht] at hI
      clear ht
      have HA := Lib.hid hI.out.1
      go_wp2_with fail
      go_ret
      exact ⟨ret_bool HA.out.symm, hI.out.2⟩
end Go.Proofs.Ytmpccinbeepbgaa
