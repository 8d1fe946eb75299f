/- Walks: escape: a look at the letters. -/
import Derived.Test.YtlfnniipkdcpdaaDoorE3
namespace Go.Proofs.YtlfnniipkdcpdaaDoor
open Go.RowKit Go.ChangeMaps
set_option maxRecDepth 100000
set_option maxHeartbeats 2000000

/-- The letter of a sign; whether it has one. -/
def shV (c : Int) : Int := if c = 10 then 110 else if c = 13 then 114 else if c = 9 then 116 else 0
def shB (c : Int) : Bool := c == 10 || c == 13 || c == 9
theorem shE_key : ∀ x ∈ shE.toList, ∃ a, x.key = .int .u8 a := by
 intro x hx
 simp only [shE, List.mem_cons, List.not_mem_nil, or_false] at hx
 rcases hx with rfl | rfl | rfl <;> exact ⟨_, rfl⟩
theorem zeroB (w : World) : (zeroValue 5).run Tryd.prog w = .ok (.int .u8 0) w := by kernel_rfl
theorem look_short (w : World) (g : Nat) (hg : w.heap[g]? = some (.map shE 3)) (c : Int) : (Instr.lookup 56 (.map (some g)) (.int .u8 c) true).run Tryd.prog w = .ok (.tuple #[.int .u8 (shV c), .bool (shB c)]) w := by
 by_cases h1 : c = 10
 ·subst h1
  exact run_look_yes (keyInt byte_und) short_und hg shE_key ⟨_, rfl⟩ (i := 0) rfl rfl (fun m hm => by omega) true
 ·by_cases h2 : c = 13
  ·subst h2
   exact run_look_yes (keyInt byte_und) short_und hg shE_key ⟨_, rfl⟩ (i := 1) rfl rfl (fun m hm y hy => by
    obtain rfl : m = 0 := by omega
    cases hy; simp [shE]) true
  ·by_cases h3 : c = 9
   ·subst h3
    exact run_look_yes (keyInt byte_und) short_und hg shE_key ⟨_, rfl⟩ (i := 2) rfl rfl (fun m hm y hy => by
     obtain rfl | rfl : m = 0 ∨ m = 1 := by omega
     · cases hy; simp [shE]
     · cases hy; simp [shE]) true
   ·have := run_look_no (keyInt byte_und) short_und hg shE_key ⟨c, rfl⟩ (fun x hx => by
     simp only [shE, List.mem_cons, List.not_mem_nil, or_false] at hx
     rcases hx with rfl | rfl | rfl <;> simp <;> omega) (zeroB w) true
    rw [this]
    unfold shV shB
    rw [if_neg h1, if_neg h2, if_neg h3]
    simp [h1, h2, h3]
end Go.Proofs.YtlfnniipkdcpdaaDoor
