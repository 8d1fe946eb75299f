/- Walks: escape: a byte that stands for itself. -/
import Derived.Test.YtnfkcdnkmcifbaaDoorE1
import Derived.Lib.Bytealg
import Derived.Test.YtnfkcdnkmcifbaaDoorLaid
namespace Go.Proofs.YtnfkcdnkmcifbaaDoor
open Go.RowKit
set_option maxRecDepth 100000
set_option maxHeartbeats 2000000

theorem ix_neg (l : List UInt8) (c : UInt8) : -1 ≤ Lib.indexByte l c := by
 induction l with
 | nil => simp [Lib.indexByte]
 | cons b l ih =>
  unfold Lib.indexByte
  split; · omega
  split; · omega
  rename_i h; simp at h; omega
theorem bare_any (p : Int) (c : UInt8) (w : World) : Calls Tryd.prog 56 #[.int .i64 p, .int .u8 c.toNat] w fun e w' => e = .returned (.bool (isPl p && !spec p c)) ∧ w' = w := by
 have H : (isPl p && !spec p c) = (isPl p && decide ((32 : Int) ≤ (c.toNat : Int)) && decide ((c.toNat : Int) ≤ 126) && decide (Lib.indexByte (nmd p).data.toList c < 0)) := by
  by_cases h1 : p = 1
  ·subst h1; exact u8_all (P := fun c => (isPl 1 && !spec 1 c) = (isPl 1 && decide ((32 : Int) ≤ (c.toNat : Int)) && decide ((c.toNat : Int) ≤ 126) && decide (Lib.indexByte (nmd 1).data.toList c < 0))) (by decide +kernel) c
  ·by_cases h2 : p = 2
   ·subst h2; exact u8_all (P := fun c => (isPl 2 && !spec 2 c) = (isPl 2 && decide ((32 : Int) ≤ (c.toNat : Int)) && decide ((c.toNat : Int) ≤ 126) && decide (Lib.indexByte (nmd 2).data.toList c < 0))) (by decide +kernel) c
   ·have e2 : isPl p = false := by unfold isPl; simp [h1, h2]
    rw [e2]; rfl
 rw [H]
 clear H
 have hix : c.toNat.toUInt8 = c := by simp
 obtain ⟨q, hq⟩ : ∃ q, isPl p = q := ⟨_, rfl⟩
 have HN := named_any p w
 rw [hq] at HN ⊢
 clear hq
 generalize nmd p = s at HN ⊢
 go_enter Tryd.func56, Tryd.ntmps56
 cases q with
 | false =>
  go_wp2_with fail
  refine HN.mono ?_
  rintro e x ⟨rfl, rfl⟩
  go_wp2_with fail
  go_ret
  exact ⟨rfl, rfl⟩
 | true =>
  by_cases h1 : (32 : Int) ≤ (c.toNat : Int)
  ·by_cases h2 : (c.toNat : Int) ≤ 126
   ·go_wp2_with fail
    refine HN.mono ?_
    rintro e x ⟨rfl, rfl⟩
    go_wp2_with fail
    refine (Tryd.strings_IndexByte s c.toNat x).mono ?_
    rintro e x2 ⟨rfl, rfl⟩
    rw [Int.toNat_natCast, hix]
    go_wp2_with fail
    go_ret
    exact ⟨by rw [decide_eq_true h1, decide_eq_true h2]; rfl, rfl⟩
   ·go_wp2_with fail
    refine HN.mono ?_
    rintro e x ⟨rfl, rfl⟩
    go_wp2_with fail
    go_ret
    exact ⟨by simp; intros; omega, rfl⟩
  ·go_wp2_with fail
   refine HN.mono ?_
   rintro e x ⟨rfl, rfl⟩
   go_wp2_with fail
   go_ret
   exact ⟨by simp; intros; omega, rfl⟩
end Go.Proofs.YtnfkcdnkmcifbaaDoor
