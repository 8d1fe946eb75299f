/- Walks and plain laws: Au Av. -/
import Derived.Test.YtdnkffplkleolaaGreatT02
namespace Go.Proofs.YtdnkffplkleolaaGreat
open Go.RowKit
set_option maxRecDepth 100000

theorem info144 : (Tryz.prog.info? 158).map (fun i => (i.zero, i.size, i.bytes)) = some (some (.slice none 0 0), 1, 24) := by kernel_rfl
theorem flat50_none (w : World) : Calls Tryz.prog 63 #[.slice none 0 0] w fun r w' => r = .returned (.bool true) ∧ Below w.heap.size w w' := by
 obtain ⟨i0, hi, hz0, hz1, hz2⟩ := info_parts info144
 have Hi := Lib.hid hi; have Hz0 := Lib.hid hz0; have Hz1 := Lib.hid hz1; have HBy : Hid (i0.bytes * 0 ≤ 281474976710656) := by unfold Hid; omega
 clear hi hz0 hz1 hz2
 go_enter Tryz.func63, Tryz.ntmps63
 go_wp2_with fail
 go_loopw [3] (fun i wr => i = .int .i64 0 ∧ Hid (Below w.heap.size w wr)) (fun _ _ => 0)
 case atStart => exact ⟨rfl, Below.refl _ _⟩
 case round =>
  obtain ⟨rfl, H0⟩ := hrel
  obtain ⟨wa, rfl⟩ : ∃ wa : World, wa = wr := ⟨_, rfl⟩
  go_wp2_with (first | (at_make; refine wpList_make_full _ rfl _ _ 90 rfl wa.heap.size 158 i0 _ 1 Tryz.underlying90 Hi.out Hz0.out Hz1.out _ _ _ _ 0 rfl rfl rfl rfl HBy.out (by decide) (Nat.le_refl _) ?_; intro w6 hown6 hg6; have HB6 := Lib.hid (H0.out.trans (((Below.refl wa.heap.size wa).grown hg6 (Nat.le_refl _) (by simp)).mono H0.out.size)); clear hown6 hg6))
  go_loopw [6] (fun i wr => i = .int .i64 0 ∧ Hid (Below w.heap.size w wr)) (fun _ _ => 0)
  case atStart => exact ⟨rfl, HB6⟩
  case round =>
   obtain ⟨rfl, H1⟩ := hrel
   go_wp2_with fail
   go_loopw [9] (fun i wr => i = .int .i64 0 ∧ Hid (Below w.heap.size w wr)) (fun _ _ => 0)
   case atStart => exact ⟨rfl, H1⟩
   case round =>
    obtain ⟨rfl, H2⟩ := hrel
    go_wp2_with fail
    go_loopw [11] (fun i wr => i = .int .i64 0 ∧ Hid (Below w.heap.size w wr)) (fun _ _ => 0)
    case atStart => exact ⟨rfl, H2⟩
    case round =>
     obtain ⟨rfl, H3⟩ := hrel
     go_wp2_with fail
     go_loopw [14] (fun i wr => i = .int .i64 0 ∧ Hid (Below w.heap.size w wr)) (fun _ _ => 0)
     case atStart => exact ⟨rfl, H3⟩
     case round =>
      obtain ⟨rfl, H4⟩ := hrel
      go_wp2_with fail
      go_ret
      exact ⟨rfl, H4.out⟩

theorem info146 : (Tryz.prog.info? 160).map (fun i => (i.zero, i.size, i.bytes)) = some (some (.slice none 0 0), 1, 24) := by kernel_rfl
theorem flat51_none (w : World) : Calls Tryz.prog 64 #[.slice none 0 0] w fun r w' => r = .returned (.bool true) ∧ Below w.heap.size w w' := by
 obtain ⟨i0, hi, hz0, hz1, hz2⟩ := info_parts info146
 have Hi := Lib.hid hi; have Hz0 := Lib.hid hz0; have Hz1 := Lib.hid hz1; have HBy : Hid (i0.bytes * 0 ≤ 281474976710656) := by unfold Hid; omega
 clear hi hz0 hz1 hz2
 go_enter Tryz.func64, Tryz.ntmps64
 go_wp2_with fail
 go_loopw [3] (fun i wr => i = .int .i64 0 ∧ Hid (Below w.heap.size w wr)) (fun _ _ => 0)
 case atStart => exact ⟨rfl, Below.refl _ _⟩
 case round =>
  obtain ⟨rfl, H0⟩ := hrel
  obtain ⟨wa, rfl⟩ : ∃ wa : World, wa = wr := ⟨_, rfl⟩
  go_wp2_with (first | (at_make; refine wpList_make_full _ rfl _ _ 91 rfl wa.heap.size 160 i0 _ 1 Tryz.underlying91 Hi.out Hz0.out Hz1.out _ _ _ _ 0 rfl rfl rfl rfl HBy.out (by decide) (Nat.le_refl _) ?_; intro w6 hown6 hg6; have HB6 := Lib.hid (H0.out.trans (((Below.refl wa.heap.size wa).grown hg6 (Nat.le_refl _) (by simp)).mono H0.out.size)); clear hown6 hg6))
  go_loopw [6] (fun i wr => i = .int .i64 0 ∧ Hid (Below w.heap.size w wr)) (fun _ _ => 0)
  case atStart => exact ⟨rfl, HB6⟩
  case round =>
   obtain ⟨rfl, H1⟩ := hrel
   go_wp2_with fail
   go_loopw [9] (fun i wr => i = .int .i64 0 ∧ Hid (Below w.heap.size w wr)) (fun _ _ => 0)
   case atStart => exact ⟨rfl, H1⟩
   case round =>
    obtain ⟨rfl, H2⟩ := hrel
    go_wp2_with fail
    go_loopw [11] (fun i wr => i = .int .i64 0 ∧ Hid (Below w.heap.size w wr)) (fun _ _ => 0)
    case atStart => exact ⟨rfl, H2⟩
    case round =>
     obtain ⟨rfl, H3⟩ := hrel
     go_wp2_with fail
     go_loopw [14] (fun i wr => i = .int .i64 0 ∧ Hid (Below w.heap.size w wr)) (fun _ _ => 0)
     case atStart => exact ⟨rfl, H3⟩
     case round =>
      obtain ⟨rfl, H4⟩ := hrel
      go_wp2_with fail
      go_ret
      exact ⟨rfl, H4.out⟩

theorem info47 : (Tryz.prog.info? 49).map (fun i => (i.zero, i.size, i.bytes)) = some (some (.slice none 0 0), 1, 24) := by kernel_rfl
theorem flat52_none (w : World) : Calls Tryz.prog 65 #[.slice none 0 0] w fun r w' => r = .returned (.bool true) ∧ Below w.heap.size w w' := by
 obtain ⟨i0, hi, hz0, hz1, hz2⟩ := info_parts info47
 have Hi := Lib.hid hi; have Hz0 := Lib.hid hz0; have Hz1 := Lib.hid hz1; have HBy : Hid (i0.bytes * 0 ≤ 281474976710656) := by unfold Hid; omega
 clear hi hz0 hz1 hz2
 go_enter Tryz.func65, Tryz.ntmps65
 go_wp2_with fail
 go_loopw [3] (fun i wr => i = .int .i64 0 ∧ Hid (Below w.heap.size w wr)) (fun _ _ => 0)
 case atStart => exact ⟨rfl, Below.refl _ _⟩
 case round =>
  obtain ⟨rfl, H0⟩ := hrel
  obtain ⟨wa, rfl⟩ : ∃ wa : World, wa = wr := ⟨_, rfl⟩
  go_wp2_with (first | (at_make; refine wpList_make_full _ rfl _ _ 92 rfl wa.heap.size 49 i0 _ 1 Tryz.underlying92 Hi.out Hz0.out Hz1.out _ _ _ _ 0 rfl rfl rfl rfl HBy.out (by decide) (Nat.le_refl _) ?_; intro w6 hown6 hg6; have HB6 := Lib.hid (H0.out.trans (((Below.refl wa.heap.size wa).grown hg6 (Nat.le_refl _) (by simp)).mono H0.out.size)); clear hown6 hg6))
  go_loopw [6] (fun i wr => i = .int .i64 0 ∧ Hid (Below w.heap.size w wr)) (fun _ _ => 0)
  case atStart => exact ⟨rfl, HB6⟩
  case round =>
   obtain ⟨rfl, H1⟩ := hrel
   go_wp2_with fail
   go_loopw [9] (fun i wr => i = .int .i64 0 ∧ Hid (Below w.heap.size w wr)) (fun _ _ => 0)
   case atStart => exact ⟨rfl, H1⟩
   case round =>
    obtain ⟨rfl, H2⟩ := hrel
    go_wp2_with fail
    go_loopw [11] (fun i wr => i = .int .i64 0 ∧ Hid (Below w.heap.size w wr)) (fun _ _ => 0)
    case atStart => exact ⟨rfl, H2⟩
    case round =>
     obtain ⟨rfl, H3⟩ := hrel
     go_wp2_with fail
     go_loopw [14] (fun i wr => i = .int .i64 0 ∧ Hid (Below w.heap.size w wr)) (fun _ _ => 0)
     case atStart => exact ⟨rfl, H3⟩
     case round =>
      obtain ⟨rfl, H4⟩ := hrel
      go_wp2_with fail
      go_ret
      exact ⟨rfl, H4.out⟩

theorem info147 : (Tryz.prog.info? 161).map (fun i => (i.zero, i.size, i.bytes)) = some (some (.slice none 0 0), 1, 24) := by kernel_rfl
theorem flat53_none (w : World) : Calls Tryz.prog 66 #[.slice none 0 0] w fun r w' => r = .returned (.bool true) ∧ Below w.heap.size w w' := by
 obtain ⟨i0, hi, hz0, hz1, hz2⟩ := info_parts info147
 have Hi := Lib.hid hi; have Hz0 := Lib.hid hz0; have Hz1 := Lib.hid hz1; have HBy : Hid (i0.bytes * 0 ≤ 281474976710656) := by unfold Hid; omega
 clear hi hz0 hz1 hz2
 go_enter Tryz.func66, Tryz.ntmps66
 go_wp2_with fail
 go_loopw [3] (fun i wr => i = .int .i64 0 ∧ Hid (Below w.heap.size w wr)) (fun _ _ => 0)
 case atStart => exact ⟨rfl, Below.refl _ _⟩
 case round =>
  obtain ⟨rfl, H0⟩ := hrel
  obtain ⟨wa, rfl⟩ : ∃ wa : World, wa = wr := ⟨_, rfl⟩
  go_wp2_with (first | (at_make; refine wpList_make_full _ rfl _ _ 93 rfl wa.heap.size 161 i0 _ 1 Tryz.underlying93 Hi.out Hz0.out Hz1.out _ _ _ _ 0 rfl rfl rfl rfl HBy.out (by decide) (Nat.le_refl _) ?_; intro w6 hown6 hg6; have HB6 := Lib.hid (H0.out.trans (((Below.refl wa.heap.size wa).grown hg6 (Nat.le_refl _) (by simp)).mono H0.out.size)); clear hown6 hg6))
  go_loopw [6] (fun i wr => i = .int .i64 0 ∧ Hid (Below w.heap.size w wr)) (fun _ _ => 0)
  case atStart => exact ⟨rfl, HB6⟩
  case round =>
   obtain ⟨rfl, H1⟩ := hrel
   go_wp2_with fail
   go_loopw [9] (fun i wr => i = .int .i64 0 ∧ Hid (Below w.heap.size w wr)) (fun _ _ => 0)
   case atStart => exact ⟨rfl, H1⟩
   case round =>
    obtain ⟨rfl, H2⟩ := hrel
    go_wp2_with fail
    go_loopw [11] (fun i wr => i = .int .i64 0 ∧ Hid (Below w.heap.size w wr)) (fun _ _ => 0)
    case atStart => exact ⟨rfl, H2⟩
    case round =>
     obtain ⟨rfl, H3⟩ := hrel
     go_wp2_with fail
     go_loopw [14] (fun i wr => i = .int .i64 0 ∧ Hid (Below w.heap.size w wr)) (fun _ _ => 0)
     case atStart => exact ⟨rfl, H3⟩
     case round =>
      obtain ⟨rfl, H4⟩ := hrel
      go_wp2_with fail
      go_ret
      exact ⟨rfl, H4.out⟩

theorem info148 : (Tryz.prog.info? 162).map (fun i => (i.zero, i.size, i.bytes)) = some (some (.slice none 0 0), 1, 24) := by kernel_rfl
theorem flat54_none (w : World) : Calls Tryz.prog 67 #[.slice none 0 0] w fun r w' => r = .returned (.bool true) ∧ Below w.heap.size w w' := by
 obtain ⟨i0, hi, hz0, hz1, hz2⟩ := info_parts info148
 have Hi := Lib.hid hi; have Hz0 := Lib.hid hz0; have Hz1 := Lib.hid hz1; have HBy : Hid (i0.bytes * 0 ≤ 281474976710656) := by unfold Hid; omega
 clear hi hz0 hz1 hz2
 go_enter Tryz.func67, Tryz.ntmps67
 go_wp2_with fail
 go_loopw [3] (fun i wr => i = .int .i64 0 ∧ Hid (Below w.heap.size w wr)) (fun _ _ => 0)
 case atStart => exact ⟨rfl, Below.refl _ _⟩
 case round =>
  obtain ⟨rfl, H0⟩ := hrel
  obtain ⟨wa, rfl⟩ : ∃ wa : World, wa = wr := ⟨_, rfl⟩
  go_wp2_with (first | (at_make; refine wpList_make_full _ rfl _ _ 94 rfl wa.heap.size 162 i0 _ 1 Tryz.underlying94 Hi.out Hz0.out Hz1.out _ _ _ _ 0 rfl rfl rfl rfl HBy.out (by decide) (Nat.le_refl _) ?_; intro w6 hown6 hg6; have HB6 := Lib.hid (H0.out.trans (((Below.refl wa.heap.size wa).grown hg6 (Nat.le_refl _) (by simp)).mono H0.out.size)); clear hown6 hg6))
  go_loopw [6] (fun i wr => i = .int .i64 0 ∧ Hid (Below w.heap.size w wr)) (fun _ _ => 0)
  case atStart => exact ⟨rfl, HB6⟩
  case round =>
   obtain ⟨rfl, H1⟩ := hrel
   go_wp2_with fail
   go_loopw [9] (fun i wr => i = .int .i64 0 ∧ Hid (Below w.heap.size w wr)) (fun _ _ => 0)
   case atStart => exact ⟨rfl, H1⟩
   case round =>
    obtain ⟨rfl, H2⟩ := hrel
    go_wp2_with fail
    go_loopw [11] (fun i wr => i = .int .i64 0 ∧ Hid (Below w.heap.size w wr)) (fun _ _ => 0)
    case atStart => exact ⟨rfl, H2⟩
    case round =>
     obtain ⟨rfl, H3⟩ := hrel
     go_wp2_with fail
     go_loopw [14] (fun i wr => i = .int .i64 0 ∧ Hid (Below w.heap.size w wr)) (fun _ _ => 0)
     case atStart => exact ⟨rfl, H3⟩
     case round =>
      obtain ⟨rfl, H4⟩ := hrel
      go_wp2_with fail
      go_ret
      exact ⟨rfl, H4.out⟩

theorem info23 : (Tryz.prog.info? 26).map (fun i => (i.zero, i.size, i.bytes)) = some (some (.slice none 0 0), 1, 24) := by kernel_rfl
theorem flat55_none (w : World) : Calls Tryz.prog 68 #[.slice none 0 0] w fun r w' => r = .returned (.bool true) ∧ Below w.heap.size w w' := by
 obtain ⟨i0, hi, hz0, hz1, hz2⟩ := info_parts info23
 have Hi := Lib.hid hi; have Hz0 := Lib.hid hz0; have Hz1 := Lib.hid hz1; have HBy : Hid (i0.bytes * 0 ≤ 281474976710656) := by unfold Hid; omega
 clear hi hz0 hz1 hz2
 go_enter Tryz.func68, Tryz.ntmps68
 go_wp2_with fail
 go_loopw [3] (fun i wr => i = .int .i64 0 ∧ Hid (Below w.heap.size w wr)) (fun _ _ => 0)
 case atStart => exact ⟨rfl, Below.refl _ _⟩
 case round =>
  obtain ⟨rfl, H0⟩ := hrel
  obtain ⟨wa, rfl⟩ : ∃ wa : World, wa = wr := ⟨_, rfl⟩
  go_wp2_with (first | (at_make; refine wpList_make_full _ rfl _ _ 95 rfl wa.heap.size 26 i0 _ 1 Tryz.underlying95 Hi.out Hz0.out Hz1.out _ _ _ _ 0 rfl rfl rfl rfl HBy.out (by decide) (Nat.le_refl _) ?_; intro w6 hown6 hg6; have HB6 := Lib.hid (H0.out.trans (((Below.refl wa.heap.size wa).grown hg6 (Nat.le_refl _) (by simp)).mono H0.out.size)); clear hown6 hg6))
  go_loopw [6] (fun i wr => i = .int .i64 0 ∧ Hid (Below w.heap.size w wr)) (fun _ _ => 0)
  case atStart => exact ⟨rfl, HB6⟩
  case round =>
   obtain ⟨rfl, H1⟩ := hrel
   go_wp2_with fail
   go_loopw [9] (fun i wr => i = .int .i64 0 ∧ Hid (Below w.heap.size w wr)) (fun _ _ => 0)
   case atStart => exact ⟨rfl, H1⟩
   case round =>
    obtain ⟨rfl, H2⟩ := hrel
    go_wp2_with fail
    go_loopw [11] (fun i wr => i = .int .i64 0 ∧ Hid (Below w.heap.size w wr)) (fun _ _ => 0)
    case atStart => exact ⟨rfl, H2⟩
    case round =>
     obtain ⟨rfl, H3⟩ := hrel
     go_wp2_with fail
     go_loopw [14] (fun i wr => i = .int .i64 0 ∧ Hid (Below w.heap.size w wr)) (fun _ _ => 0)
     case atStart => exact ⟨rfl, H3⟩
     case round =>
      obtain ⟨rfl, H4⟩ := hrel
      go_wp2_with fail
      go_ret
      exact ⟨rfl, H4.out⟩

theorem info150 : (Tryz.prog.info? 164).map (fun i => (i.zero, i.size, i.bytes)) = some (some (.slice none 0 0), 1, 24) := by kernel_rfl
theorem flat56_none (w : World) : Calls Tryz.prog 69 #[.slice none 0 0] w fun r w' => r = .returned (.bool true) ∧ Below w.heap.size w w' := by
 obtain ⟨i0, hi, hz0, hz1, hz2⟩ := info_parts info150
 have Hi := Lib.hid hi; have Hz0 := Lib.hid hz0; have Hz1 := Lib.hid hz1; have HBy : Hid (i0.bytes * 0 ≤ 281474976710656) := by unfold Hid; omega
 clear hi hz0 hz1 hz2
 go_enter Tryz.func69, Tryz.ntmps69
 go_wp2_with fail
 go_loopw [3] (fun i wr => i = .int .i64 0 ∧ Hid (Below w.heap.size w wr)) (fun _ _ => 0)
 case atStart => exact ⟨rfl, Below.refl _ _⟩
 case round =>
  obtain ⟨rfl, H0⟩ := hrel
  obtain ⟨wa, rfl⟩ : ∃ wa : World, wa = wr := ⟨_, rfl⟩
  go_wp2_with (first | (at_make; refine wpList_make_full _ rfl _ _ 96 rfl wa.heap.size 164 i0 _ 1 Tryz.underlying96 Hi.out Hz0.out Hz1.out _ _ _ _ 0 rfl rfl rfl rfl HBy.out (by decide) (Nat.le_refl _) ?_; intro w6 hown6 hg6; have HB6 := Lib.hid (H0.out.trans (((Below.refl wa.heap.size wa).grown hg6 (Nat.le_refl _) (by simp)).mono H0.out.size)); clear hown6 hg6))
  go_loopw [6] (fun i wr => i = .int .i64 0 ∧ Hid (Below w.heap.size w wr)) (fun _ _ => 0)
  case atStart => exact ⟨rfl, HB6⟩
  case round =>
   obtain ⟨rfl, H1⟩ := hrel
   go_wp2_with fail
   go_loopw [9] (fun i wr => i = .int .i64 0 ∧ Hid (Below w.heap.size w wr)) (fun _ _ => 0)
   case atStart => exact ⟨rfl, H1⟩
   case round =>
    obtain ⟨rfl, H2⟩ := hrel
    go_wp2_with fail
    go_loopw [11] (fun i wr => i = .int .i64 0 ∧ Hid (Below w.heap.size w wr)) (fun _ _ => 0)
    case atStart => exact ⟨rfl, H2⟩
    case round =>
     obtain ⟨rfl, H3⟩ := hrel
     go_wp2_with fail
     go_loopw [14] (fun i wr => i = .int .i64 0 ∧ Hid (Below w.heap.size w wr)) (fun _ _ => 0)
     case atStart => exact ⟨rfl, H3⟩
     case round =>
      obtain ⟨rfl, H4⟩ := hrel
      go_wp2_with fail
      go_ret
      exact ⟨rfl, H4.out⟩

theorem info36a : (Tryz.prog.info? 32).map (fun i => (i.zero, i.size, i.bytes)) = some (some (.slice none 0 0), 1, 24) := by kernel_rfl
theorem flat57_none (w : World) : Calls Tryz.prog 70 #[.slice none 0 0] w fun r w' => r = .returned (.bool true) ∧ Below w.heap.size w w' := by
 obtain ⟨i0, hi, hz0, hz1, hz2⟩ := info_parts info36a
 have Hi := Lib.hid hi; have Hz0 := Lib.hid hz0; have Hz1 := Lib.hid hz1; have HBy : Hid (i0.bytes * 0 ≤ 281474976710656) := by unfold Hid; omega
 clear hi hz0 hz1 hz2
 go_enter Tryz.func70, Tryz.ntmps70
 go_wp2_with fail
 go_loopw [3] (fun i wr => i = .int .i64 0 ∧ Hid (Below w.heap.size w wr)) (fun _ _ => 0)
 case atStart => exact ⟨rfl, Below.refl _ _⟩
 case round =>
  obtain ⟨rfl, H0⟩ := hrel
  obtain ⟨wa, rfl⟩ : ∃ wa : World, wa = wr := ⟨_, rfl⟩
  go_wp2_with (first | (at_make; refine wpList_make_full _ rfl _ _ 46 rfl wa.heap.size 32 i0 _ 1 Tryz.underlying46 Hi.out Hz0.out Hz1.out _ _ _ _ 0 rfl rfl rfl rfl HBy.out (by decide) (Nat.le_refl _) ?_; intro w6 hown6 hg6; have HB6 := Lib.hid (H0.out.trans (((Below.refl wa.heap.size wa).grown hg6 (Nat.le_refl _) (by simp)).mono H0.out.size)); clear hown6 hg6))
  go_loopw [6] (fun i wr => i = .int .i64 0 ∧ Hid (Below w.heap.size w wr)) (fun _ _ => 0)
  case atStart => exact ⟨rfl, HB6⟩
  case round =>
   obtain ⟨rfl, H1⟩ := hrel
   go_wp2_with fail
   go_loopw [9] (fun i wr => i = .int .i64 0 ∧ Hid (Below w.heap.size w wr)) (fun _ _ => 0)
   case atStart => exact ⟨rfl, H1⟩
   case round =>
    obtain ⟨rfl, H2⟩ := hrel
    go_wp2_with fail
    go_loopw [11] (fun i wr => i = .int .i64 0 ∧ Hid (Below w.heap.size w wr)) (fun _ _ => 0)
    case atStart => exact ⟨rfl, H2⟩
    case round =>
     obtain ⟨rfl, H3⟩ := hrel
     go_wp2_with fail
     go_loopw [14] (fun i wr => i = .int .i64 0 ∧ Hid (Below w.heap.size w wr)) (fun _ _ => 0)
     case atStart => exact ⟨rfl, H3⟩
     case round =>
      obtain ⟨rfl, H4⟩ := hrel
      go_wp2_with fail
      go_ret
      exact ⟨rfl, H4.out⟩

theorem info152 : (Tryz.prog.info? 23).map (fun i => (i.zero, i.size, i.bytes)) = some (some (.slice none 0 0), 1, 24) := by kernel_rfl
theorem flat58_none (w : World) : Calls Tryz.prog 71 #[.slice none 0 0] w fun r w' => r = .returned (.bool true) ∧ Below w.heap.size w w' := by
 obtain ⟨i0, hi, hz0, hz1, hz2⟩ := info_parts info152
 have Hi := Lib.hid hi; have Hz0 := Lib.hid hz0; have Hz1 := Lib.hid hz1; have HBy : Hid (i0.bytes * 0 ≤ 281474976710656) := by unfold Hid; omega
 clear hi hz0 hz1 hz2
 go_enter Tryz.func71, Tryz.ntmps71
 go_wp2_with fail
 go_loopw [3] (fun i wr => i = .int .i64 0 ∧ Hid (Below w.heap.size w wr)) (fun _ _ => 0)
 case atStart => exact ⟨rfl, Below.refl _ _⟩
 case round =>
  obtain ⟨rfl, H0⟩ := hrel
  obtain ⟨wa, rfl⟩ : ∃ wa : World, wa = wr := ⟨_, rfl⟩
  go_wp2_with (first | (at_make; refine wpList_make_full _ rfl _ _ 70 rfl wa.heap.size 23 i0 _ 1 Tryz.underlying70 Hi.out Hz0.out Hz1.out _ _ _ _ 0 rfl rfl rfl rfl HBy.out (by decide) (Nat.le_refl _) ?_; intro w6 hown6 hg6; have HB6 := Lib.hid (H0.out.trans (((Below.refl wa.heap.size wa).grown hg6 (Nat.le_refl _) (by simp)).mono H0.out.size)); clear hown6 hg6))
  go_loopw [6] (fun i wr => i = .int .i64 0 ∧ Hid (Below w.heap.size w wr)) (fun _ _ => 0)
  case atStart => exact ⟨rfl, HB6⟩
  case round =>
   obtain ⟨rfl, H1⟩ := hrel
   go_wp2_with fail
   go_loopw [9] (fun i wr => i = .int .i64 0 ∧ Hid (Below w.heap.size w wr)) (fun _ _ => 0)
   case atStart => exact ⟨rfl, H1⟩
   case round =>
    obtain ⟨rfl, H2⟩ := hrel
    go_wp2_with fail
    go_loopw [11] (fun i wr => i = .int .i64 0 ∧ Hid (Below w.heap.size w wr)) (fun _ _ => 0)
    case atStart => exact ⟨rfl, H2⟩
    case round =>
     obtain ⟨rfl, H3⟩ := hrel
     go_wp2_with fail
     go_loopw [14] (fun i wr => i = .int .i64 0 ∧ Hid (Below w.heap.size w wr)) (fun _ _ => 0)
     case atStart => exact ⟨rfl, H3⟩
     case round =>
      obtain ⟨rfl, H4⟩ := hrel
      go_wp2_with fail
      go_ret
      exact ⟨rfl, H4.out⟩

theorem info158 : (Tryz.prog.info? 22).map (fun i => (i.zero, i.size, i.bytes)) = some (some (.slice none 0 0), 1, 24) := by kernel_rfl
theorem flat59_none (w : World) : Calls Tryz.prog 72 #[.slice none 0 0] w fun r w' => r = .returned (.bool true) ∧ Below w.heap.size w w' := by
 obtain ⟨i0, hi, hz0, hz1, hz2⟩ := info_parts info158
 have Hi := Lib.hid hi; have Hz0 := Lib.hid hz0; have Hz1 := Lib.hid hz1; have HBy : Hid (i0.bytes * 0 ≤ 281474976710656) := by unfold Hid; omega
 clear hi hz0 hz1 hz2
 go_enter Tryz.func72, Tryz.ntmps72
 go_wp2_with fail
 go_loopw [3] (fun i wr => i = .int .i64 0 ∧ Hid (Below w.heap.size w wr)) (fun _ _ => 0)
 case atStart => exact ⟨rfl, Below.refl _ _⟩
 case round =>
  obtain ⟨rfl, H0⟩ := hrel
  obtain ⟨wa, rfl⟩ : ∃ wa : World, wa = wr := ⟨_, rfl⟩
  go_wp2_with (first | (at_make; refine wpList_make_full _ rfl _ _ 97 rfl wa.heap.size 22 i0 _ 1 Tryz.underlying97 Hi.out Hz0.out Hz1.out _ _ _ _ 0 rfl rfl rfl rfl HBy.out (by decide) (Nat.le_refl _) ?_; intro w6 hown6 hg6; have HB6 := Lib.hid (H0.out.trans (((Below.refl wa.heap.size wa).grown hg6 (Nat.le_refl _) (by simp)).mono H0.out.size)); clear hown6 hg6))
  go_loopw [6] (fun i wr => i = .int .i64 0 ∧ Hid (Below w.heap.size w wr)) (fun _ _ => 0)
  case atStart => exact ⟨rfl, HB6⟩
  case round =>
   obtain ⟨rfl, H1⟩ := hrel
   go_wp2_with fail
   go_loopw [9] (fun i wr => i = .int .i64 0 ∧ Hid (Below w.heap.size w wr)) (fun _ _ => 0)
   case atStart => exact ⟨rfl, H1⟩
   case round =>
    obtain ⟨rfl, H2⟩ := hrel
    go_wp2_with fail
    go_loopw [11] (fun i wr => i = .int .i64 0 ∧ Hid (Below w.heap.size w wr)) (fun _ _ => 0)
    case atStart => exact ⟨rfl, H2⟩
    case round =>
     obtain ⟨rfl, H3⟩ := hrel
     go_wp2_with fail
     go_loopw [14] (fun i wr => i = .int .i64 0 ∧ Hid (Below w.heap.size w wr)) (fun _ _ => 0)
     case atStart => exact ⟨rfl, H3⟩
     case round =>
      obtain ⟨rfl, H4⟩ := hrel
      go_wp2_with fail
      go_ret
      exact ⟨rfl, H4.out⟩

theorem info162 : (Tryz.prog.info? 166).map (fun i => (i.zero, i.size, i.bytes)) = some (some (.slice none 0 0), 1, 24) := by kernel_rfl
theorem flat60_none (w : World) : Calls Tryz.prog 73 #[.slice none 0 0] w fun r w' => r = .returned (.bool true) ∧ Below w.heap.size w w' := by
 obtain ⟨i0, hi, hz0, hz1, hz2⟩ := info_parts info162
 have Hi := Lib.hid hi; have Hz0 := Lib.hid hz0; have Hz1 := Lib.hid hz1; have HBy : Hid (i0.bytes * 0 ≤ 281474976710656) := by unfold Hid; omega
 clear hi hz0 hz1 hz2
 go_enter Tryz.func73, Tryz.ntmps73
 go_wp2_with fail
 go_loopw [3] (fun i wr => i = .int .i64 0 ∧ Hid (Below w.heap.size w wr)) (fun _ _ => 0)
 case atStart => exact ⟨rfl, Below.refl _ _⟩
 case round =>
  obtain ⟨rfl, H0⟩ := hrel
  obtain ⟨wa, rfl⟩ : ∃ wa : World, wa = wr := ⟨_, rfl⟩
  go_wp2_with (first | (at_make; refine wpList_make_full _ rfl _ _ 98 rfl wa.heap.size 166 i0 _ 1 Tryz.underlying98 Hi.out Hz0.out Hz1.out _ _ _ _ 0 rfl rfl rfl rfl HBy.out (by decide) (Nat.le_refl _) ?_; intro w6 hown6 hg6; have HB6 := Lib.hid (H0.out.trans (((Below.refl wa.heap.size wa).grown hg6 (Nat.le_refl _) (by simp)).mono H0.out.size)); clear hown6 hg6))
  go_loopw [6] (fun i wr => i = .int .i64 0 ∧ Hid (Below w.heap.size w wr)) (fun _ _ => 0)
  case atStart => exact ⟨rfl, HB6⟩
  case round =>
   obtain ⟨rfl, H1⟩ := hrel
   go_wp2_with fail
   go_loopw [9] (fun i wr => i = .int .i64 0 ∧ Hid (Below w.heap.size w wr)) (fun _ _ => 0)
   case atStart => exact ⟨rfl, H1⟩
   case round =>
    obtain ⟨rfl, H2⟩ := hrel
    go_wp2_with fail
    go_loopw [11] (fun i wr => i = .int .i64 0 ∧ Hid (Below w.heap.size w wr)) (fun _ _ => 0)
    case atStart => exact ⟨rfl, H2⟩
    case round =>
     obtain ⟨rfl, H3⟩ := hrel
     go_wp2_with fail
     go_loopw [14] (fun i wr => i = .int .i64 0 ∧ Hid (Below w.heap.size w wr)) (fun _ _ => 0)
     case atStart => exact ⟨rfl, H3⟩
     case round =>
      obtain ⟨rfl, H4⟩ := hrel
      go_wp2_with fail
      go_ret
      exact ⟨rfl, H4.out⟩

theorem info164 : (Tryz.prog.info? 168).map (fun i => (i.zero, i.size, i.bytes)) = some (some (.slice none 0 0), 1, 24) := by kernel_rfl
theorem flat61_none (w : World) : Calls Tryz.prog 74 #[.slice none 0 0] w fun r w' => r = .returned (.bool true) ∧ Below w.heap.size w w' := by
 obtain ⟨i0, hi, hz0, hz1, hz2⟩ := info_parts info164
 have Hi := Lib.hid hi; have Hz0 := Lib.hid hz0; have Hz1 := Lib.hid hz1; have HBy : Hid (i0.bytes * 0 ≤ 281474976710656) := by unfold Hid; omega
 clear hi hz0 hz1 hz2
 go_enter Tryz.func74, Tryz.ntmps74
 go_wp2_with fail
 go_loopw [3] (fun i wr => i = .int .i64 0 ∧ Hid (Below w.heap.size w wr)) (fun _ _ => 0)
 case atStart => exact ⟨rfl, Below.refl _ _⟩
 case round =>
  obtain ⟨rfl, H0⟩ := hrel
  obtain ⟨wa, rfl⟩ : ∃ wa : World, wa = wr := ⟨_, rfl⟩
  go_wp2_with (first | (at_make; refine wpList_make_full _ rfl _ _ 99 rfl wa.heap.size 168 i0 _ 1 Tryz.underlying99 Hi.out Hz0.out Hz1.out _ _ _ _ 0 rfl rfl rfl rfl HBy.out (by decide) (Nat.le_refl _) ?_; intro w6 hown6 hg6; have HB6 := Lib.hid (H0.out.trans (((Below.refl wa.heap.size wa).grown hg6 (Nat.le_refl _) (by simp)).mono H0.out.size)); clear hown6 hg6))
  go_loopw [6] (fun i wr => i = .int .i64 0 ∧ Hid (Below w.heap.size w wr)) (fun _ _ => 0)
  case atStart => exact ⟨rfl, HB6⟩
  case round =>
   obtain ⟨rfl, H1⟩ := hrel
   go_wp2_with fail
   go_loopw [9] (fun i wr => i = .int .i64 0 ∧ Hid (Below w.heap.size w wr)) (fun _ _ => 0)
   case atStart => exact ⟨rfl, H1⟩
   case round =>
    obtain ⟨rfl, H2⟩ := hrel
    go_wp2_with fail
    go_loopw [11] (fun i wr => i = .int .i64 0 ∧ Hid (Below w.heap.size w wr)) (fun _ _ => 0)
    case atStart => exact ⟨rfl, H2⟩
    case round =>
     obtain ⟨rfl, H3⟩ := hrel
     go_wp2_with fail
     go_loopw [14] (fun i wr => i = .int .i64 0 ∧ Hid (Below w.heap.size w wr)) (fun _ _ => 0)
     case atStart => exact ⟨rfl, H3⟩
     case round =>
      obtain ⟨rfl, H4⟩ := hrel
      go_wp2_with fail
      go_ret
      exact ⟨rfl, H4.out⟩

theorem info169 : (Tryz.prog.info? 170).map (fun i => (i.zero, i.size, i.bytes)) = some (some (.slice none 0 0), 1, 24) := by kernel_rfl
theorem flat62_none (w : World) : Calls Tryz.prog 75 #[.slice none 0 0] w fun r w' => r = .returned (.bool true) ∧ Below w.heap.size w w' := by
 obtain ⟨i0, hi, hz0, hz1, hz2⟩ := info_parts info169
 have Hi := Lib.hid hi; have Hz0 := Lib.hid hz0; have Hz1 := Lib.hid hz1; have HBy : Hid (i0.bytes * 0 ≤ 281474976710656) := by unfold Hid; omega
 clear hi hz0 hz1 hz2
 go_enter Tryz.func75, Tryz.ntmps75
 go_wp2_with fail
 go_loopw [3] (fun i wr => i = .int .i64 0 ∧ Hid (Below w.heap.size w wr)) (fun _ _ => 0)
 case atStart => exact ⟨rfl, Below.refl _ _⟩
 case round =>
  obtain ⟨rfl, H0⟩ := hrel
  obtain ⟨wa, rfl⟩ : ∃ wa : World, wa = wr := ⟨_, rfl⟩
  go_wp2_with (first | (at_make; refine wpList_make_full _ rfl _ _ 100 rfl wa.heap.size 170 i0 _ 1 Tryz.underlying100 Hi.out Hz0.out Hz1.out _ _ _ _ 0 rfl rfl rfl rfl HBy.out (by decide) (Nat.le_refl _) ?_; intro w6 hown6 hg6; have HB6 := Lib.hid (H0.out.trans (((Below.refl wa.heap.size wa).grown hg6 (Nat.le_refl _) (by simp)).mono H0.out.size)); clear hown6 hg6))
  go_loopw [6] (fun i wr => i = .int .i64 0 ∧ Hid (Below w.heap.size w wr)) (fun _ _ => 0)
  case atStart => exact ⟨rfl, HB6⟩
  case round =>
   obtain ⟨rfl, H1⟩ := hrel
   go_wp2_with fail
   go_loopw [9] (fun i wr => i = .int .i64 0 ∧ Hid (Below w.heap.size w wr)) (fun _ _ => 0)
   case atStart => exact ⟨rfl, H1⟩
   case round =>
    obtain ⟨rfl, H2⟩ := hrel
    go_wp2_with fail
    go_loopw [11] (fun i wr => i = .int .i64 0 ∧ Hid (Below w.heap.size w wr)) (fun _ _ => 0)
    case atStart => exact ⟨rfl, H2⟩
    case round =>
     obtain ⟨rfl, H3⟩ := hrel
     go_wp2_with fail
     go_loopw [14] (fun i wr => i = .int .i64 0 ∧ Hid (Below w.heap.size w wr)) (fun _ _ => 0)
     case atStart => exact ⟨rfl, H3⟩
     case round =>
      obtain ⟨rfl, H4⟩ := hrel
      go_wp2_with fail
      go_ret
      exact ⟨rfl, H4.out⟩

theorem info174 : (Tryz.prog.info? 172).map (fun i => (i.zero, i.size, i.bytes)) = some (some (.slice none 0 0), 1, 24) := by kernel_rfl
theorem flat63_none (w : World) : Calls Tryz.prog 76 #[.slice none 0 0] w fun r w' => r = .returned (.bool true) ∧ Below w.heap.size w w' := by
 obtain ⟨i0, hi, hz0, hz1, hz2⟩ := info_parts info174
 have Hi := Lib.hid hi; have Hz0 := Lib.hid hz0; have Hz1 := Lib.hid hz1; have HBy : Hid (i0.bytes * 0 ≤ 281474976710656) := by unfold Hid; omega
 clear hi hz0 hz1 hz2
 go_enter Tryz.func76, Tryz.ntmps76
 go_wp2_with fail
 go_loopw [3] (fun i wr => i = .int .i64 0 ∧ Hid (Below w.heap.size w wr)) (fun _ _ => 0)
 case atStart => exact ⟨rfl, Below.refl _ _⟩
 case round =>
  obtain ⟨rfl, H0⟩ := hrel
  obtain ⟨wa, rfl⟩ : ∃ wa : World, wa = wr := ⟨_, rfl⟩
  go_wp2_with (first | (at_make; refine wpList_make_full _ rfl _ _ 101 rfl wa.heap.size 172 i0 _ 1 Tryz.underlying101 Hi.out Hz0.out Hz1.out _ _ _ _ 0 rfl rfl rfl rfl HBy.out (by decide) (Nat.le_refl _) ?_; intro w6 hown6 hg6; have HB6 := Lib.hid (H0.out.trans (((Below.refl wa.heap.size wa).grown hg6 (Nat.le_refl _) (by simp)).mono H0.out.size)); clear hown6 hg6))
  go_loopw [6] (fun i wr => i = .int .i64 0 ∧ Hid (Below w.heap.size w wr)) (fun _ _ => 0)
  case atStart => exact ⟨rfl, HB6⟩
  case round =>
   obtain ⟨rfl, H1⟩ := hrel
   go_wp2_with fail
   go_loopw [9] (fun i wr => i = .int .i64 0 ∧ Hid (Below w.heap.size w wr)) (fun _ _ => 0)
   case atStart => exact ⟨rfl, H1⟩
   case round =>
    obtain ⟨rfl, H2⟩ := hrel
    go_wp2_with fail
    go_loopw [11] (fun i wr => i = .int .i64 0 ∧ Hid (Below w.heap.size w wr)) (fun _ _ => 0)
    case atStart => exact ⟨rfl, H2⟩
    case round =>
     obtain ⟨rfl, H3⟩ := hrel
     go_wp2_with fail
     go_loopw [14] (fun i wr => i = .int .i64 0 ∧ Hid (Below w.heap.size w wr)) (fun _ _ => 0)
     case atStart => exact ⟨rfl, H3⟩
     case round =>
      obtain ⟨rfl, H4⟩ := hrel
      go_wp2_with fail
      go_ret
      exact ⟨rfl, H4.out⟩

end Go.Proofs.YtdnkffplkleolaaGreat
namespace Go.Proofs.YtdnkffplkleolaaGreat
open Go.RowKit
set_option maxRecDepth 100000
set_option maxHeartbeats 4000000

/-- The bag with lists of twigs alone. -/
def bagA (v : Value) : Array Value := #[.slice none 0 0, .slice none 0 0, .slice none 0 0, .slice none 0 0, .slice none 0 0, .slice none 0 0, .slice none 0 0, v, .slice none 0 0, .slice none 0 0, .slice none 0 0, .slice none 0 0, .slice none 0 0, .slice none 0 0]
/-- What belongs to the lists. -/
def ownF (K : Nat) (R : Nat → Value) : Nat → Prop := fun b => ∃ i, i < K ∧ (R i).ownBlock = some b

theorem Fl.re {w0 w : World} {B K lg lc : Nat} {R G : Nat → Value} {n : Nat → Nat} {Y Z : Nat → List Tw} (h : Fl w0 w B K lg lc R n Y 0 G Z) : Fl w w B K lg lc R n Y 0 R Y :=
 ⟨Two.start h.two.own1 (fun i j g hi hj h1 h2 => h.two.ap i j g hi hj (.inl h1) (.inl h2)) R Y, h.ls, h.len, Fr.refl _ _, fun i g hi => absurd hi (by omega)⟩
theorem hrow_owns {w : World} {gb B e s n : Nat} {cs : Array Value} {t : TypeId} {v : Value} {xs : List Value} (h : hrow w gb cs t) (ho : w.ownsRow B e s v n xs) (ht : t ≠ e) : v.ownBlock ≠ some gb := by
 intro hv
 rcases ho.2 with ⟨rfl, _⟩ | ⟨g, c, cur, rfl, _, h1, _⟩
 ·cases hv
 ·simp only [Value.ownBlock, Option.some.injEq] at hv
  subst hv
  rw [h.h] at h1
  cases h1
  exact ht rfl

theorem apart_some (μ : Int → Int → Int) (HMk : Hid (MkC μ)) (w : World) (gb B K lg lc : Nat) (hK : K ≤ 100) (hK0 : 0 < K) (R : Nat → Value) (n : Nat → Nat) (Y : Nat → List Tw) (hr : hrow w gb (bagA (.slice (some ⟨lg, 0, none⟩) K lc)) 103) (h : Fl w w B K lg lc R n Y 0 R Y) (hn : ∀ k, k < K → n k ≤ 2000) :
  Calls Tryz.prog 37 #[.pointer (some ⟨gb, 0, none⟩)] w fun r w' => r = .returned (.bool true) ∧ Fr (ownF K R) w w' := by
 have HR := Lib.hid hr; have HL := Lib.hid h; have HN := Lib.hid hn
 have c : w.cell? ⟨gb, 0, none⟩ = some (.slice none 0 0) := hr.cell 0
 have HF : Hid (Fr (ownF K R) w w) := Fr.refl _ _
 clear hr h hn
 go_enter Tryz.func37, Tryz.ntmps37
 go_wp2_with fail
 refine (flat50_none _).mono ?_
 rintro e wx ⟨rfl, hb⟩
 have HF := Lib.hid (HF.out.trans (Fr.of_below (F := fun _ => False) hb) (fun _ _ h => h.elim)); have HR := Lib.hid (HR.out.below hb); have HL := Lib.hid (HL.out.below (Nat.zero_le _) HL.out.size hb)
 clear hb c
 have c : wx.cell? ⟨gb, 1, none⟩ = some (.slice none 0 0) := HR.out.cell 1
 go_wp2_with fail
 refine (flat51_none _).mono ?_
 rintro e wx ⟨rfl, hb⟩
 have HF := Lib.hid (HF.out.trans (Fr.of_below (F := fun _ => False) hb) (fun _ _ h => h.elim)); have HR := Lib.hid (HR.out.below hb); have HL := Lib.hid (HL.out.below (Nat.zero_le _) HL.out.size hb)
 clear hb c
 have c : wx.cell? ⟨gb, 2, none⟩ = some (.slice none 0 0) := HR.out.cell 2
 go_wp2_with fail
 refine (flat52_none _).mono ?_
 rintro e wx ⟨rfl, hb⟩
 have HF := Lib.hid (HF.out.trans (Fr.of_below (F := fun _ => False) hb) (fun _ _ h => h.elim)); have HR := Lib.hid (HR.out.below hb); have HL := Lib.hid (HL.out.below (Nat.zero_le _) HL.out.size hb)
 clear hb c
 have c : wx.cell? ⟨gb, 3, none⟩ = some (.slice none 0 0) := HR.out.cell 3
 go_wp2_with fail
 refine (flat53_none _).mono ?_
 rintro e wx ⟨rfl, hb⟩
 have HF := Lib.hid (HF.out.trans (Fr.of_below (F := fun _ => False) hb) (fun _ _ h => h.elim)); have HR := Lib.hid (HR.out.below hb); have HL := Lib.hid (HL.out.below (Nat.zero_le _) HL.out.size hb)
 clear hb c
 have c : wx.cell? ⟨gb, 4, none⟩ = some (.slice none 0 0) := HR.out.cell 4
 go_wp2_with fail
 refine (flat54_none _).mono ?_
 rintro e wx ⟨rfl, hb⟩
 have HF := Lib.hid (HF.out.trans (Fr.of_below (F := fun _ => False) hb) (fun _ _ h => h.elim)); have HR := Lib.hid (HR.out.below hb); have HL := Lib.hid (HL.out.below (Nat.zero_le _) HL.out.size hb)
 clear hb c
 have c : wx.cell? ⟨gb, 5, none⟩ = some (.slice none 0 0) := HR.out.cell 5
 go_wp2_with fail
 refine (flat55_none _).mono ?_
 rintro e wx ⟨rfl, hb⟩
 have HF := Lib.hid (HF.out.trans (Fr.of_below (F := fun _ => False) hb) (fun _ _ h => h.elim)); have HR := Lib.hid (HR.out.below hb); have HL := Lib.hid (HL.out.below (Nat.zero_le _) HL.out.size hb)
 clear hb c
 have c : wx.cell? ⟨gb, 6, none⟩ = some (.slice none 0 0) := HR.out.cell 6
 go_wp2_with fail
 refine (flat56_none _).mono ?_
 rintro e wx ⟨rfl, hb⟩
 have HF := Lib.hid (HF.out.trans (Fr.of_below (F := fun _ => False) hb) (fun _ _ h => h.elim)); have HR := Lib.hid (HR.out.below hb); have HL := Lib.hid (HL.out.below (Nat.zero_le _) HL.out.size hb)
 clear hb c
 have c : wx.cell? ⟨gb, 7, none⟩ = some (.slice (some ⟨lg, 0, none⟩) K lc) := HR.out.cell 7
 go_wp2_with fail
 refine (flatTw_some μ HMk _ B K lg lc hK hK0 R n Y HL.out.re HN.out).mono ?_
 rintro e wx ⟨rfl, hb⟩
 have HF := Lib.hid (HF.out.trans hb (fun _ _ h => h)); have HR := Lib.hid (HR.out.fr hb (by rintro ⟨i, hi, hg⟩; exact hrow_owns HR.out (HL.out.two.own1 i hi) (by decide) hg))
 clear hb c
 have c : wx.cell? ⟨gb, 8, none⟩ = some (.slice none 0 0) := HR.out.cell 8
 go_wp2_with fail
 refine (flat58_none _).mono ?_
 rintro e wx ⟨rfl, hb⟩
 have HF := Lib.hid (HF.out.trans (Fr.of_below (F := fun _ => False) hb) (fun _ _ h => h.elim)); have HR := Lib.hid (HR.out.below hb)
 clear hb c
 have c : wx.cell? ⟨gb, 9, none⟩ = some (.slice none 0 0) := HR.out.cell 9
 go_wp2_with fail
 refine (flat59_none _).mono ?_
 rintro e wx ⟨rfl, hb⟩
 have HF := Lib.hid (HF.out.trans (Fr.of_below (F := fun _ => False) hb) (fun _ _ h => h.elim)); have HR := Lib.hid (HR.out.below hb)
 clear hb c
 have c : wx.cell? ⟨gb, 10, none⟩ = some (.slice none 0 0) := HR.out.cell 10
 go_wp2_with fail
 refine (flat60_none _).mono ?_
 rintro e wx ⟨rfl, hb⟩
 have HF := Lib.hid (HF.out.trans (Fr.of_below (F := fun _ => False) hb) (fun _ _ h => h.elim)); have HR := Lib.hid (HR.out.below hb)
 clear hb c
 have c : wx.cell? ⟨gb, 11, none⟩ = some (.slice none 0 0) := HR.out.cell 11
 go_wp2_with fail
 refine (flat61_none _).mono ?_
 rintro e wx ⟨rfl, hb⟩
 have HF := Lib.hid (HF.out.trans (Fr.of_below (F := fun _ => False) hb) (fun _ _ h => h.elim)); have HR := Lib.hid (HR.out.below hb)
 clear hb c
 have c : wx.cell? ⟨gb, 12, none⟩ = some (.slice none 0 0) := HR.out.cell 12
 go_wp2_with fail
 refine (flat62_none _).mono ?_
 rintro e wx ⟨rfl, hb⟩
 have HF := Lib.hid (HF.out.trans (Fr.of_below (F := fun _ => False) hb) (fun _ _ h => h.elim)); have HR := Lib.hid (HR.out.below hb)
 clear hb c
 have c : wx.cell? ⟨gb, 13, none⟩ = some (.slice none 0 0) := HR.out.cell 13
 go_wp2_with fail
 refine (flat63_none _).mono ?_
 rintro e wx ⟨rfl, hb⟩
 have HF := Lib.hid (HF.out.trans (Fr.of_below (F := fun _ => False) hb) (fun _ _ h => h.elim)); have HR := Lib.hid (HR.out.below hb)
 clear hb c
 go_wp2_with fail
 go_ret
 exact ⟨rfl, HF.out⟩

theorem putTw_any (w : World) (gb B : Nat) (v : Value) (k : Nat) (hk : k ≤ 1000) (xs : List Value) (hr : hrow w gb (bagA v) 103) (hv : w.ownsRow B 32 1 v k xs) (ao : Option Addr) (n c : Nat) :
  Calls Tryz.prog 36 #[.pointer (some ⟨gb, 0, none⟩), .slice ao n c] w fun r w' => r = .returned (.tuple #[]) ∧ ∃ lg lc, hrow w' gb (bagA (.slice (some ⟨lg, 0, none⟩) (k + 1) lc)) 103 ∧ w'.ownsRow (min B w.heap.size) 32 1 (.slice (some ⟨lg, 0, none⟩) (k + 1) lc) (k + 1) (xs ++ [.slice ao n c]) ∧ Fr (fun b => b = gb ∨ v.ownBlock = some b) w w' := by
 have HR := Lib.hid hr; have HV := Lib.hid hv
 have c7 : w.cell? ⟨gb, 7, none⟩ = some v := hr.cell 7
 have hlt := hr.lt
 have HSv : Hid (Sv (w.alloc (.cells #[.slice ao n c] 32)) (some ⟨w.heap.size, 0, none⟩) 1 1 1 [.slice ao n c]) := Sv.lit w 32 #[.slice ao n c] 1 1 (by decide) rfl
 have HOc : Hid (∀ u ∈ ([.slice ao n c] : List Value), u.oneCell' = true) := by intro u hu; simp only [List.mem_singleton] at hu; subst hu; rfl
 have hb : Below w.heap.size w (w.alloc (.cells #[.slice ao n c] 32)) := (Below.refl _ _).alloc (Nat.le_refl _) _
 have HO : Hid ((w.alloc (.cells #[.slice ao n c] 32)).ownsRow B 32 1 v k xs) := owns_fr hv (Fr.of_below (F := fun _ => False) hb) (fun _ _ h => h)
 have HR1 := Lib.hid (hr.below hb)
 have HLn : Hid ((k + 1) * 24 ≤ 140737488355328 ∧ k + 1 ≤ maxLen) := by unfold Hid maxLen; omega
 have HEl : Hid (Elem Tryz.prog 46 32 1 24 (.slice none 0 0)) := ⟨by kernel_rfl, by kernel_rfl, rfl, by decide⟩
 have HAp : Hid (∀ v8 w8, AppTo (w.alloc (.cells #[.slice ao n c] 32)) B 32 1 v k xs 1 [.slice ao n c] v8 w8 →
   ∃ lg lc, v8 = .slice (some ⟨lg, 0, none⟩) (k + 1) lc ∧ hrow w8 gb (bagA v) 103 ∧ w8.ownsRow (min B w.heap.size) 32 1 (.slice (some ⟨lg, 0, none⟩) (k + 1) lc) (k + 1) (xs ++ [.slice ao n c]) ∧ lg ≠ gb ∧ Fr (fun b => b = gb ∨ v.ownBlock = some b) w w8) := fun v8 w8 hA => by
  rcases hA with ⟨g, cap, e1, e2, hf, ho, _⟩ | ho
  ·have hne := hrow_owns HR1.out HO.out (by decide)
   have hgg : g ≠ gb := by rintro rfl; exact hne (by rw [e1]; rfl)
   exact ⟨g, cap, e2, HR1.out.fr hf (fun e => hgg e.symm), e2 ▸ (ho.mono (Nat.min_le_left _ _)), hgg, (Fr.of_below hb).trans hf (fun q _ hq => .inr (by rw [e1, hq]; rfl))⟩
  ·obtain ⟨g, cap, hv8, hbg, _⟩ := World.ownsRow.form ho.1 (by omega)
   have hr8 := HR1.out.below ho.2
   refine ⟨g, cap, hv8, hr8, hv8 ▸ (ho.1.mono ?_), ?_, (Fr.of_below (F := fun b => b = gb ∨ v.ownBlock = some b) hb).trans (Fr.of_below (F := fun _ => False) ho.2) (fun _ _ h => h.elim)⟩
   ·have := hb.size; exact Nat.le_trans (Nat.min_le_right _ _) this
   ·have := hb.size; omega
 clear hr hv hb
 go_enter Tryz.func36, Tryz.ntmps36
 go_wp2_with (first
  | (at_builtin; refine wpList_appf _ B rfl (.tmp 8) (.tmp 10) 46 32 rfl HEl.out v k xs rfl HO.out _ 1 1 _ rfl HSv.out HOc.out (by decide) HLn.out ?_; intro v8 w8 hA; obtain ⟨lg, lc, hv8, hr8, ho8, hne8, hf8⟩ := HAp.out v8 w8 hA; subst hv8; have HR8 := Lib.hid hr8; have HO8 := Lib.hid ho8; have HF8 := Lib.hid hf8; have g7 : w8.cell? ⟨gb, 7, none⟩ = some v := hr8.cell 7; have gf := hr8.frozen 7; clear hA hr8 ho8 hf8))
 go_end0
 refine ⟨rfl, lg, lc, HR8.out.setCell 7 _, owns_fr HO8.out (Fr.setCell _ ⟨gb, 7, none⟩ _) ?_, HF8.out.trans (Fr.setCell _ ⟨gb, 7, none⟩ _) (fun _ _ h => .inl h)⟩
 rintro b hb hb'
 have h1 : lg = b := by simpa [Value.ownBlock] using hb
 have h2 : b = gb := hb'
 exact hne8 (by omega)

theorem apartTw_any (μ : Int → Int → Int) (HMk : Hid (MkC μ)) (w : World) (B K : Nat) (hK : K ≤ 100) (hK0 : 0 < K) (hB : B ≤ w.heap.size) (lo : Option Addr) (lc : Nat) (R : Nat → Value) (n : Nat → Nat) (Y : Nat → List Tw)
  (hls : Sv w lo K lc 1 ((List.range K).map R)) (hT : Two twc B 74 5 w K R Y 0 R Y) (hl : ∀ k, k < K → (Y k).length = n k) (hn : ∀ k, k < K → n k ≤ 2000) :
  Calls Tryz.prog 17 #[.slice lo K lc] w fun r w' => r = .returned (.bool true) ∧ Below B w w' := by
 have hlb := hls.bound
 obtain ⟨hl1, hl2⟩ := hlb
 have HLs := Lib.hid hls; have HT := Lib.hid hT; have HLe := Lib.hid hl; have HN := Lib.hid hn
 clear hls hT hl hn
 have HR0 : Hid (hrow (w.alloc (.cells (bagA (.slice none 0 0)) 103)) w.heap.size (bagA (.slice none 0 0)) 103) := hrow.new _ _ _
 have HB0 : Hid (Below w.heap.size w (w.alloc (.cells (bagA (.slice none 0 0)) 103))) := (Below.refl _ _).alloc (Nat.le_refl _) _
 unfold bagA at HR0 HB0
 go_enter Tryz.func17, Tryz.ntmps17
 go_wp2_with fail
 revert HR0 HB0
 generalize w.alloc _ = w1
 generalize hgb : w.heap.size = gb
 intro HR0 HB0
 go_loopw [4] (fun i wr => ∃ (k : Nat) (v : Value), k ≤ K ∧ i = .int .i64 k ∧ Hid (hrow wr gb (bagA v) 103 ∧ wr.ownsRow gb 32 1 v k ((List.range k).map R) ∧ Below gb w wr)) (fun i _ => K - (intOf i).toNat)
 case atStart => exact ⟨0, .slice none 0 0, by omega, rfl, HR0.out, World.ownsRow_nil _ _ _ _, HB0.out⟩
 case round =>
  clear HR0 HB0
  obtain ⟨k, v, hk, rfl, HI⟩ := hrel
  have HGb := Lib.hid hgb
  have HBw : Hid (Below w.heap.size w wr) := by unfold Hid; rw [hgb]; exact HI.out.2.2
  clear hgb
  by_cases hkt : k < K
  ·have hkt' : (k : Int) < K := by omega
   obtain ⟨ao, cap, hv, _⟩ := Sv.of_owns (HT.out.own1 k hkt)
   have hls2 := HLs.out.below HBw.out
   obtain ⟨la, rfl, hc⟩ := hls2.cell k (by simp; omega)
   have hck : wr.cell? (la.add k) = some (.slice ao (Y k).length cap) := by rw [hc]; simp [hkt, hv]
   have HPu := Lib.hid (putTw_any wr gb gb v k (by omega) _ HI.out.1 HI.out.2.1 ao (Y k).length cap)
   have HV := Lib.hid hv
   clear hc hls2 hv
   go_wp2_with fail
   refine HPu.out.mono ?_
   rintro e w5 ⟨rfl, lg, lc', hr5, ho5, hf5⟩
   have hsz : gb ≤ wr.heap.size := by have := HBw.out.size; have := HGb.out; omega
   have HI5 : Hid (hrow w5 gb (bagA (.slice (some ⟨lg, 0, none⟩) (k + 1) lc')) 103 ∧ w5.ownsRow gb 32 1 (.slice (some ⟨lg, 0, none⟩) (k + 1) lc') (k + 1) ((List.range (k + 1)).map R) ∧ Below gb w w5) := by
    refine ⟨hr5, ?_, HI.out.2.2.trans (hf5.below hsz ?_)⟩
    ·rw [Nat.min_eq_left hsz] at ho5
     rw [List.range_succ, List.map_append, List.map_singleton, HV.out]
     exact ho5
    ·rintro q hq (rfl | hb)
     ·omega
     ·have := (HI.out.2.1.lt q hb).1; omega
   clear hr5 ho5 hf5 HPu hck
   go_wp2_with fail
   go_roundw
   case rel => exact ⟨k + 1, _, by omega, by go_num, HI5⟩
   case measure => simp [intOf]; omega
  ·obtain rfl : K = k := by omega
   obtain ⟨lg, lc', rfl, hbg, hgl⟩ := World.ownsRow.form HI.out.2.1 hK0
   have hge : B ≤ gb := by have := HGb.out; omega
   have hFl : Fl wr wr B K lg lc' R n Y 0 R Y := ⟨HT.out.below (Nat.zero_le _) HBw.out, HI.out.2.1.mono hge, HLe.out, Fr.refl _ _, fun i g hi => absurd hi (by omega)⟩
   have HAp := Lib.hid (apart_some μ HMk wr gb B K lg lc' hK hK0 R n Y HI.out.1 hFl HN.out)
   have HOw := Lib.hid (fun i hi g => ((HT.out.below (Nat.zero_le _) HBw.out).own1 i hi).lt g)
   have hsz : B ≤ wr.heap.size := by have := HBw.out.size; omega
   clear hFl HLs
   go_wp2_with fail
   refine HAp.out.mono ?_
   rintro e w6 ⟨rfl, hf6⟩
   have HB6 : Hid (Below B w w6) := (HBw.out.mono hB).trans (hf6.below hsz (by rintro q hq ⟨i, hi, hg⟩; have := (HOw.out i hi q hg).1; omega))
   clear hf6 HAp
   go_wp2_with fail
   go_ret
   exact ⟨rfl, HB6.out⟩
end Go.Proofs.YtdnkffplkleolaaGreat
