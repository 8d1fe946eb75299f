/- Walks: no lists of a kind lie apart. Printed by a program (au.py). -/
import Derived.Test.YtmpccinbeepbgaaAo
namespace Go.Proofs.Ytmpccinbeepbgaa
open Go.RowKit

theorem info144 : (Try.prog.info? 144).map (fun i => (i.zero, i.size, i.bytes)) = some (some (.slice none 0 0), 1, 24) := by kernel_rfl
set_option maxRecDepth 100000 in
theorem flat50_none (w : World) : Calls Try.prog 50 #[.slice none 0 0] w fun r w' => r = .returned (.bool true) ∧ Below w.heap.size w w' := by
  obtain ⟨i0, hi, hz0, hz1, hz2⟩ := info_parts info144
  have Hi := Lib.hid hi; have Hz0 := Lib.hid hz0; have Hz1 := Lib.hid hz1; have HBy : Hid (i0.bytes * 0 ≤ 281474976710656) := by unfold Hid; omega
  clear hi hz0 hz1 hz2
  go_enter Try.func50, Try.ntmps50
  go_wp2_with fail
  go_loopw [3] (fun i wr => i = .int .i64 0 ∧ Hid (Below w.heap.size w wr)) (fun _ _ => 0)
  case atStart => exact ⟨rfl, Below.refl _ _⟩
  case round =>
    obtain ⟨rfl, H0⟩ := hrel
    obtain ⟨wa, rfl⟩ : ∃ wa : World, wa = wr := ⟨_, rfl⟩
    go_wp2_with (first | (at_make; refine wpList_make_full _ rfl _ _ 74 rfl wa.heap.size 144 i0 _ 1 Try.underlying74 Hi.out Hz0.out Hz1.out _ _ _ _ 0 rfl rfl rfl rfl HBy.out (by decide) (Nat.le_refl _) ?_; intro w6 hown6 hg6; have HB6 := Lib.hid (H0.out.trans (((Below.refl wa.heap.size wa).grown hg6 (Nat.le_refl _) (by simp)).mono H0.out.size)); clear hown6 hg6))
    go_loopw [6] (fun i wr => i = .int .i64 0 ∧ Hid (Below w.heap.size w wr)) (fun _ _ => 0)
    case atStart => exact ⟨rfl, HB6⟩
    case round =>
      obtain ⟨rfl, H1⟩ := hrel
      go_wp2_with fail
      go_loopw [9] (fun i wr => i = .int .i64 0 ∧ Hid (Below w.heap.size w wr)) (fun _ _ => 0)
      case atStart => exact ⟨rfl, H1⟩
      case round =>
        obtain ⟨rfl, H2⟩ := hrel
        go_wp2_with fail
        go_loopw [11] (fun i wr => i = .int .i64 0 ∧ Hid (Below w.heap.size w wr)) (fun _ _ => 0)
        case atStart => exact ⟨rfl, H2⟩
        case round =>
          obtain ⟨rfl, H3⟩ := hrel
          go_wp2_with fail
          go_loopw [14] (fun i wr => i = .int .i64 0 ∧ Hid (Below w.heap.size w wr)) (fun _ _ => 0)
          case atStart => exact ⟨rfl, H3⟩
          case round =>
            obtain ⟨rfl, H4⟩ := hrel
            go_wp2_with fail
            go_ret
            exact ⟨rfl, H4.out⟩

theorem info146 : (Try.prog.info? 146).map (fun i => (i.zero, i.size, i.bytes)) = some (some (.slice none 0 0), 1, 24) := by kernel_rfl
set_option maxRecDepth 100000 in
theorem flat51_none (w : World) : Calls Try.prog 51 #[.slice none 0 0] w fun r w' => r = .returned (.bool true) ∧ Below w.heap.size w w' := by
  obtain ⟨i0, hi, hz0, hz1, hz2⟩ := info_parts info146
  have Hi := Lib.hid hi; have Hz0 := Lib.hid hz0; have Hz1 := Lib.hid hz1; have HBy : Hid (i0.bytes * 0 ≤ 281474976710656) := by unfold Hid; omega
  clear hi hz0 hz1 hz2
  go_enter Try.func51, Try.ntmps51
  go_wp2_with fail
  go_loopw [3] (fun i wr => i = .int .i64 0 ∧ Hid (Below w.heap.size w wr)) (fun _ _ => 0)
  case atStart => exact ⟨rfl, Below.refl _ _⟩
  case round =>
    obtain ⟨rfl, H0⟩ := hrel
    obtain ⟨wa, rfl⟩ : ∃ wa : World, wa = wr := ⟨_, rfl⟩
    go_wp2_with (first | (at_make; refine wpList_make_full _ rfl _ _ 75 rfl wa.heap.size 146 i0 _ 1 Try.underlying75 Hi.out Hz0.out Hz1.out _ _ _ _ 0 rfl rfl rfl rfl HBy.out (by decide) (Nat.le_refl _) ?_; intro w6 hown6 hg6; have HB6 := Lib.hid (H0.out.trans (((Below.refl wa.heap.size wa).grown hg6 (Nat.le_refl _) (by simp)).mono H0.out.size)); clear hown6 hg6))
    go_loopw [6] (fun i wr => i = .int .i64 0 ∧ Hid (Below w.heap.size w wr)) (fun _ _ => 0)
    case atStart => exact ⟨rfl, HB6⟩
    case round =>
      obtain ⟨rfl, H1⟩ := hrel
      go_wp2_with fail
      go_loopw [9] (fun i wr => i = .int .i64 0 ∧ Hid (Below w.heap.size w wr)) (fun _ _ => 0)
      case atStart => exact ⟨rfl, H1⟩
      case round =>
        obtain ⟨rfl, H2⟩ := hrel
        go_wp2_with fail
        go_loopw [11] (fun i wr => i = .int .i64 0 ∧ Hid (Below w.heap.size w wr)) (fun _ _ => 0)
        case atStart => exact ⟨rfl, H2⟩
        case round =>
          obtain ⟨rfl, H3⟩ := hrel
          go_wp2_with fail
          go_loopw [14] (fun i wr => i = .int .i64 0 ∧ Hid (Below w.heap.size w wr)) (fun _ _ => 0)
          case atStart => exact ⟨rfl, H3⟩
          case round =>
            obtain ⟨rfl, H4⟩ := hrel
            go_wp2_with fail
            go_ret
            exact ⟨rfl, H4.out⟩

theorem info47 : (Try.prog.info? 47).map (fun i => (i.zero, i.size, i.bytes)) = some (some (.slice none 0 0), 1, 24) := by kernel_rfl
set_option maxRecDepth 100000 in
theorem flat52_none (w : World) : Calls Try.prog 52 #[.slice none 0 0] w fun r w' => r = .returned (.bool true) ∧ Below w.heap.size w w' := by
  obtain ⟨i0, hi, hz0, hz1, hz2⟩ := info_parts info47
  have Hi := Lib.hid hi; have Hz0 := Lib.hid hz0; have Hz1 := Lib.hid hz1; have HBy : Hid (i0.bytes * 0 ≤ 281474976710656) := by unfold Hid; omega
  clear hi hz0 hz1 hz2
  go_enter Try.func52, Try.ntmps52
  go_wp2_with fail
  go_loopw [3] (fun i wr => i = .int .i64 0 ∧ Hid (Below w.heap.size w wr)) (fun _ _ => 0)
  case atStart => exact ⟨rfl, Below.refl _ _⟩
  case round =>
    obtain ⟨rfl, H0⟩ := hrel
    obtain ⟨wa, rfl⟩ : ∃ wa : World, wa = wr := ⟨_, rfl⟩
    go_wp2_with (first | (at_make; refine wpList_make_full _ rfl _ _ 65 rfl wa.heap.size 47 i0 _ 1 Try.underlying65 Hi.out Hz0.out Hz1.out _ _ _ _ 0 rfl rfl rfl rfl HBy.out (by decide) (Nat.le_refl _) ?_; intro w6 hown6 hg6; have HB6 := Lib.hid (H0.out.trans (((Below.refl wa.heap.size wa).grown hg6 (Nat.le_refl _) (by simp)).mono H0.out.size)); clear hown6 hg6))
    go_loopw [6] (fun i wr => i = .int .i64 0 ∧ Hid (Below w.heap.size w wr)) (fun _ _ => 0)
    case atStart => exact ⟨rfl, HB6⟩
    case round =>
      obtain ⟨rfl, H1⟩ := hrel
      go_wp2_with fail
      go_loopw [9] (fun i wr => i = .int .i64 0 ∧ Hid (Below w.heap.size w wr)) (fun _ _ => 0)
      case atStart => exact ⟨rfl, H1⟩
      case round =>
        obtain ⟨rfl, H2⟩ := hrel
        go_wp2_with fail
        go_loopw [11] (fun i wr => i = .int .i64 0 ∧ Hid (Below w.heap.size w wr)) (fun _ _ => 0)
        case atStart => exact ⟨rfl, H2⟩
        case round =>
          obtain ⟨rfl, H3⟩ := hrel
          go_wp2_with fail
          go_loopw [14] (fun i wr => i = .int .i64 0 ∧ Hid (Below w.heap.size w wr)) (fun _ _ => 0)
          case atStart => exact ⟨rfl, H3⟩
          case round =>
            obtain ⟨rfl, H4⟩ := hrel
            go_wp2_with fail
            go_ret
            exact ⟨rfl, H4.out⟩

theorem info147 : (Try.prog.info? 147).map (fun i => (i.zero, i.size, i.bytes)) = some (some (.slice none 0 0), 1, 24) := by kernel_rfl
set_option maxRecDepth 100000 in
theorem flat53_none (w : World) : Calls Try.prog 53 #[.slice none 0 0] w fun r w' => r = .returned (.bool true) ∧ Below w.heap.size w w' := by
  obtain ⟨i0, hi, hz0, hz1, hz2⟩ := info_parts info147
  have Hi := Lib.hid hi; have Hz0 := Lib.hid hz0; have Hz1 := Lib.hid hz1; have HBy : Hid (i0.bytes * 0 ≤ 281474976710656) := by unfold Hid; omega
  clear hi hz0 hz1 hz2
  go_enter Try.func53, Try.ntmps53
  go_wp2_with fail
  go_loopw [3] (fun i wr => i = .int .i64 0 ∧ Hid (Below w.heap.size w wr)) (fun _ _ => 0)
  case atStart => exact ⟨rfl, Below.refl _ _⟩
  case round =>
    obtain ⟨rfl, H0⟩ := hrel
    obtain ⟨wa, rfl⟩ : ∃ wa : World, wa = wr := ⟨_, rfl⟩
    go_wp2_with (first | (at_make; refine wpList_make_full _ rfl _ _ 76 rfl wa.heap.size 147 i0 _ 1 Try.underlying76 Hi.out Hz0.out Hz1.out _ _ _ _ 0 rfl rfl rfl rfl HBy.out (by decide) (Nat.le_refl _) ?_; intro w6 hown6 hg6; have HB6 := Lib.hid (H0.out.trans (((Below.refl wa.heap.size wa).grown hg6 (Nat.le_refl _) (by simp)).mono H0.out.size)); clear hown6 hg6))
    go_loopw [6] (fun i wr => i = .int .i64 0 ∧ Hid (Below w.heap.size w wr)) (fun _ _ => 0)
    case atStart => exact ⟨rfl, HB6⟩
    case round =>
      obtain ⟨rfl, H1⟩ := hrel
      go_wp2_with fail
      go_loopw [9] (fun i wr => i = .int .i64 0 ∧ Hid (Below w.heap.size w wr)) (fun _ _ => 0)
      case atStart => exact ⟨rfl, H1⟩
      case round =>
        obtain ⟨rfl, H2⟩ := hrel
        go_wp2_with fail
        go_loopw [11] (fun i wr => i = .int .i64 0 ∧ Hid (Below w.heap.size w wr)) (fun _ _ => 0)
        case atStart => exact ⟨rfl, H2⟩
        case round =>
          obtain ⟨rfl, H3⟩ := hrel
          go_wp2_with fail
          go_loopw [14] (fun i wr => i = .int .i64 0 ∧ Hid (Below w.heap.size w wr)) (fun _ _ => 0)
          case atStart => exact ⟨rfl, H3⟩
          case round =>
            obtain ⟨rfl, H4⟩ := hrel
            go_wp2_with fail
            go_ret
            exact ⟨rfl, H4.out⟩

theorem info148 : (Try.prog.info? 148).map (fun i => (i.zero, i.size, i.bytes)) = some (some (.slice none 0 0), 1, 24) := by kernel_rfl
set_option maxRecDepth 100000 in
theorem flat54_none (w : World) : Calls Try.prog 54 #[.slice none 0 0] w fun r w' => r = .returned (.bool true) ∧ Below w.heap.size w w' := by
  obtain ⟨i0, hi, hz0, hz1, hz2⟩ := info_parts info148
  have Hi := Lib.hid hi; have Hz0 := Lib.hid hz0; have Hz1 := Lib.hid hz1; have HBy : Hid (i0.bytes * 0 ≤ 281474976710656) := by unfold Hid; omega
  clear hi hz0 hz1 hz2
  go_enter Try.func54, Try.ntmps54
  go_wp2_with fail
  go_loopw [3] (fun i wr => i = .int .i64 0 ∧ Hid (Below w.heap.size w wr)) (fun _ _ => 0)
  case atStart => exact ⟨rfl, Below.refl _ _⟩
  case round =>
    obtain ⟨rfl, H0⟩ := hrel
    obtain ⟨wa, rfl⟩ : ∃ wa : World, wa = wr := ⟨_, rfl⟩
    go_wp2_with (first | (at_make; refine wpList_make_full _ rfl _ _ 77 rfl wa.heap.size 148 i0 _ 1 Try.underlying77 Hi.out Hz0.out Hz1.out _ _ _ _ 0 rfl rfl rfl rfl HBy.out (by decide) (Nat.le_refl _) ?_; intro w6 hown6 hg6; have HB6 := Lib.hid (H0.out.trans (((Below.refl wa.heap.size wa).grown hg6 (Nat.le_refl _) (by simp)).mono H0.out.size)); clear hown6 hg6))
    go_loopw [6] (fun i wr => i = .int .i64 0 ∧ Hid (Below w.heap.size w wr)) (fun _ _ => 0)
    case atStart => exact ⟨rfl, HB6⟩
    case round =>
      obtain ⟨rfl, H1⟩ := hrel
      go_wp2_with fail
      go_loopw [9] (fun i wr => i = .int .i64 0 ∧ Hid (Below w.heap.size w wr)) (fun _ _ => 0)
      case atStart => exact ⟨rfl, H1⟩
      case round =>
        obtain ⟨rfl, H2⟩ := hrel
        go_wp2_with fail
        go_loopw [11] (fun i wr => i = .int .i64 0 ∧ Hid (Below w.heap.size w wr)) (fun _ _ => 0)
        case atStart => exact ⟨rfl, H2⟩
        case round =>
          obtain ⟨rfl, H3⟩ := hrel
          go_wp2_with fail
          go_loopw [14] (fun i wr => i = .int .i64 0 ∧ Hid (Below w.heap.size w wr)) (fun _ _ => 0)
          case atStart => exact ⟨rfl, H3⟩
          case round =>
            obtain ⟨rfl, H4⟩ := hrel
            go_wp2_with fail
            go_ret
            exact ⟨rfl, H4.out⟩

theorem info23 : (Try.prog.info? 23).map (fun i => (i.zero, i.size, i.bytes)) = some (some (.slice none 0 0), 1, 24) := by kernel_rfl
set_option maxRecDepth 100000 in
theorem flat55_none (w : World) : Calls Try.prog 55 #[.slice none 0 0] w fun r w' => r = .returned (.bool true) ∧ Below w.heap.size w w' := by
  obtain ⟨i0, hi, hz0, hz1, hz2⟩ := info_parts info23
  have Hi := Lib.hid hi; have Hz0 := Lib.hid hz0; have Hz1 := Lib.hid hz1; have HBy : Hid (i0.bytes * 0 ≤ 281474976710656) := by unfold Hid; omega
  clear hi hz0 hz1 hz2
  go_enter Try.func55, Try.ntmps55
  go_wp2_with fail
  go_loopw [3] (fun i wr => i = .int .i64 0 ∧ Hid (Below w.heap.size w wr)) (fun _ _ => 0)
  case atStart => exact ⟨rfl, Below.refl _ _⟩
  case round =>
    obtain ⟨rfl, H0⟩ := hrel
    obtain ⟨wa, rfl⟩ : ∃ wa : World, wa = wr := ⟨_, rfl⟩
    go_wp2_with (first | (at_make; refine wpList_make_full _ rfl _ _ 78 rfl wa.heap.size 23 i0 _ 1 Try.underlying78 Hi.out Hz0.out Hz1.out _ _ _ _ 0 rfl rfl rfl rfl HBy.out (by decide) (Nat.le_refl _) ?_; intro w6 hown6 hg6; have HB6 := Lib.hid (H0.out.trans (((Below.refl wa.heap.size wa).grown hg6 (Nat.le_refl _) (by simp)).mono H0.out.size)); clear hown6 hg6))
    go_loopw [6] (fun i wr => i = .int .i64 0 ∧ Hid (Below w.heap.size w wr)) (fun _ _ => 0)
    case atStart => exact ⟨rfl, HB6⟩
    case round =>
      obtain ⟨rfl, H1⟩ := hrel
      go_wp2_with fail
      go_loopw [9] (fun i wr => i = .int .i64 0 ∧ Hid (Below w.heap.size w wr)) (fun _ _ => 0)
      case atStart => exact ⟨rfl, H1⟩
      case round =>
        obtain ⟨rfl, H2⟩ := hrel
        go_wp2_with fail
        go_loopw [11] (fun i wr => i = .int .i64 0 ∧ Hid (Below w.heap.size w wr)) (fun _ _ => 0)
        case atStart => exact ⟨rfl, H2⟩
        case round =>
          obtain ⟨rfl, H3⟩ := hrel
          go_wp2_with fail
          go_loopw [14] (fun i wr => i = .int .i64 0 ∧ Hid (Below w.heap.size w wr)) (fun _ _ => 0)
          case atStart => exact ⟨rfl, H3⟩
          case round =>
            obtain ⟨rfl, H4⟩ := hrel
            go_wp2_with fail
            go_ret
            exact ⟨rfl, H4.out⟩

theorem info150 : (Try.prog.info? 150).map (fun i => (i.zero, i.size, i.bytes)) = some (some (.slice none 0 0), 1, 24) := by kernel_rfl
set_option maxRecDepth 100000 in
theorem flat56_none (w : World) : Calls Try.prog 56 #[.slice none 0 0] w fun r w' => r = .returned (.bool true) ∧ Below w.heap.size w w' := by
  obtain ⟨i0, hi, hz0, hz1, hz2⟩ := info_parts info150
  have Hi := Lib.hid hi; have Hz0 := Lib.hid hz0; have Hz1 := Lib.hid hz1; have HBy : Hid (i0.bytes * 0 ≤ 281474976710656) := by unfold Hid; omega
  clear hi hz0 hz1 hz2
  go_enter Try.func56, Try.ntmps56
  go_wp2_with fail
  go_loopw [3] (fun i wr => i = .int .i64 0 ∧ Hid (Below w.heap.size w wr)) (fun _ _ => 0)
  case atStart => exact ⟨rfl, Below.refl _ _⟩
  case round =>
    obtain ⟨rfl, H0⟩ := hrel
    obtain ⟨wa, rfl⟩ : ∃ wa : World, wa = wr := ⟨_, rfl⟩
    go_wp2_with (first | (at_make; refine wpList_make_full _ rfl _ _ 79 rfl wa.heap.size 150 i0 _ 1 Try.underlying79 Hi.out Hz0.out Hz1.out _ _ _ _ 0 rfl rfl rfl rfl HBy.out (by decide) (Nat.le_refl _) ?_; intro w6 hown6 hg6; have HB6 := Lib.hid (H0.out.trans (((Below.refl wa.heap.size wa).grown hg6 (Nat.le_refl _) (by simp)).mono H0.out.size)); clear hown6 hg6))
    go_loopw [6] (fun i wr => i = .int .i64 0 ∧ Hid (Below w.heap.size w wr)) (fun _ _ => 0)
    case atStart => exact ⟨rfl, HB6⟩
    case round =>
      obtain ⟨rfl, H1⟩ := hrel
      go_wp2_with fail
      go_loopw [9] (fun i wr => i = .int .i64 0 ∧ Hid (Below w.heap.size w wr)) (fun _ _ => 0)
      case atStart => exact ⟨rfl, H1⟩
      case round =>
        obtain ⟨rfl, H2⟩ := hrel
        go_wp2_with fail
        go_loopw [11] (fun i wr => i = .int .i64 0 ∧ Hid (Below w.heap.size w wr)) (fun _ _ => 0)
        case atStart => exact ⟨rfl, H2⟩
        case round =>
          obtain ⟨rfl, H3⟩ := hrel
          go_wp2_with fail
          go_loopw [14] (fun i wr => i = .int .i64 0 ∧ Hid (Below w.heap.size w wr)) (fun _ _ => 0)
          case atStart => exact ⟨rfl, H3⟩
          case round =>
            obtain ⟨rfl, H4⟩ := hrel
            go_wp2_with fail
            go_ret
            exact ⟨rfl, H4.out⟩

theorem info36a : (Try.prog.info? 36).map (fun i => (i.zero, i.size, i.bytes)) = some (some (.slice none 0 0), 1, 24) := by kernel_rfl
set_option maxRecDepth 100000 in
theorem flat57_none (w : World) : Calls Try.prog 57 #[.slice none 0 0] w fun r w' => r = .returned (.bool true) ∧ Below w.heap.size w w' := by
  obtain ⟨i0, hi, hz0, hz1, hz2⟩ := info_parts info36a
  have Hi := Lib.hid hi; have Hz0 := Lib.hid hz0; have Hz1 := Lib.hid hz1; have HBy : Hid (i0.bytes * 0 ≤ 281474976710656) := by unfold Hid; omega
  clear hi hz0 hz1 hz2
  go_enter Try.func57, Try.ntmps57
  go_wp2_with fail
  go_loopw [3] (fun i wr => i = .int .i64 0 ∧ Hid (Below w.heap.size w wr)) (fun _ _ => 0)
  case atStart => exact ⟨rfl, Below.refl _ _⟩
  case round =>
    obtain ⟨rfl, H0⟩ := hrel
    obtain ⟨wa, rfl⟩ : ∃ wa : World, wa = wr := ⟨_, rfl⟩
    go_wp2_with (first | (at_make; refine wpList_make_full _ rfl _ _ 45 rfl wa.heap.size 36 i0 _ 1 Try.underlying45 Hi.out Hz0.out Hz1.out _ _ _ _ 0 rfl rfl rfl rfl HBy.out (by decide) (Nat.le_refl _) ?_; intro w6 hown6 hg6; have HB6 := Lib.hid (H0.out.trans (((Below.refl wa.heap.size wa).grown hg6 (Nat.le_refl _) (by simp)).mono H0.out.size)); clear hown6 hg6))
    go_loopw [6] (fun i wr => i = .int .i64 0 ∧ Hid (Below w.heap.size w wr)) (fun _ _ => 0)
    case atStart => exact ⟨rfl, HB6⟩
    case round =>
      obtain ⟨rfl, H1⟩ := hrel
      go_wp2_with fail
      go_loopw [9] (fun i wr => i = .int .i64 0 ∧ Hid (Below w.heap.size w wr)) (fun _ _ => 0)
      case atStart => exact ⟨rfl, H1⟩
      case round =>
        obtain ⟨rfl, H2⟩ := hrel
        go_wp2_with fail
        go_loopw [11] (fun i wr => i = .int .i64 0 ∧ Hid (Below w.heap.size w wr)) (fun _ _ => 0)
        case atStart => exact ⟨rfl, H2⟩
        case round =>
          obtain ⟨rfl, H3⟩ := hrel
          go_wp2_with fail
          go_loopw [14] (fun i wr => i = .int .i64 0 ∧ Hid (Below w.heap.size w wr)) (fun _ _ => 0)
          case atStart => exact ⟨rfl, H3⟩
          case round =>
            obtain ⟨rfl, H4⟩ := hrel
            go_wp2_with fail
            go_ret
            exact ⟨rfl, H4.out⟩

theorem info152 : (Try.prog.info? 152).map (fun i => (i.zero, i.size, i.bytes)) = some (some (.slice none 0 0), 1, 24) := by kernel_rfl
set_option maxRecDepth 100000 in
theorem flat58_none (w : World) : Calls Try.prog 58 #[.slice none 0 0] w fun r w' => r = .returned (.bool true) ∧ Below w.heap.size w w' := by
  obtain ⟨i0, hi, hz0, hz1, hz2⟩ := info_parts info152
  have Hi := Lib.hid hi; have Hz0 := Lib.hid hz0; have Hz1 := Lib.hid hz1; have HBy : Hid (i0.bytes * 0 ≤ 281474976710656) := by unfold Hid; omega
  clear hi hz0 hz1 hz2
  go_enter Try.func58, Try.ntmps58
  go_wp2_with fail
  go_loopw [3] (fun i wr => i = .int .i64 0 ∧ Hid (Below w.heap.size w wr)) (fun _ _ => 0)
  case atStart => exact ⟨rfl, Below.refl _ _⟩
  case round =>
    obtain ⟨rfl, H0⟩ := hrel
    obtain ⟨wa, rfl⟩ : ∃ wa : World, wa = wr := ⟨_, rfl⟩
    go_wp2_with (first | (at_make; refine wpList_make_full _ rfl _ _ 80 rfl wa.heap.size 152 i0 _ 1 Try.underlying80 Hi.out Hz0.out Hz1.out _ _ _ _ 0 rfl rfl rfl rfl HBy.out (by decide) (Nat.le_refl _) ?_; intro w6 hown6 hg6; have HB6 := Lib.hid (H0.out.trans (((Below.refl wa.heap.size wa).grown hg6 (Nat.le_refl _) (by simp)).mono H0.out.size)); clear hown6 hg6))
    go_loopw [6] (fun i wr => i = .int .i64 0 ∧ Hid (Below w.heap.size w wr)) (fun _ _ => 0)
    case atStart => exact ⟨rfl, HB6⟩
    case round =>
      obtain ⟨rfl, H1⟩ := hrel
      go_wp2_with fail
      go_loopw [9] (fun i wr => i = .int .i64 0 ∧ Hid (Below w.heap.size w wr)) (fun _ _ => 0)
      case atStart => exact ⟨rfl, H1⟩
      case round =>
        obtain ⟨rfl, H2⟩ := hrel
        go_wp2_with fail
        go_loopw [11] (fun i wr => i = .int .i64 0 ∧ Hid (Below w.heap.size w wr)) (fun _ _ => 0)
        case atStart => exact ⟨rfl, H2⟩
        case round =>
          obtain ⟨rfl, H3⟩ := hrel
          go_wp2_with fail
          go_loopw [14] (fun i wr => i = .int .i64 0 ∧ Hid (Below w.heap.size w wr)) (fun _ _ => 0)
          case atStart => exact ⟨rfl, H3⟩
          case round =>
            obtain ⟨rfl, H4⟩ := hrel
            go_wp2_with fail
            go_ret
            exact ⟨rfl, H4.out⟩

theorem info158 : (Try.prog.info? 158).map (fun i => (i.zero, i.size, i.bytes)) = some (some (.slice none 0 0), 1, 24) := by kernel_rfl
set_option maxRecDepth 100000 in
theorem flat59_none (w : World) : Calls Try.prog 59 #[.slice none 0 0] w fun r w' => r = .returned (.bool true) ∧ Below w.heap.size w w' := by
  obtain ⟨i0, hi, hz0, hz1, hz2⟩ := info_parts info158
  have Hi := Lib.hid hi; have Hz0 := Lib.hid hz0; have Hz1 := Lib.hid hz1; have HBy : Hid (i0.bytes * 0 ≤ 281474976710656) := by unfold Hid; omega
  clear hi hz0 hz1 hz2
  go_enter Try.func59, Try.ntmps59
  go_wp2_with fail
  go_loopw [3] (fun i wr => i = .int .i64 0 ∧ Hid (Below w.heap.size w wr)) (fun _ _ => 0)
  case atStart => exact ⟨rfl, Below.refl _ _⟩
  case round =>
    obtain ⟨rfl, H0⟩ := hrel
    obtain ⟨wa, rfl⟩ : ∃ wa : World, wa = wr := ⟨_, rfl⟩
    go_wp2_with (first | (at_make; refine wpList_make_full _ rfl _ _ 81 rfl wa.heap.size 158 i0 _ 1 Try.underlying81 Hi.out Hz0.out Hz1.out _ _ _ _ 0 rfl rfl rfl rfl HBy.out (by decide) (Nat.le_refl _) ?_; intro w6 hown6 hg6; have HB6 := Lib.hid (H0.out.trans (((Below.refl wa.heap.size wa).grown hg6 (Nat.le_refl _) (by simp)).mono H0.out.size)); clear hown6 hg6))
    go_loopw [6] (fun i wr => i = .int .i64 0 ∧ Hid (Below w.heap.size w wr)) (fun _ _ => 0)
    case atStart => exact ⟨rfl, HB6⟩
    case round =>
      obtain ⟨rfl, H1⟩ := hrel
      go_wp2_with fail
      go_loopw [9] (fun i wr => i = .int .i64 0 ∧ Hid (Below w.heap.size w wr)) (fun _ _ => 0)
      case atStart => exact ⟨rfl, H1⟩
      case round =>
        obtain ⟨rfl, H2⟩ := hrel
        go_wp2_with fail
        go_loopw [11] (fun i wr => i = .int .i64 0 ∧ Hid (Below w.heap.size w wr)) (fun _ _ => 0)
        case atStart => exact ⟨rfl, H2⟩
        case round =>
          obtain ⟨rfl, H3⟩ := hrel
          go_wp2_with fail
          go_loopw [14] (fun i wr => i = .int .i64 0 ∧ Hid (Below w.heap.size w wr)) (fun _ _ => 0)
          case atStart => exact ⟨rfl, H3⟩
          case round =>
            obtain ⟨rfl, H4⟩ := hrel
            go_wp2_with fail
            go_ret
            exact ⟨rfl, H4.out⟩

theorem info162 : (Try.prog.info? 162).map (fun i => (i.zero, i.size, i.bytes)) = some (some (.slice none 0 0), 1, 24) := by kernel_rfl
set_option maxRecDepth 100000 in
theorem flat60_none (w : World) : Calls Try.prog 60 #[.slice none 0 0] w fun r w' => r = .returned (.bool true) ∧ Below w.heap.size w w' := by
  obtain ⟨i0, hi, hz0, hz1, hz2⟩ := info_parts info162
  have Hi := Lib.hid hi; have Hz0 := Lib.hid hz0; have Hz1 := Lib.hid hz1; have HBy : Hid (i0.bytes * 0 ≤ 281474976710656) := by unfold Hid; omega
  clear hi hz0 hz1 hz2
  go_enter Try.func60, Try.ntmps60
  go_wp2_with fail
  go_loopw [3] (fun i wr => i = .int .i64 0 ∧ Hid (Below w.heap.size w wr)) (fun _ _ => 0)
  case atStart => exact ⟨rfl, Below.refl _ _⟩
  case round =>
    obtain ⟨rfl, H0⟩ := hrel
    obtain ⟨wa, rfl⟩ : ∃ wa : World, wa = wr := ⟨_, rfl⟩
    go_wp2_with (first | (at_make; refine wpList_make_full _ rfl _ _ 82 rfl wa.heap.size 162 i0 _ 1 Try.underlying82 Hi.out Hz0.out Hz1.out _ _ _ _ 0 rfl rfl rfl rfl HBy.out (by decide) (Nat.le_refl _) ?_; intro w6 hown6 hg6; have HB6 := Lib.hid (H0.out.trans (((Below.refl wa.heap.size wa).grown hg6 (Nat.le_refl _) (by simp)).mono H0.out.size)); clear hown6 hg6))
    go_loopw [6] (fun i wr => i = .int .i64 0 ∧ Hid (Below w.heap.size w wr)) (fun _ _ => 0)
    case atStart => exact ⟨rfl, HB6⟩
    case round =>
      obtain ⟨rfl, H1⟩ := hrel
      go_wp2_with fail
      go_loopw [9] (fun i wr => i = .int .i64 0 ∧ Hid (Below w.heap.size w wr)) (fun _ _ => 0)
      case atStart => exact ⟨rfl, H1⟩
      case round =>
        obtain ⟨rfl, H2⟩ := hrel
        go_wp2_with fail
        go_loopw [11] (fun i wr => i = .int .i64 0 ∧ Hid (Below w.heap.size w wr)) (fun _ _ => 0)
        case atStart => exact ⟨rfl, H2⟩
        case round =>
          obtain ⟨rfl, H3⟩ := hrel
          go_wp2_with fail
          go_loopw [14] (fun i wr => i = .int .i64 0 ∧ Hid (Below w.heap.size w wr)) (fun _ _ => 0)
          case atStart => exact ⟨rfl, H3⟩
          case round =>
            obtain ⟨rfl, H4⟩ := hrel
            go_wp2_with fail
            go_ret
            exact ⟨rfl, H4.out⟩

theorem info164 : (Try.prog.info? 164).map (fun i => (i.zero, i.size, i.bytes)) = some (some (.slice none 0 0), 1, 24) := by kernel_rfl
set_option maxRecDepth 100000 in
theorem flat61_none (w : World) : Calls Try.prog 61 #[.slice none 0 0] w fun r w' => r = .returned (.bool true) ∧ Below w.heap.size w w' := by
  obtain ⟨i0, hi, hz0, hz1, hz2⟩ := info_parts info164
  have Hi := Lib.hid hi; have Hz0 := Lib.hid hz0; have Hz1 := Lib.hid hz1; have HBy : Hid (i0.bytes * 0 ≤ 281474976710656) := by unfold Hid; omega
  clear hi hz0 hz1 hz2
  go_enter Try.func61, Try.ntmps61
  go_wp2_with fail
  go_loopw [3] (fun i wr => i = .int .i64 0 ∧ Hid (Below w.heap.size w wr)) (fun _ _ => 0)
  case atStart => exact ⟨rfl, Below.refl _ _⟩
  case round =>
    obtain ⟨rfl, H0⟩ := hrel
    obtain ⟨wa, rfl⟩ : ∃ wa : World, wa = wr := ⟨_, rfl⟩
    go_wp2_with (first | (at_make; refine wpList_make_full _ rfl _ _ 83 rfl wa.heap.size 164 i0 _ 1 Try.underlying83 Hi.out Hz0.out Hz1.out _ _ _ _ 0 rfl rfl rfl rfl HBy.out (by decide) (Nat.le_refl _) ?_; intro w6 hown6 hg6; have HB6 := Lib.hid (H0.out.trans (((Below.refl wa.heap.size wa).grown hg6 (Nat.le_refl _) (by simp)).mono H0.out.size)); clear hown6 hg6))
    go_loopw [6] (fun i wr => i = .int .i64 0 ∧ Hid (Below w.heap.size w wr)) (fun _ _ => 0)
    case atStart => exact ⟨rfl, HB6⟩
    case round =>
      obtain ⟨rfl, H1⟩ := hrel
      go_wp2_with fail
      go_loopw [9] (fun i wr => i = .int .i64 0 ∧ Hid (Below w.heap.size w wr)) (fun _ _ => 0)
      case atStart => exact ⟨rfl, H1⟩
      case round =>
        obtain ⟨rfl, H2⟩ := hrel
        go_wp2_with fail
        go_loopw [11] (fun i wr => i = .int .i64 0 ∧ Hid (Below w.heap.size w wr)) (fun _ _ => 0)
        case atStart => exact ⟨rfl, H2⟩
        case round =>
          obtain ⟨rfl, H3⟩ := hrel
          go_wp2_with fail
          go_loopw [14] (fun i wr => i = .int .i64 0 ∧ Hid (Below w.heap.size w wr)) (fun _ _ => 0)
          case atStart => exact ⟨rfl, H3⟩
          case round =>
            obtain ⟨rfl, H4⟩ := hrel
            go_wp2_with fail
            go_ret
            exact ⟨rfl, H4.out⟩

theorem info169 : (Try.prog.info? 169).map (fun i => (i.zero, i.size, i.bytes)) = some (some (.slice none 0 0), 1, 24) := by kernel_rfl
set_option maxRecDepth 100000 in
theorem flat62_none (w : World) : Calls Try.prog 62 #[.slice none 0 0] w fun r w' => r = .returned (.bool true) ∧ Below w.heap.size w w' := by
  obtain ⟨i0, hi, hz0, hz1, hz2⟩ := info_parts info169
  have Hi := Lib.hid hi; have Hz0 := Lib.hid hz0; have Hz1 := Lib.hid hz1; have HBy : Hid (i0.bytes * 0 ≤ 281474976710656) := by unfold Hid; omega
  clear hi hz0 hz1 hz2
  go_enter Try.func62, Try.ntmps62
  go_wp2_with fail
  go_loopw [3] (fun i wr => i = .int .i64 0 ∧ Hid (Below w.heap.size w wr)) (fun _ _ => 0)
  case atStart => exact ⟨rfl, Below.refl _ _⟩
  case round =>
    obtain ⟨rfl, H0⟩ := hrel
    obtain ⟨wa, rfl⟩ : ∃ wa : World, wa = wr := ⟨_, rfl⟩
    go_wp2_with (first | (at_make; refine wpList_make_full _ rfl _ _ 84 rfl wa.heap.size 169 i0 _ 1 Try.underlying84 Hi.out Hz0.out Hz1.out _ _ _ _ 0 rfl rfl rfl rfl HBy.out (by decide) (Nat.le_refl _) ?_; intro w6 hown6 hg6; have HB6 := Lib.hid (H0.out.trans (((Below.refl wa.heap.size wa).grown hg6 (Nat.le_refl _) (by simp)).mono H0.out.size)); clear hown6 hg6))
    go_loopw [6] (fun i wr => i = .int .i64 0 ∧ Hid (Below w.heap.size w wr)) (fun _ _ => 0)
    case atStart => exact ⟨rfl, HB6⟩
    case round =>
      obtain ⟨rfl, H1⟩ := hrel
      go_wp2_with fail
      go_loopw [9] (fun i wr => i = .int .i64 0 ∧ Hid (Below w.heap.size w wr)) (fun _ _ => 0)
      case atStart => exact ⟨rfl, H1⟩
      case round =>
        obtain ⟨rfl, H2⟩ := hrel
        go_wp2_with fail
        go_loopw [11] (fun i wr => i = .int .i64 0 ∧ Hid (Below w.heap.size w wr)) (fun _ _ => 0)
        case atStart => exact ⟨rfl, H2⟩
        case round =>
          obtain ⟨rfl, H3⟩ := hrel
          go_wp2_with fail
          go_loopw [14] (fun i wr => i = .int .i64 0 ∧ Hid (Below w.heap.size w wr)) (fun _ _ => 0)
          case atStart => exact ⟨rfl, H3⟩
          case round =>
            obtain ⟨rfl, H4⟩ := hrel
            go_wp2_with fail
            go_ret
            exact ⟨rfl, H4.out⟩

theorem info174 : (Try.prog.info? 174).map (fun i => (i.zero, i.size, i.bytes)) = some (some (.slice none 0 0), 1, 24) := by kernel_rfl
set_option maxRecDepth 100000 in
theorem flat63_none (w : World) : Calls Try.prog 63 #[.slice none 0 0] w fun r w' => r = .returned (.bool true) ∧ Below w.heap.size w w' := by
  obtain ⟨i0, hi, hz0, hz1, hz2⟩ := info_parts info174
  have Hi := Lib.hid hi; have Hz0 := Lib.hid hz0; have Hz1 := Lib.hid hz1; have HBy : Hid (i0.bytes * 0 ≤ 281474976710656) := by unfold Hid; omega
  clear hi hz0 hz1 hz2
  go_enter Try.func63, Try.ntmps63
  go_wp2_with fail
  go_loopw [3] (fun i wr => i = .int .i64 0 ∧ Hid (Below w.heap.size w wr)) (fun _ _ => 0)
  case atStart => exact ⟨rfl, Below.refl _ _⟩
  case round =>
    obtain ⟨rfl, H0⟩ := hrel
    obtain ⟨wa, rfl⟩ : ∃ wa : World, wa = wr := ⟨_, rfl⟩
    go_wp2_with (first | (at_make; refine wpList_make_full _ rfl _ _ 85 rfl wa.heap.size 174 i0 _ 1 Try.underlying85 Hi.out Hz0.out Hz1.out _ _ _ _ 0 rfl rfl rfl rfl HBy.out (by decide) (Nat.le_refl _) ?_; intro w6 hown6 hg6; have HB6 := Lib.hid (H0.out.trans (((Below.refl wa.heap.size wa).grown hg6 (Nat.le_refl _) (by simp)).mono H0.out.size)); clear hown6 hg6))
    go_loopw [6] (fun i wr => i = .int .i64 0 ∧ Hid (Below w.heap.size w wr)) (fun _ _ => 0)
    case atStart => exact ⟨rfl, HB6⟩
    case round =>
      obtain ⟨rfl, H1⟩ := hrel
      go_wp2_with fail
      go_loopw [9] (fun i wr => i = .int .i64 0 ∧ Hid (Below w.heap.size w wr)) (fun _ _ => 0)
      case atStart => exact ⟨rfl, H1⟩
      case round =>
        obtain ⟨rfl, H2⟩ := hrel
        go_wp2_with fail
        go_loopw [11] (fun i wr => i = .int .i64 0 ∧ Hid (Below w.heap.size w wr)) (fun _ _ => 0)
        case atStart => exact ⟨rfl, H2⟩
        case round =>
          obtain ⟨rfl, H3⟩ := hrel
          go_wp2_with fail
          go_loopw [14] (fun i wr => i = .int .i64 0 ∧ Hid (Below w.heap.size w wr)) (fun _ _ => 0)
          case atStart => exact ⟨rfl, H3⟩
          case round =>
            obtain ⟨rfl, H4⟩ := hrel
            go_wp2_with fail
            go_ret
            exact ⟨rfl, H4.out⟩

end Go.Proofs.Ytmpccinbeepbgaa
