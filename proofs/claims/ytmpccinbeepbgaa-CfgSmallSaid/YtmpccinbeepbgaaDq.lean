/- Walk: CfgSmall. -/
import Derived.Test.YtmpccinbeepbgaaDp
namespace Go.Proofs.Ytmpccinbeepbgaa
open Go.RowKit

theorem tab_lit (w0 w : World) (a b : Int) (x y : Bool) (ha : 0 ≤ a ∧ a < 256) (hb : 0 ≤ b ∧ b < 256) (hB : Below w0.heap.size w0 w) :
    ∃ g l, Value.slice (some ⟨w.heap.size, 0, none⟩) 2 2 = .slice (some ⟨g, 0, none⟩) 2 2 ∧ Hid (Byt l ∧ Sv (w.alloc (.cells #[.int .u8 a, .bool x, .int .u8 b, .bool y] 43)) (some ⟨g, 0, none⟩) 2 2 2 (opc l) ∧ Below w0.heap.size w0 (w.alloc (.cells #[.int .u8 a, .bool x, .int .u8 b, .bool y] 43))) := by
  refine ⟨_, [(a, x), (b, y)], rfl, ?_, Sv.lit w 43 #[.int .u8 a, .bool x, .int .u8 b, .bool y] 2 2 (by decide) rfl, hB.alloc hB.size _⟩
  intro o ho
  simp only [List.mem_cons, List.not_mem_nil, or_false] at ho
  rcases ho with rfl | rfl
  · exact ha
  · exact hb

/-- The example's operators: one new block. -/
theorem ex2_any (w : World) : Calls Try.prog 21 #[] w fun e w' => e = .returned (.slice (some ⟨w.heap.size, 0, none⟩) 2 2) ∧ w' = w.alloc (.cells #[.int .u8 43, .bool false, .int .u8 94, .bool true] 43) := by
  go_enter Try.func21, Try.ntmps21
  go_wp2_with fail
  go_ret
  exact ⟨rfl, rfl⟩
theorem al1 {B : Nat} {a w : World} (h : Below a.heap.size a w) (hB : B = a.heap.size) (o : Obj) : Below B a (w.alloc o) := by subst hB; exact h.alloc h.size o
theorem al2 {a w : World} (h : Below a.heap.size a w) (o o' : Obj) : Below a.heap.size a ((w.alloc o).alloc o') := al1 (al1 h rfl o) rfl o'
theorem svA (b : World) : Sv ((b.alloc (.cells #[.int .u8 43, .bool false, .int .u8 94, .bool true] 43)).alloc (.cells #[.int .u8 49, .int .u8 43, .int .u8 50] 5 (3, 4))) (some ⟨b.heap.size, 0, none⟩) 2 2 2 (opc exL) ∧ Sv ((b.alloc (.cells #[.int .u8 43, .bool false, .int .u8 94, .bool true] 43)).alloc (.cells #[.int .u8 49, .int .u8 43, .int .u8 50] 5 (3, 4))) (some ⟨b.heap.size + 1, 0, none⟩) 3 3 1 (byc [49, 43, 50]) := by
  refine ⟨(Sv.lit b 43 #[.int .u8 43, .bool false, .int .u8 94, .bool true] 2 2 (by decide) rfl).below ((Below.refl _ _).alloc (Nat.le_refl _) _), ?_⟩
  have := Sv.const (b.alloc (.cells #[.int .u8 43, .bool false, .int .u8 94, .bool true] 43)) 5 #[.int .u8 49, .int .u8 43, .int .u8 50] (3, 4) 3 (by decide) rfl
  rw [World.size_alloc] at this
  exact this
theorem svB (b : World) : Sv ((b.alloc (.cells #[.int .u8 49, .int .u8 43, .int .u8 50] 5 (3, 4))).alloc (.cells #[.int .u8 43, .bool false, .int .u8 94, .bool true] 43)) (some ⟨b.heap.size + 1, 0, none⟩) 2 2 2 (opc exL) ∧ Sv ((b.alloc (.cells #[.int .u8 49, .int .u8 43, .int .u8 50] 5 (3, 4))).alloc (.cells #[.int .u8 43, .bool false, .int .u8 94, .bool true] 43)) (some ⟨b.heap.size, 0, none⟩) 3 3 1 (byc [49, 43, 50]) := by
  refine ⟨?_, (Sv.const b 5 #[.int .u8 49, .int .u8 43, .int .u8 50] (3, 4) 3 (by decide) rfl).below ((Below.refl _ _).alloc (Nat.le_refl _) _)⟩
  have := Sv.lit (b.alloc (.cells #[.int .u8 49, .int .u8 43, .int .u8 50] 5 (3, 4))) 43 #[.int .u8 43, .bool false, .int .u8 94, .bool true] 2 2 (by decide) rfl
  rw [World.size_alloc] at this
  exact this
/-- A constant's bytes are marked where they lie. -/
theorem run_convert_at {P : Program} (w : World) (g : Nat) (t e : TypeId) (C : Array Value) (n c : Nat) (ht : P.underlying t = some (.slice e)) (he : P.underlying e = some (.int .u8)) (hg : w.heap[g]? = some (.cells C e)) :
    (convert t t (.slice (some ⟨g, 0, none⟩) n c)).run P w = .ok (.slice (some ⟨g, 0, none⟩) n c) (w.freeze ⟨g, C.size, none⟩ 1) := by
  have hsh : w.shape? g = some (e, C.size) := by
    unfold World.shape?
    rw [hg]
  simp [convert, run_underlying ht, run_underlying he, markStringish, hsh]
theorem modify_push {β : Type} (a : Array β) (x : β) (f : β → β) : (a.push x).modify a.size f = a.push (f x) := by
  apply Array.ext
  · simp
  · intro i h1 h2
    simp only [Array.getElem_modify, Array.getElem_push]
    by_cases h : a.size = i
    · subst h
      simp
    · have hi : i < a.size := by simp at h1; omega
      simp [h, hi]
theorem modify_push2 {β : Type} (a : Array β) (x y : β) (f : β → β) : ((a.push x).push y).modify a.size f = (a.push (f x)).push y := by
  apply Array.ext
  · simp
  · intro i h1 h2
    simp only [Array.getElem_modify, Array.getElem_push, Array.size_push]
    by_cases h : a.size = i
    · subst h
      simp
    · by_cases h3 : i < a.size
      · have h4 : i < a.size + 1 := by omega
        simp [h, h3, h4]
      · have h4 : ¬ i < a.size + 1 := by omega
        simp [h, h4]
theorem freeze_new (w : World) (C : Array Value) (e : TypeId) (k : Nat) : (w.alloc (.cells C e)).freeze ⟨w.heap.size, k, none⟩ 1 = w.alloc (.cells C e (k, k + 1)) := by
  unfold World.freeze
  rw [if_neg (by decide)]
  show ({ w.alloc (.cells C e) with heap := (w.heap.push (.cells C e)).modify w.heap.size _ } : World) = _
  rw [modify_push]
  rfl
theorem freeze_old (w : World) (C : Array Value) (e : TypeId) (k : Nat) (o : Obj) : ((w.alloc (.cells C e)).alloc o).freeze ⟨w.heap.size, k, none⟩ 1 = (w.alloc (.cells C e (k, k + 1))).alloc o := by
  unfold World.freeze
  rw [if_neg (by decide)]
  show ({ (w.alloc (.cells C e)).alloc o with heap := ((w.heap.push (.cells C e)).push o).modify w.heap.size _ } : World) = _
  rw [modify_push2]
  rfl
theorem freeze_drew (w : World) (p : Addr) (n : Nat) : w.drew.freeze p n = (w.freeze p n).drew := by
  unfold World.freeze
  split <;> rfl
section
variable {P : Program} (w : World) (t e : TypeId) (C : Array Value) (n c : Nat) (o : Obj) (ht : P.underlying t = some (.slice e)) (he : P.underlying e = some (.int .u8))
include ht he
theorem cv0 : (convert t t (.slice (some ⟨w.heap.size, 0, none⟩) n c)).run P (w.alloc (.cells C e)) = .ok (.slice (some ⟨w.heap.size, 0, none⟩) n c) (w.alloc (.cells C e (C.size, C.size + 1))) := by
  rw [run_convert_at _ _ t e C n c ht he (heap_alloc_new _ _), freeze_new]
theorem cv1 : (convert t t (.slice (some ⟨w.heap.size + 1, 0, none⟩) n c)).run P ((w.alloc o).alloc (.cells C e)) = .ok (.slice (some ⟨w.heap.size + 1, 0, none⟩) n c) ((w.alloc o).alloc (.cells C e (C.size, C.size + 1))) := by
  have := cv0 (w.alloc o) t e C n c ht he
  rw [World.size_alloc] at this
  exact this
theorem cv2 : (convert t t (.slice (some ⟨w.heap.size, 0, none⟩) n c)).run P ((w.alloc (.cells C e)).alloc o) = .ok (.slice (some ⟨w.heap.size, 0, none⟩) n c) ((w.alloc (.cells C e (C.size, C.size + 1))).alloc o) := by
  rw [run_convert_at _ _ t e C n c ht he (((Below.refl _ _).alloc (Nat.le_refl _) o).block _ (by rw [World.size_alloc]; omega) |>.trans (heap_alloc_new _ _)), freeze_old]
theorem cv0d : (convert t t (.slice (some ⟨w.heap.size, 0, none⟩) n c)).run P (w.alloc (.cells C e)).drew = .ok (.slice (some ⟨w.heap.size, 0, none⟩) n c) (w.alloc (.cells C e (C.size, C.size + 1))).drew := by
  rw [run_convert_at _ _ t e C n c ht he (show (w.alloc (.cells C e)).drew.heap[w.heap.size]? = _ from heap_alloc_new _ _), freeze_drew, freeze_new]
theorem cv1d : (convert t t (.slice (some ⟨w.heap.size + 1, 0, none⟩) n c)).run P ((w.alloc o).alloc (.cells C e)).drew = .ok (.slice (some ⟨w.heap.size + 1, 0, none⟩) n c) ((w.alloc o).alloc (.cells C e (C.size, C.size + 1))).drew := by
  have := cv0d (w.alloc o) t e C n c ht he
  rw [World.size_alloc] at this
  exact this
theorem cv2d : (convert t t (.slice (some ⟨w.heap.size, 0, none⟩) n c)).run P ((w.alloc (.cells C e)).alloc o).drew = .ok (.slice (some ⟨w.heap.size, 0, none⟩) n c) ((w.alloc (.cells C e (C.size, C.size + 1))).alloc o).drew := by
  rw [run_convert_at _ _ t e C n c ht he (show ((w.alloc (.cells C e)).alloc o).drew.heap[w.heap.size]? = _ from (((Below.refl _ _).alloc (Nat.le_refl _) o).block _ (by rw [World.size_alloc]; omega) |>.trans (heap_alloc_new _ _))), freeze_drew, freeze_old]
end
theorem svC (w : World) : Sv ((w.alloc (.cells #[.int .u8 49, .bool false] 43)).alloc (.cells #[.int .u8 49] 5 (1, 2))) (some ⟨w.heap.size, 0, none⟩) 1 1 2 (opc [(49, false)]) ∧ Sv ((w.alloc (.cells #[.int .u8 49, .bool false] 43)).alloc (.cells #[.int .u8 49] 5 (1, 2))) (some ⟨w.heap.size + 1, 0, none⟩) 1 1 1 (byc [49]) := by
  refine ⟨(Sv.lit w 43 #[.int .u8 49, .bool false] 1 2 (by decide) rfl).below ((Below.refl _ _).alloc (Nat.le_refl _) _), ?_⟩
  have := Sv.const (w.alloc (.cells #[.int .u8 49, .bool false] 43)) 5 #[.int .u8 49] (1, 2) 1 (by decide) rfl
  rw [World.size_alloc] at this
  exact this
theorem Sv.drew {w : World} {ao : Option Addr} {n cap s : Nat} {xs : List Value} (h : Sv w ao n cap s xs) : Sv w.drew ao n cap s xs := h.below (Below.refl _ _).drew

set_option linter.unusedSimpArgs false in
set_option maxRecDepth 100000 in
set_option maxHeartbeats 4000000 in
theorem small_any (w : World) : Calls Try.prog 4 #[] w (Yes w) := by
  obtain ⟨N, hN⟩ : ∃ N : Nat, N = 3125 := ⟨_, rfl⟩
  have HN := Lib.hid hN
  clear hN
  go_enter Try.func4, Try.ntmps4
  go_wp2_with fail
  go_loopw [1] (fun i wr => ∃ k : Nat, k ≤ N ∧ i = .int .i64 k ∧ Hid (Below w.heap.size w wr)) (fun i _ => N - (intOf i).toNat)
  case atStart => exact ⟨0, by omega, rfl, Below.refl _ _⟩
  case round =>
    obtain ⟨k, hk, rfl, hB⟩ := hrel
    obtain ⟨wo, rfl⟩ : ∃ wo : World, wo = wr := ⟨_, rfl⟩
    have hkI : (k : Int) ≤ 3125 := by have := HN.out; omega
    have hk0 : (0 : Int) ≤ k := by omega
    by_cases hlt : (k : Int) < 3125
    · have HK := Lib.hid hk
      clear hk
      go_wp2_with fail
      have hkN : k < N := by have := HN.out; omega
      have HKN := Lib.hid hkN
      clear hlt hkI hk0 hkN
      go_loopw [2, 3, 4] (fun v m i wr => ∃ (j : Nat) (x : Int) (B : List Int), j ≤ 5 ∧ (0 ≤ x ∧ x ≤ N) ∧ m = .int .i64 x ∧ i = .int .i64 j ∧ Hid (Own wo wr 5 1 v j (byc B))) (fun _ _ i _ => 5 - (intOf i).toNat)
      case atStart => exact ⟨0, k, [], by omega, by have := HK.out; omega, rfl, rfl, Own.nil _ _ _⟩
      case round =>
        obtain ⟨j, x, B, hj, hx, rfl, rfl, hI⟩ := hrel
        have hxI : x ≤ 3125 := by have := HN.out; omega
        have hx0 : 0 ≤ x := hx.1
        have HX := Lib.hid hx
        clear hx
        by_cases hj5 : j < 5
        · go_wp2_with (first
            | (at_builtin; go_loud (refine wpList_app1 wo wr rfl (.tmp 18) (.tmp 22) 23 5 rfl elemBy u2 j _ rfl hI.out #[.int .u8 _] rfl rfl (by simp [Value.oneCell']) (by omega) (by unfold maxLen; omega) ?_; intro v' w1 hO1; have HO3 : ∃ c, Hid (Own wo w1 5 1 v' (j + 1) (byc B ++ [.int .u8 c])) := ⟨_, hO1⟩; obtain ⟨c, HO3⟩ := HO3; clear hO1)))
          go_roundw
          case rel => exact ⟨j + 1, x / 5, B ++ [c], by omega, by have := HX.out; omega, rfl, by go_num, by rw [byc_append]; exact HO3.out⟩
          case measure => simp [intOf]; omega
        · obtain rfl : j = 5 := by omega
          obtain ⟨g, cap, rfl, _, _⟩ := World.ownsRow.form hI.out.1 (by omega)
          have HBA := Lib.hid hI.out.2
          have HSl : Hid (Sv wr (some ⟨g, 0, none⟩) 5 cap 1 (byc B)) := by obtain ⟨_, _, e, h⟩ := hI.out.sv; cases e; exact h
          clear hI
          have hkJ : (k : Int) ≤ 100000 := by have := HKN.out; have := HN.out; omega
          have hkJ0 : (0 : Int) ≤ k := by omega
          go_upto_region 11 with (fail)
          go_cut [5] (fun v wx => ∃ g l, v = .slice (some ⟨g, 0, none⟩) 2 2 ∧ Hid (Byt l ∧ Sv wx (some ⟨g, 0, none⟩) 2 2 2 (opc l) ∧ Below wr.heap.size wr wx))
          case first =>
            have h1 : (k : Int) % 2 = 0 ∨ (k : Int) % 2 = 1 := by omega
            have h2 : (k : Int) / 2 % 2 = 0 ∨ (k : Int) / 2 % 2 = 1 := by omega
            have h3 : (k : Int) / 4 % 2 = 0 ∨ (k : Int) / 4 % 2 = 1 := by omega
            have e1 : (k : Int).tmod 2 = k % 2 := Int.tmod_eq_emod_of_nonneg (by omega)
            have e2 : (k : Int).tdiv 2 = k / 2 := Int.tdiv_eq_ediv_of_nonneg (by omega)
            have e3 : (k : Int).tdiv 4 = k / 4 := Int.tdiv_eq_ediv_of_nonneg (by omega)
            have e4 : ((k : Int) / 2).tmod 2 = k / 2 % 2 := Int.tmod_eq_emod_of_nonneg (by omega)
            have e5 : ((k : Int) / 4).tmod 2 = k / 4 % 2 := Int.tmod_eq_emod_of_nonneg (by omega)
            rcases h1 with h1 | h1 <;> rcases h2 with h2 | h2 <;> rcases h3 with h3 | h3
            all_goals
              go_region
              go_wp2_with fail
              go_meet
              exact tab_lit wr _ _ _ _ _ (by decide) (by decide) (Below.refl _ _).drew
          case rest =>
            obtain ⟨g2, l, rfl, hc⟩ := hcut
            have HC := Lib.hid hc; clear hc
            have HSx := Lib.hid (HSl.out.below HC.out.2.2)
            have HBx := Lib.hid (HBA.out.trans (HC.out.2.2.mono HBA.out.size))
            clear HBA HSl
            by_cases h5 : (k : Int) % 5 = 0
            · have h5' : ((k : Int) % 5 == 0) = true := by rw [h5]; rfl
              clear h5
              go_wp2_with fail
              refine (tells_any _ _ _ _ _ _ _ l B HC.out.1 HC.out.2.1 HSx.out _ _ _).mono ?_
              rintro e w3 ⟨rfl, hb3⟩
              have HS3 := Lib.hid (HSx.out.below hb3); have HT3 := Lib.hid (HC.out.2.1.below hb3); have HB3 := Lib.hid (HBx.out.trans (hb3.mono HBx.out.size)); clear hb3
              go_wp2_with fail
              refine (tells_any _ _ _ _ _ _ _ l B HC.out.1 HT3.out HS3.out _ _ _).mono ?_
              rintro e w4 ⟨rfl, hb4⟩
              have HB4 := Lib.hid (HB3.out.trans (hb4.mono HB3.out.size)); clear hb4
              go_wp2_with fail
              go_roundw
              case rel => exact ⟨k + 1, HKN.out, by go_num, hB.out.trans (HB4.out.mono hB.out.size)⟩
              case measure => have := HKN.out; simp [intOf]; omega
            · have h5' : ((k : Int) % 5 == 0) = false := by simpa using h5
              clear h5
              go_wp2_with fail
              refine (tells_any _ _ _ _ _ _ _ l B HC.out.1 HC.out.2.1 HSx.out _ _ _).mono ?_
              rintro e w3 ⟨rfl, hb3⟩
              have HB3 := Lib.hid (HBx.out.trans (hb3.mono HBx.out.size)); clear hb3
              go_wp2_with fail
              go_roundw
              case rel => exact ⟨k + 1, HKN.out, by go_num, hB.out.trans (HB3.out.mono hB.out.size)⟩
              case measure => have := HKN.out; simp [intOf]; omega
    · have hd : decide ((k : Int) < 3125) = false := decide_eq_false hlt
      clear hlt hkI hk0 hk HN
      go_upto_region 15 with (fail)
      obtain ⟨E, hE⟩ : ∃ E : Array Value, E = #[.int .i64 (-9223372036854775808), .int .i64 (-1), .int .i64 0, .int .i64 1, .int .i64 3, .int .i64 4, .int .i64 9223372036854775807] := ⟨_, rfl⟩
      have hEc : ∀ j, j < 7 → ∃ x, E[j]? = some (.int .i64 x) := by
        intro j hj
        rw [hE]
        have : j = 0 ∨ j = 1 ∨ j = 2 ∨ j = 3 ∨ j = 4 ∨ j = 5 ∨ j = 6 := by omega
        rcases this with rfl | rfl | rfl | rfl | rfl | rfl | rfl <;> exact ⟨_, rfl⟩
      rw [← hE]
      have hrE : hrow (wo.alloc (.cells E 3)) wo.heap.size E 3 := heap_alloc_new _ _
      have HEc := Lib.hid hEc; have HrE := Lib.hid hrE
      have HBE := Lib.hid (hB.out.alloc hB.out.size (.cells E 3))
      clear hE hEc hrE hd
      revert HrE HBE
      generalize wo.heap.size = ge
      generalize wo.alloc (.cells E 3) = we
      intro HrE HBE
      go_wp2_with fail
      go_loopw [7] (fun i wr => ∃ j : Nat, j ≤ 7 ∧ i = .int .i64 j ∧ Hid (Below w.heap.size w wr ∧ hrow wr ge E 3)) (fun i _ => 7 - (intOf i).toNat)
      case atStart => exact ⟨0, by omega, rfl, HBE.out, HrE.out⟩
      case round =>
        obtain ⟨i, hi, rfl, hI⟩ := hrel
        obtain ⟨wo, rfl⟩ : ∃ wo : World, wo = wr := ⟨_, rfl⟩
        by_cases hi7 : i < 7
        · have hi7' : (i : Int) < 7 := by omega
          go_wp2_with fail
          go_loopw [8] (fun i wr => ∃ j : Nat, j ≤ 7 ∧ i = .int .i64 j ∧ Hid (Below w.heap.size w wr ∧ hrow wr ge E 3)) (fun i _ => 7 - (intOf i).toNat)
          case atStart => exact ⟨0, by omega, rfl, hI.out⟩
          case round =>
            obtain ⟨j, hj, rfl, hJ⟩ := hrel
            by_cases hj7 : j < 7
            · obtain ⟨x, hx⟩ := HEc.out i hi7
              obtain ⟨y, hy⟩ := HEc.out j hj7
              have HX : Hid (∀ w', Below wr.heap.size wr w' → w'.cell? ⟨ge, i, none⟩ = some (.int .i64 x) ∧ w'.cell? ⟨ge, j, none⟩ = some (.int .i64 y)) := fun w' hb' => ⟨((hJ.out.2.below hb').cell i).trans hx, ((hJ.out.2.below hb').cell j).trans hy⟩
              clear hx hy
              have HJ1 := Lib.hid hJ.out.1
              have HJ2 := Lib.hid hJ.out.2
              have HD0 := Lib.hid ((Below.refl wr.heap.size wr).drew)
              clear hJ hI
              go_upto_region 21 with (fail)
              have kcv0 := fun (w : World) (C : Array Value) (n c : Nat) => cv0 (P := Try.prog) w 23 5 C n c Try.underlying23 Try.underlying5
              have kcv1 := fun (w : World) (C : Array Value) (n c : Nat) (o : Obj) => cv1 (P := Try.prog) w 23 5 C n c o Try.underlying23 Try.underlying5
              have kcv2 := fun (w : World) (C : Array Value) (n c : Nat) (o : Obj) => cv2 (P := Try.prog) w 23 5 C n c o Try.underlying23 Try.underlying5
              have kcv0d := fun (w : World) (C : Array Value) (n c : Nat) => cv0d (P := Try.prog) w 23 5 C n c Try.underlying23 Try.underlying5
              have kcv1d := fun (w : World) (C : Array Value) (n c : Nat) (o : Obj) => cv1d (P := Try.prog) w 23 5 C n c o Try.underlying23 Try.underlying5
              have kcv2d := fun (w : World) (C : Array Value) (n c : Nat) (o : Obj) => cv2d (P := Try.prog) w 23 5 C n c o Try.underlying23 Try.underlying5
              have R0 := Below.refl wr.heap.size wr
              refine wp_region_noPanic ?_
              refine wp_region_held_drew (S := (fun w' => w'.cell? ⟨ge, i, none⟩ = some (.int .i64 x) ∧ w'.cell? ⟨ge, j, none⟩ = some (.int .i64 y))) (by kernel_rfl) (by first | exact HX.out _ HB4.out | exact HX.out _ (al1 HB4.out rfl _) | exact HX.out _ (al2 HB4.out _ _) | exact HX.out _ R0.drew | exact HX.out _ (al1 R0 rfl _).drew | exact HX.out _ (al2 R0 _ _).drew) (fun hHeld => ?_)
              refine wpAnyH_take (i := 3) (oi := ⟨some 79, Op.move (Operand.tmp 6), 47, _, _, none⟩) (v := ?_) rfl (by kernel_rfl) (by kernel_rfl) (by kernel_rfl) (fun _ _ _ h => h) (Or.inl ⟨by rfl, ?_⟩) (by assumption) ?_
              rotate_left
              · (intro w hSw; obtain ⟨hS1, hS2⟩ := hSw; go_simp; try with_reducible rfl)
              try simp only [Act.put, List.setIfInBounds_toArray, List.set_cons_zero, List.set_cons_succ]
              refine wpAnyH_take (i := 4) (oi := ⟨some 80, Op.move (Operand.tmp 7), 3, _, _, none⟩) (v := ?_) rfl (by kernel_rfl) (by kernel_rfl) (by kernel_rfl) (fun _ _ _ h => h) (Or.inl ⟨by rfl, ?_⟩) (by assumption) ?_
              rotate_left
              · (intro w hSw; obtain ⟨hS1, hS2⟩ := hSw; go_simp; try with_reducible rfl)
              try simp only [Act.put, List.setIfInBounds_toArray, List.set_cons_zero, List.set_cons_succ]
              refine wpAnyH_take (i := 5) (oi := ⟨some 81, Op.indexAddr 47 (Operand.tmp 79) (Operand.tmp 80), 0, _, _, none⟩) (v := ?_) rfl (by kernel_rfl) (by kernel_rfl) (by kernel_rfl) (fun _ _ _ h => h) (Or.inl ⟨by rfl, ?_⟩) (by assumption) ?_
              rotate_left
              · (intro w hSw; obtain ⟨hS1, hS2⟩ := hSw; go_simp; try with_reducible rfl)
              try simp only [Act.put, List.setIfInBounds_toArray, List.set_cons_zero, List.set_cons_succ]
              refine wpAnyH_take (i := 6) (oi := ⟨some 82, Op.load 3 (Operand.tmp 81), 3, _, _, none⟩) (v := ?_) rfl (by kernel_rfl) (by kernel_rfl) (by kernel_rfl) (fun _ _ _ h => h) (Or.inl ⟨by rfl, ?_⟩) (by assumption) ?_
              rotate_left
              · (intro w hSw; obtain ⟨hS1, hS2⟩ := hSw; go_simp; try with_reducible rfl)
              try simp only [Act.put, List.setIfInBounds_toArray, List.set_cons_zero, List.set_cons_succ]
              refine wpAnyH_take (i := 7) (oi := ⟨some 83, Op.build 25 #[(0, Operand.tmp 82), (1, Operand.const (Value.int IntKind.i64 0)), (2, Operand.const (Value.int IntKind.i64 3))], 25, _, _, none⟩) (v := ?_) rfl (by kernel_rfl) (by kernel_rfl) (by kernel_rfl) (fun _ _ _ h => h) (Or.inl ⟨by rfl, ?_⟩) (by assumption) ?_
              rotate_left
              · (intro w hSw; obtain ⟨hS1, hS2⟩ := hSw; go_simp; try with_reducible rfl)
              try simp only [Act.put, List.setIfInBounds_toArray, List.set_cons_zero, List.set_cons_succ]
              refine wpAnyH_ready (rs := [0, 1]) (by kernel_rfl) (by simp) ?_
              refine AllReadyH.cons (i := 0) (o := ⟨some 76, Op.call { callee := Callee.value (Operand.func 21), args := #[], argTypes := #[] }, 22, _, _, none⟩) rfl (fun K hK => ?_) ?_
              · go_simp
                refine (ex2_any _).mono ?_
                rintro e w3 ⟨rfl, rfl⟩
                go_wp2_with fail
                refine hK.out _ _ (by first | exact HX.out _ HB4.out | exact HX.out _ (al1 HB4.out rfl _) | exact HX.out _ (al2 HB4.out _ _) | exact HX.out _ R0.drew | exact HX.out _ (al1 R0 rfl _).drew | exact HX.out _ (al2 R0 _ _).drew) (fun hHeld => ?_)
                clear hK K
                try simp only [Act.put, List.setIfInBounds_toArray, List.set_cons_zero, List.set_cons_succ]
                refine wpAnyH_ready (rs := [1]) (by kernel_rfl) (by simp) ?_
                refine AllReadyH.cons (i := 1) (o := ⟨some 77, Op.buildSlice 23 3 #[(0, Operand.const (Value.int IntKind.u8 49)), (1, Operand.const (Value.int IntKind.u8 43)), (2, Operand.const (Value.int IntKind.u8 50))], 23, _, _, none⟩) rfl (fun K hK => ?_) ?_
                · go_simp
                  refine hK.out _ _ (by first | exact HX.out _ HB4.out | exact HX.out _ (al1 HB4.out rfl _) | exact HX.out _ (al2 HB4.out _ _) | exact HX.out _ R0.drew | exact HX.out _ (al1 R0 rfl _).drew | exact HX.out _ (al2 R0 _ _).drew) (fun hHeld => ?_)
                  clear hK K
                  try simp only [Act.put, List.setIfInBounds_toArray, List.set_cons_zero, List.set_cons_succ]
                  refine wpAnyH_ready (rs := [2]) (by kernel_rfl) (by simp) ?_
                  refine AllReadyH.cons (i := 2) (o := ⟨some 78, Op.convert 23 23 (Operand.tmp 77), 23, _, _, none⟩) rfl (fun K hK => ?_) ?_
                  · go_simp
                    refine hK.out _ _ (by first | exact HX.out _ HB4.out | exact HX.out _ (al1 HB4.out rfl _) | exact HX.out _ (al2 HB4.out _ _) | exact HX.out _ R0.drew | exact HX.out _ (al1 R0 rfl _).drew | exact HX.out _ (al2 R0 _ _).drew) (fun hHeld => ?_)
                    clear hK K
                    try simp only [Act.put, List.setIfInBounds_toArray, List.set_cons_zero, List.set_cons_succ]
                    refine wpAnyH_ready (rs := [8]) (by kernel_rfl) (by simp) ?_
                    refine AllReadyH.cons (i := 8) (o := ⟨some 84, Op.call { callee := Callee.value (Operand.func 3), args := #[Operand.tmp 76, Operand.tmp 78, Operand.tmp 83], argTypes := #[22, 23, 25] }, 4, _, _, none⟩) rfl (fun K hK => ?_) ?_
                    · go_simp
                      first
                        | (go_at_call 3; ((with_reducible refine (tells_any _ _ _ _ _ _ _ exL [49, 43, 50] ex_byt (svA w4).1 (svA w4).2 _ _ _).mono ?_)); rintro e w4 ⟨rfl, hb4⟩; have HB4 := Lib.hid ((al2 HB4.out _ _).trans (hb4.mono (al2 HB4.out _ _).size)); clear hb4)
                        | (go_at_call 3; ((with_reducible refine (tells_any _ _ _ _ _ _ _ exL [49, 43, 50] ex_byt (svB w4).1 (svB w4).2 _ _ _).mono ?_)); rintro e w4 ⟨rfl, hb4⟩; have HB4 := Lib.hid ((al2 HB4.out _ _).trans (hb4.mono (al2 HB4.out _ _).size)); clear hb4)
                        | (go_at_call 3; ((with_reducible refine (tells_any _ _ _ _ _ _ _ exL [49, 43, 50] ex_byt (svA wr).1.drew (svA wr).2.drew _ _ _).mono ?_)); rintro e w4 ⟨rfl, hb4⟩; have HB4 := Lib.hid ((al2 R0 _ _).drew.trans (hb4.mono (al2 R0 _ _).drew.size)); clear hb4)
                        | (go_at_call 3; ((with_reducible refine (tells_any _ _ _ _ _ _ _ exL [49, 43, 50] ex_byt (svB wr).1.drew (svB wr).2.drew _ _ _).mono ?_)); rintro e w4 ⟨rfl, hb4⟩; have HB4 := Lib.hid ((al2 R0 _ _).drew.trans (hb4.mono (al2 R0 _ _).drew.size)); clear hb4)
                      go_wp2_with fail
                      refine hK.out _ _ (by first | exact HX.out _ HB4.out | exact HX.out _ (al1 HB4.out rfl _) | exact HX.out _ (al2 HB4.out _ _) | exact HX.out _ R0.drew | exact HX.out _ (al1 R0 rfl _).drew | exact HX.out _ (al2 R0 _ _).drew) (fun hHeld => ?_)
                      clear hK K
                      try simp only [Act.put, List.setIfInBounds_toArray, List.set_cons_zero, List.set_cons_succ]
                      refine wpAnyH_take (i := 9) (oi := ⟨some 85, Op.unOp UnOp.not 4 (Operand.tmp 84), 4, _, _, none⟩) (v := ?_) rfl (by kernel_rfl) (by kernel_rfl) (by kernel_rfl) (fun _ _ _ h => h) (Or.inl ⟨by rfl, ?_⟩) (by assumption) ?_
                      rotate_left
                      · (intro w hSw; obtain ⟨hS1, hS2⟩ := hSw; go_simp; try with_reducible rfl)
                      try simp only [Act.put, List.setIfInBounds_toArray, List.set_cons_zero, List.set_cons_succ]
                      refine wpAnyH_take (i := 10) (oi := ⟨some 86, Op.move (Operand.tmp 85), 4, _, _, none⟩) (v := ?_) rfl (by kernel_rfl) (by kernel_rfl) (by kernel_rfl) (fun _ _ _ h => h) (Or.inl ⟨by rfl, ?_⟩) (by assumption) ?_
                      rotate_left
                      · (intro w hSw; obtain ⟨hS1, hS2⟩ := hSw; go_simp; try with_reducible rfl)
                      try simp only [Act.put, List.setIfInBounds_toArray, List.set_cons_zero, List.set_cons_succ]
                      refine wpAnyH_take (i := 14) (oi := ⟨some 90, Op.move (Operand.tmp 6), 47, _, _, some (10, false)⟩) (v := ?_) rfl (by kernel_rfl) (by kernel_rfl) (by kernel_rfl) (fun _ _ _ h => h) (Or.inl ⟨by rfl, ?_⟩) (by assumption) ?_
                      rotate_left
                      · (intro w hSw; obtain ⟨hS1, hS2⟩ := hSw; go_simp; try with_reducible rfl)
                      try simp only [Act.put, List.setIfInBounds_toArray, List.set_cons_zero, List.set_cons_succ]
                      refine wpAnyH_take (i := 15) (oi := ⟨some 91, Op.move (Operand.tmp 7), 3, _, _, some (10, false)⟩) (v := ?_) rfl (by kernel_rfl) (by kernel_rfl) (by kernel_rfl) (fun _ _ _ h => h) (Or.inl ⟨by rfl, ?_⟩) (by assumption) ?_
                      rotate_left
                      · (intro w hSw; obtain ⟨hS1, hS2⟩ := hSw; go_simp; try with_reducible rfl)
                      try simp only [Act.put, List.setIfInBounds_toArray, List.set_cons_zero, List.set_cons_succ]
                      refine wpAnyH_take (i := 16) (oi := ⟨some 92, Op.indexAddr 47 (Operand.tmp 90) (Operand.tmp 91), 0, _, _, some (10, false)⟩) (v := ?_) rfl (by kernel_rfl) (by kernel_rfl) (by kernel_rfl) (fun _ _ _ h => h) (Or.inl ⟨by rfl, ?_⟩) (by assumption) ?_
                      rotate_left
                      · (intro w hSw; obtain ⟨hS1, hS2⟩ := hSw; go_simp; try with_reducible rfl)
                      try simp only [Act.put, List.setIfInBounds_toArray, List.set_cons_zero, List.set_cons_succ]
                      refine wpAnyH_take (i := 17) (oi := ⟨some 93, Op.load 3 (Operand.tmp 92), 3, _, _, some (10, false)⟩) (v := ?_) rfl (by kernel_rfl) (by kernel_rfl) (by kernel_rfl) (fun _ _ _ h => h) (Or.inl ⟨by rfl, ?_⟩) (by assumption) ?_
                      rotate_left
                      · (intro w hSw; obtain ⟨hS1, hS2⟩ := hSw; go_simp; try with_reducible rfl)
                      try simp only [Act.put, List.setIfInBounds_toArray, List.set_cons_zero, List.set_cons_succ]
                      refine wpAnyH_take (i := 18) (oi := ⟨some 94, Op.move (Operand.tmp 6), 47, _, _, some (10, false)⟩) (v := ?_) rfl (by kernel_rfl) (by kernel_rfl) (by kernel_rfl) (fun _ _ _ h => h) (Or.inl ⟨by rfl, ?_⟩) (by assumption) ?_
                      rotate_left
                      · (intro w hSw; obtain ⟨hS1, hS2⟩ := hSw; go_simp; try with_reducible rfl)
                      try simp only [Act.put, List.setIfInBounds_toArray, List.set_cons_zero, List.set_cons_succ]
                      refine wpAnyH_take (i := 19) (oi := ⟨some 95, Op.move (Operand.tmp 8), 3, _, _, some (10, false)⟩) (v := ?_) rfl (by kernel_rfl) (by kernel_rfl) (by kernel_rfl) (fun _ _ _ h => h) (Or.inl ⟨by rfl, ?_⟩) (by assumption) ?_
                      rotate_left
                      · (intro w hSw; obtain ⟨hS1, hS2⟩ := hSw; go_simp; try with_reducible rfl)
                      try simp only [Act.put, List.setIfInBounds_toArray, List.set_cons_zero, List.set_cons_succ]
                      refine wpAnyH_take (i := 20) (oi := ⟨some 96, Op.indexAddr 47 (Operand.tmp 94) (Operand.tmp 95), 0, _, _, some (10, false)⟩) (v := ?_) rfl (by kernel_rfl) (by kernel_rfl) (by kernel_rfl) (fun _ _ _ h => h) (Or.inl ⟨by rfl, ?_⟩) (by assumption) ?_
                      rotate_left
                      · (intro w hSw; obtain ⟨hS1, hS2⟩ := hSw; go_simp; try with_reducible rfl)
                      try simp only [Act.put, List.setIfInBounds_toArray, List.set_cons_zero, List.set_cons_succ]
                      refine wpAnyH_take (i := 21) (oi := ⟨some 97, Op.load 3 (Operand.tmp 96), 3, _, _, some (10, false)⟩) (v := ?_) rfl (by kernel_rfl) (by kernel_rfl) (by kernel_rfl) (fun _ _ _ h => h) (Or.inl ⟨by rfl, ?_⟩) (by assumption) ?_
                      rotate_left
                      · (intro w hSw; obtain ⟨hS1, hS2⟩ := hSw; go_simp; try with_reducible rfl)
                      try simp only [Act.put, List.setIfInBounds_toArray, List.set_cons_zero, List.set_cons_succ]
                      refine wpAnyH_take (i := 22) (oi := ⟨some 98, Op.build 25 #[(0, Operand.const (Value.int IntKind.i64 0)), (1, Operand.tmp 93), (2, Operand.tmp 97)], 25, _, _, some (10, false)⟩) (v := ?_) rfl (by kernel_rfl) (by kernel_rfl) (by kernel_rfl) (fun _ _ _ h => h) (Or.inl ⟨by rfl, ?_⟩) (by assumption) ?_
                      rotate_left
                      · (intro w hSw; obtain ⟨hS1, hS2⟩ := hSw; go_simp; try with_reducible rfl)
                      try simp only [Act.put, List.setIfInBounds_toArray, List.set_cons_zero, List.set_cons_succ]
                      refine wpAnyH_ready (rs := [11, 12]) (by kernel_rfl) (by simp) ?_
                      refine AllReadyH.cons (i := 11) (o := ⟨some 87, Op.call { callee := Callee.value (Operand.func 21), args := #[], argTypes := #[] }, 22, _, _, some (10, false)⟩) rfl (fun K hK => ?_) ?_
                      · go_simp
                        refine (ex2_any _).mono ?_
                        rintro e w3 ⟨rfl, rfl⟩
                        go_wp2_with fail
                        refine hK.out _ _ (by first | exact HX.out _ HB4.out | exact HX.out _ (al1 HB4.out rfl _) | exact HX.out _ (al2 HB4.out _ _) | exact HX.out _ R0.drew | exact HX.out _ (al1 R0 rfl _).drew | exact HX.out _ (al2 R0 _ _).drew) (fun hHeld => ?_)
                        clear hK K
                        try simp only [Act.put, List.setIfInBounds_toArray, List.set_cons_zero, List.set_cons_succ]
                        refine wpAnyH_ready (rs := [12]) (by kernel_rfl) (by simp) ?_
                        refine AllReadyH.cons (i := 12) (o := ⟨some 88, Op.buildSlice 23 3 #[(0, Operand.const (Value.int IntKind.u8 49)), (1, Operand.const (Value.int IntKind.u8 43)), (2, Operand.const (Value.int IntKind.u8 50))], 23, _, _, some (10, false)⟩) rfl (fun K hK => ?_) ?_
                        · go_simp
                          refine hK.out _ _ (by first | exact HX.out _ HB4.out | exact HX.out _ (al1 HB4.out rfl _) | exact HX.out _ (al2 HB4.out _ _) | exact HX.out _ R0.drew | exact HX.out _ (al1 R0 rfl _).drew | exact HX.out _ (al2 R0 _ _).drew) (fun hHeld => ?_)
                          clear hK K
                          try simp only [Act.put, List.setIfInBounds_toArray, List.set_cons_zero, List.set_cons_succ]
                          refine wpAnyH_ready (rs := [13]) (by kernel_rfl) (by simp) ?_
                          refine AllReadyH.cons (i := 13) (o := ⟨some 89, Op.convert 23 23 (Operand.tmp 88), 23, _, _, some (10, false)⟩) rfl (fun K hK => ?_) ?_
                          · go_simp
                            refine hK.out _ _ (by first | exact HX.out _ HB4.out | exact HX.out _ (al1 HB4.out rfl _) | exact HX.out _ (al2 HB4.out _ _) | exact HX.out _ R0.drew | exact HX.out _ (al1 R0 rfl _).drew | exact HX.out _ (al2 R0 _ _).drew) (fun hHeld => ?_)
                            clear hK K
                            try simp only [Act.put, List.setIfInBounds_toArray, List.set_cons_zero, List.set_cons_succ]
                            refine wpAnyH_ready (rs := [23]) (by kernel_rfl) (by simp) ?_
                            refine AllReadyH.cons (i := 23) (o := ⟨some 99, Op.call { callee := Callee.value (Operand.func 3), args := #[Operand.tmp 87, Operand.tmp 89, Operand.tmp 98], argTypes := #[22, 23, 25] }, 4, _, _, some (10, false)⟩) rfl (fun K hK => ?_) ?_
                            · go_simp
                              first
                                | (go_at_call 3; ((with_reducible refine (tells_any _ _ _ _ _ _ _ exL [49, 43, 50] ex_byt (svA w4).1 (svA w4).2 _ _ _).mono ?_)); rintro e w4 ⟨rfl, hb4⟩; have HB4 := Lib.hid ((al2 HB4.out _ _).trans (hb4.mono (al2 HB4.out _ _).size)); clear hb4)
                                | (go_at_call 3; ((with_reducible refine (tells_any _ _ _ _ _ _ _ exL [49, 43, 50] ex_byt (svB w4).1 (svB w4).2 _ _ _).mono ?_)); rintro e w4 ⟨rfl, hb4⟩; have HB4 := Lib.hid ((al2 HB4.out _ _).trans (hb4.mono (al2 HB4.out _ _).size)); clear hb4)
                                | (go_at_call 3; ((with_reducible refine (tells_any _ _ _ _ _ _ _ exL [49, 43, 50] ex_byt (svA wr).1.drew (svA wr).2.drew _ _ _).mono ?_)); rintro e w4 ⟨rfl, hb4⟩; have HB4 := Lib.hid ((al2 R0 _ _).drew.trans (hb4.mono (al2 R0 _ _).drew.size)); clear hb4)
                                | (go_at_call 3; ((with_reducible refine (tells_any _ _ _ _ _ _ _ exL [49, 43, 50] ex_byt (svB wr).1.drew (svB wr).2.drew _ _ _).mono ?_)); rintro e w4 ⟨rfl, hb4⟩; have HB4 := Lib.hid ((al2 R0 _ _).drew.trans (hb4.mono (al2 R0 _ _).drew.size)); clear hb4)
                              go_wp2_with fail
                              refine hK.out _ _ (by first | exact HX.out _ HB4.out | exact HX.out _ (al1 HB4.out rfl _) | exact HX.out _ (al2 HB4.out _ _) | exact HX.out _ R0.drew | exact HX.out _ (al1 R0 rfl _).drew | exact HX.out _ (al2 R0 _ _).drew) (fun hHeld => ?_)
                              clear hK K
                              try simp only [Act.put, List.setIfInBounds_toArray, List.set_cons_zero, List.set_cons_succ]
                              refine wpAnyH_take (i := 24) (oi := ⟨some 100, Op.unOp UnOp.not 4 (Operand.tmp 99), 4, _, _, some (10, false)⟩) (v := ?_) rfl (by kernel_rfl) (by kernel_rfl) (by kernel_rfl) (fun _ _ _ h => h) (Or.inl ⟨by rfl, ?_⟩) (by assumption) ?_
                              rotate_left
                              · (intro w hSw; obtain ⟨hS1, hS2⟩ := hSw; go_simp; try with_reducible rfl)
                              try simp only [Act.put, List.setIfInBounds_toArray, List.set_cons_zero, List.set_cons_succ]
                              refine wpAnyH_take (i := 25) (oi := ⟨some 101, Op.pick (Operand.tmp 86) (Operand.const (Value.bool true)) (Operand.tmp 100), 4, _, _, none⟩) (v := ?_) rfl (by kernel_rfl) (by kernel_rfl) (by kernel_rfl) (fun _ _ _ h => h) (Or.inl ⟨by rfl, ?_⟩) (by assumption) ?_
                              rotate_left
                              · (intro w hSw; obtain ⟨hS1, hS2⟩ := hSw; go_simp; try with_reducible rfl)
                              try simp only [Act.put, List.setIfInBounds_toArray, List.set_cons_zero, List.set_cons_succ]
                              refine wpAnyH_done (by kernel_rfl) ?_ _
                              refine NoPanic.normal ?_
                              clear kcv0 kcv1 kcv2 kcv0d kcv1d kcv2d
                              go_wp2_with fail
                              go_roundw
                              case rel => exact ⟨j + 1, by omega, by go_num, HJ1.out.trans (HB4.out.mono HJ1.out.size), HJ2.out.below HB4.out⟩
                              case measure => simp [intOf]; omega
                            exact AllReadyH.nil
                          exact AllReadyH.nil
                        exact AllReadyH.nil
                      refine AllReadyH.cons (i := 12) (o := ⟨some 88, Op.buildSlice 23 3 #[(0, Operand.const (Value.int IntKind.u8 49)), (1, Operand.const (Value.int IntKind.u8 43)), (2, Operand.const (Value.int IntKind.u8 50))], 23, _, _, some (10, false)⟩) rfl (fun K hK => ?_) ?_
                      · go_simp
                        refine hK.out _ _ (by first | exact HX.out _ HB4.out | exact HX.out _ (al1 HB4.out rfl _) | exact HX.out _ (al2 HB4.out _ _) | exact HX.out _ R0.drew | exact HX.out _ (al1 R0 rfl _).drew | exact HX.out _ (al2 R0 _ _).drew) (fun hHeld => ?_)
                        clear hK K
                        try simp only [Act.put, List.setIfInBounds_toArray, List.set_cons_zero, List.set_cons_succ]
                        refine wpAnyH_ready (rs := [11, 13]) (by kernel_rfl) (by simp) ?_
                        refine AllReadyH.cons (i := 11) (o := ⟨some 87, Op.call { callee := Callee.value (Operand.func 21), args := #[], argTypes := #[] }, 22, _, _, some (10, false)⟩) rfl (fun K hK => ?_) ?_
                        · go_simp
                          refine (ex2_any _).mono ?_
                          rintro e w3 ⟨rfl, rfl⟩
                          go_wp2_with fail
                          refine hK.out _ _ (by first | exact HX.out _ HB4.out | exact HX.out _ (al1 HB4.out rfl _) | exact HX.out _ (al2 HB4.out _ _) | exact HX.out _ R0.drew | exact HX.out _ (al1 R0 rfl _).drew | exact HX.out _ (al2 R0 _ _).drew) (fun hHeld => ?_)
                          clear hK K
                          try simp only [Act.put, List.setIfInBounds_toArray, List.set_cons_zero, List.set_cons_succ]
                          refine wpAnyH_ready (rs := [13]) (by kernel_rfl) (by simp) ?_
                          refine AllReadyH.cons (i := 13) (o := ⟨some 89, Op.convert 23 23 (Operand.tmp 88), 23, _, _, some (10, false)⟩) rfl (fun K hK => ?_) ?_
                          · go_simp
                            refine hK.out _ _ (by first | exact HX.out _ HB4.out | exact HX.out _ (al1 HB4.out rfl _) | exact HX.out _ (al2 HB4.out _ _) | exact HX.out _ R0.drew | exact HX.out _ (al1 R0 rfl _).drew | exact HX.out _ (al2 R0 _ _).drew) (fun hHeld => ?_)
                            clear hK K
                            try simp only [Act.put, List.setIfInBounds_toArray, List.set_cons_zero, List.set_cons_succ]
                            refine wpAnyH_ready (rs := [23]) (by kernel_rfl) (by simp) ?_
                            refine AllReadyH.cons (i := 23) (o := ⟨some 99, Op.call { callee := Callee.value (Operand.func 3), args := #[Operand.tmp 87, Operand.tmp 89, Operand.tmp 98], argTypes := #[22, 23, 25] }, 4, _, _, some (10, false)⟩) rfl (fun K hK => ?_) ?_
                            · go_simp
                              first
                                | (go_at_call 3; ((with_reducible refine (tells_any _ _ _ _ _ _ _ exL [49, 43, 50] ex_byt (svA w4).1 (svA w4).2 _ _ _).mono ?_)); rintro e w4 ⟨rfl, hb4⟩; have HB4 := Lib.hid ((al2 HB4.out _ _).trans (hb4.mono (al2 HB4.out _ _).size)); clear hb4)
                                | (go_at_call 3; ((with_reducible refine (tells_any _ _ _ _ _ _ _ exL [49, 43, 50] ex_byt (svB w4).1 (svB w4).2 _ _ _).mono ?_)); rintro e w4 ⟨rfl, hb4⟩; have HB4 := Lib.hid ((al2 HB4.out _ _).trans (hb4.mono (al2 HB4.out _ _).size)); clear hb4)
                                | (go_at_call 3; ((with_reducible refine (tells_any _ _ _ _ _ _ _ exL [49, 43, 50] ex_byt (svA wr).1.drew (svA wr).2.drew _ _ _).mono ?_)); rintro e w4 ⟨rfl, hb4⟩; have HB4 := Lib.hid ((al2 R0 _ _).drew.trans (hb4.mono (al2 R0 _ _).drew.size)); clear hb4)
                                | (go_at_call 3; ((with_reducible refine (tells_any _ _ _ _ _ _ _ exL [49, 43, 50] ex_byt (svB wr).1.drew (svB wr).2.drew _ _ _).mono ?_)); rintro e w4 ⟨rfl, hb4⟩; have HB4 := Lib.hid ((al2 R0 _ _).drew.trans (hb4.mono (al2 R0 _ _).drew.size)); clear hb4)
                              go_wp2_with fail
                              refine hK.out _ _ (by first | exact HX.out _ HB4.out | exact HX.out _ (al1 HB4.out rfl _) | exact HX.out _ (al2 HB4.out _ _) | exact HX.out _ R0.drew | exact HX.out _ (al1 R0 rfl _).drew | exact HX.out _ (al2 R0 _ _).drew) (fun hHeld => ?_)
                              clear hK K
                              try simp only [Act.put, List.setIfInBounds_toArray, List.set_cons_zero, List.set_cons_succ]
                              refine wpAnyH_take (i := 24) (oi := ⟨some 100, Op.unOp UnOp.not 4 (Operand.tmp 99), 4, _, _, some (10, false)⟩) (v := ?_) rfl (by kernel_rfl) (by kernel_rfl) (by kernel_rfl) (fun _ _ _ h => h) (Or.inl ⟨by rfl, ?_⟩) (by assumption) ?_
                              rotate_left
                              · (intro w hSw; obtain ⟨hS1, hS2⟩ := hSw; go_simp; try with_reducible rfl)
                              try simp only [Act.put, List.setIfInBounds_toArray, List.set_cons_zero, List.set_cons_succ]
                              refine wpAnyH_take (i := 25) (oi := ⟨some 101, Op.pick (Operand.tmp 86) (Operand.const (Value.bool true)) (Operand.tmp 100), 4, _, _, none⟩) (v := ?_) rfl (by kernel_rfl) (by kernel_rfl) (by kernel_rfl) (fun _ _ _ h => h) (Or.inl ⟨by rfl, ?_⟩) (by assumption) ?_
                              rotate_left
                              · (intro w hSw; obtain ⟨hS1, hS2⟩ := hSw; go_simp; try with_reducible rfl)
                              try simp only [Act.put, List.setIfInBounds_toArray, List.set_cons_zero, List.set_cons_succ]
                              refine wpAnyH_done (by kernel_rfl) ?_ _
                              refine NoPanic.normal ?_
                              clear kcv0 kcv1 kcv2 kcv0d kcv1d kcv2d
                              go_wp2_with fail
                              go_roundw
                              case rel => exact ⟨j + 1, by omega, by go_num, HJ1.out.trans (HB4.out.mono HJ1.out.size), HJ2.out.below HB4.out⟩
                              case measure => simp [intOf]; omega
                            exact AllReadyH.nil
                          exact AllReadyH.nil
                        refine AllReadyH.cons (i := 13) (o := ⟨some 89, Op.convert 23 23 (Operand.tmp 88), 23, _, _, some (10, false)⟩) rfl (fun K hK => ?_) ?_
                        · go_simp
                          refine hK.out _ _ (by first | exact HX.out _ HB4.out | exact HX.out _ (al1 HB4.out rfl _) | exact HX.out _ (al2 HB4.out _ _) | exact HX.out _ R0.drew | exact HX.out _ (al1 R0 rfl _).drew | exact HX.out _ (al2 R0 _ _).drew) (fun hHeld => ?_)
                          clear hK K
                          try simp only [Act.put, List.setIfInBounds_toArray, List.set_cons_zero, List.set_cons_succ]
                          refine wpAnyH_ready (rs := [11]) (by kernel_rfl) (by simp) ?_
                          refine AllReadyH.cons (i := 11) (o := ⟨some 87, Op.call { callee := Callee.value (Operand.func 21), args := #[], argTypes := #[] }, 22, _, _, some (10, false)⟩) rfl (fun K hK => ?_) ?_
                          · go_simp
                            refine (ex2_any _).mono ?_
                            rintro e w3 ⟨rfl, rfl⟩
                            go_wp2_with fail
                            refine hK.out _ _ (by first | exact HX.out _ HB4.out | exact HX.out _ (al1 HB4.out rfl _) | exact HX.out _ (al2 HB4.out _ _) | exact HX.out _ R0.drew | exact HX.out _ (al1 R0 rfl _).drew | exact HX.out _ (al2 R0 _ _).drew) (fun hHeld => ?_)
                            clear hK K
                            try simp only [Act.put, List.setIfInBounds_toArray, List.set_cons_zero, List.set_cons_succ]
                            refine wpAnyH_ready (rs := [23]) (by kernel_rfl) (by simp) ?_
                            refine AllReadyH.cons (i := 23) (o := ⟨some 99, Op.call { callee := Callee.value (Operand.func 3), args := #[Operand.tmp 87, Operand.tmp 89, Operand.tmp 98], argTypes := #[22, 23, 25] }, 4, _, _, some (10, false)⟩) rfl (fun K hK => ?_) ?_
                            · go_simp
                              first
                                | (go_at_call 3; ((with_reducible refine (tells_any _ _ _ _ _ _ _ exL [49, 43, 50] ex_byt (svA w4).1 (svA w4).2 _ _ _).mono ?_)); rintro e w4 ⟨rfl, hb4⟩; have HB4 := Lib.hid ((al2 HB4.out _ _).trans (hb4.mono (al2 HB4.out _ _).size)); clear hb4)
                                | (go_at_call 3; ((with_reducible refine (tells_any _ _ _ _ _ _ _ exL [49, 43, 50] ex_byt (svB w4).1 (svB w4).2 _ _ _).mono ?_)); rintro e w4 ⟨rfl, hb4⟩; have HB4 := Lib.hid ((al2 HB4.out _ _).trans (hb4.mono (al2 HB4.out _ _).size)); clear hb4)
                                | (go_at_call 3; ((with_reducible refine (tells_any _ _ _ _ _ _ _ exL [49, 43, 50] ex_byt (svA wr).1.drew (svA wr).2.drew _ _ _).mono ?_)); rintro e w4 ⟨rfl, hb4⟩; have HB4 := Lib.hid ((al2 R0 _ _).drew.trans (hb4.mono (al2 R0 _ _).drew.size)); clear hb4)
                                | (go_at_call 3; ((with_reducible refine (tells_any _ _ _ _ _ _ _ exL [49, 43, 50] ex_byt (svB wr).1.drew (svB wr).2.drew _ _ _).mono ?_)); rintro e w4 ⟨rfl, hb4⟩; have HB4 := Lib.hid ((al2 R0 _ _).drew.trans (hb4.mono (al2 R0 _ _).drew.size)); clear hb4)
                              go_wp2_with fail
                              refine hK.out _ _ (by first | exact HX.out _ HB4.out | exact HX.out _ (al1 HB4.out rfl _) | exact HX.out _ (al2 HB4.out _ _) | exact HX.out _ R0.drew | exact HX.out _ (al1 R0 rfl _).drew | exact HX.out _ (al2 R0 _ _).drew) (fun hHeld => ?_)
                              clear hK K
                              try simp only [Act.put, List.setIfInBounds_toArray, List.set_cons_zero, List.set_cons_succ]
                              refine wpAnyH_take (i := 24) (oi := ⟨some 100, Op.unOp UnOp.not 4 (Operand.tmp 99), 4, _, _, some (10, false)⟩) (v := ?_) rfl (by kernel_rfl) (by kernel_rfl) (by kernel_rfl) (fun _ _ _ h => h) (Or.inl ⟨by rfl, ?_⟩) (by assumption) ?_
                              rotate_left
                              · (intro w hSw; obtain ⟨hS1, hS2⟩ := hSw; go_simp; try with_reducible rfl)
                              try simp only [Act.put, List.setIfInBounds_toArray, List.set_cons_zero, List.set_cons_succ]
                              refine wpAnyH_take (i := 25) (oi := ⟨some 101, Op.pick (Operand.tmp 86) (Operand.const (Value.bool true)) (Operand.tmp 100), 4, _, _, none⟩) (v := ?_) rfl (by kernel_rfl) (by kernel_rfl) (by kernel_rfl) (fun _ _ _ h => h) (Or.inl ⟨by rfl, ?_⟩) (by assumption) ?_
                              rotate_left
                              · (intro w hSw; obtain ⟨hS1, hS2⟩ := hSw; go_simp; try with_reducible rfl)
                              try simp only [Act.put, List.setIfInBounds_toArray, List.set_cons_zero, List.set_cons_succ]
                              refine wpAnyH_done (by kernel_rfl) ?_ _
                              refine NoPanic.normal ?_
                              clear kcv0 kcv1 kcv2 kcv0d kcv1d kcv2d
                              go_wp2_with fail
                              go_roundw
                              case rel => exact ⟨j + 1, by omega, by go_num, HJ1.out.trans (HB4.out.mono HJ1.out.size), HJ2.out.below HB4.out⟩
                              case measure => simp [intOf]; omega
                            exact AllReadyH.nil
                          exact AllReadyH.nil
                        exact AllReadyH.nil
                      exact AllReadyH.nil
                    exact AllReadyH.nil
                  exact AllReadyH.nil
                exact AllReadyH.nil
              refine AllReadyH.cons (i := 1) (o := ⟨some 77, Op.buildSlice 23 3 #[(0, Operand.const (Value.int IntKind.u8 49)), (1, Operand.const (Value.int IntKind.u8 43)), (2, Operand.const (Value.int IntKind.u8 50))], 23, _, _, none⟩) rfl (fun K hK => ?_) ?_
              · go_simp
                refine hK.out _ _ (by first | exact HX.out _ HB4.out | exact HX.out _ (al1 HB4.out rfl _) | exact HX.out _ (al2 HB4.out _ _) | exact HX.out _ R0.drew | exact HX.out _ (al1 R0 rfl _).drew | exact HX.out _ (al2 R0 _ _).drew) (fun hHeld => ?_)
                clear hK K
                try simp only [Act.put, List.setIfInBounds_toArray, List.set_cons_zero, List.set_cons_succ]
                refine wpAnyH_ready (rs := [0, 2]) (by kernel_rfl) (by simp) ?_
                refine AllReadyH.cons (i := 0) (o := ⟨some 76, Op.call { callee := Callee.value (Operand.func 21), args := #[], argTypes := #[] }, 22, _, _, none⟩) rfl (fun K hK => ?_) ?_
                · go_simp
                  refine (ex2_any _).mono ?_
                  rintro e w3 ⟨rfl, rfl⟩
                  go_wp2_with fail
                  refine hK.out _ _ (by first | exact HX.out _ HB4.out | exact HX.out _ (al1 HB4.out rfl _) | exact HX.out _ (al2 HB4.out _ _) | exact HX.out _ R0.drew | exact HX.out _ (al1 R0 rfl _).drew | exact HX.out _ (al2 R0 _ _).drew) (fun hHeld => ?_)
                  clear hK K
                  try simp only [Act.put, List.setIfInBounds_toArray, List.set_cons_zero, List.set_cons_succ]
                  refine wpAnyH_ready (rs := [2]) (by kernel_rfl) (by simp) ?_
                  refine AllReadyH.cons (i := 2) (o := ⟨some 78, Op.convert 23 23 (Operand.tmp 77), 23, _, _, none⟩) rfl (fun K hK => ?_) ?_
                  · go_simp
                    refine hK.out _ _ (by first | exact HX.out _ HB4.out | exact HX.out _ (al1 HB4.out rfl _) | exact HX.out _ (al2 HB4.out _ _) | exact HX.out _ R0.drew | exact HX.out _ (al1 R0 rfl _).drew | exact HX.out _ (al2 R0 _ _).drew) (fun hHeld => ?_)
                    clear hK K
                    try simp only [Act.put, List.setIfInBounds_toArray, List.set_cons_zero, List.set_cons_succ]
                    refine wpAnyH_ready (rs := [8]) (by kernel_rfl) (by simp) ?_
                    refine AllReadyH.cons (i := 8) (o := ⟨some 84, Op.call { callee := Callee.value (Operand.func 3), args := #[Operand.tmp 76, Operand.tmp 78, Operand.tmp 83], argTypes := #[22, 23, 25] }, 4, _, _, none⟩) rfl (fun K hK => ?_) ?_
                    · go_simp
                      first
                        | (go_at_call 3; ((with_reducible refine (tells_any _ _ _ _ _ _ _ exL [49, 43, 50] ex_byt (svA w4).1 (svA w4).2 _ _ _).mono ?_)); rintro e w4 ⟨rfl, hb4⟩; have HB4 := Lib.hid ((al2 HB4.out _ _).trans (hb4.mono (al2 HB4.out _ _).size)); clear hb4)
                        | (go_at_call 3; ((with_reducible refine (tells_any _ _ _ _ _ _ _ exL [49, 43, 50] ex_byt (svB w4).1 (svB w4).2 _ _ _).mono ?_)); rintro e w4 ⟨rfl, hb4⟩; have HB4 := Lib.hid ((al2 HB4.out _ _).trans (hb4.mono (al2 HB4.out _ _).size)); clear hb4)
                        | (go_at_call 3; ((with_reducible refine (tells_any _ _ _ _ _ _ _ exL [49, 43, 50] ex_byt (svA wr).1.drew (svA wr).2.drew _ _ _).mono ?_)); rintro e w4 ⟨rfl, hb4⟩; have HB4 := Lib.hid ((al2 R0 _ _).drew.trans (hb4.mono (al2 R0 _ _).drew.size)); clear hb4)
                        | (go_at_call 3; ((with_reducible refine (tells_any _ _ _ _ _ _ _ exL [49, 43, 50] ex_byt (svB wr).1.drew (svB wr).2.drew _ _ _).mono ?_)); rintro e w4 ⟨rfl, hb4⟩; have HB4 := Lib.hid ((al2 R0 _ _).drew.trans (hb4.mono (al2 R0 _ _).drew.size)); clear hb4)
                      go_wp2_with fail
                      refine hK.out _ _ (by first | exact HX.out _ HB4.out | exact HX.out _ (al1 HB4.out rfl _) | exact HX.out _ (al2 HB4.out _ _) | exact HX.out _ R0.drew | exact HX.out _ (al1 R0 rfl _).drew | exact HX.out _ (al2 R0 _ _).drew) (fun hHeld => ?_)
                      clear hK K
                      try simp only [Act.put, List.setIfInBounds_toArray, List.set_cons_zero, List.set_cons_succ]
                      refine wpAnyH_take (i := 9) (oi := ⟨some 85, Op.unOp UnOp.not 4 (Operand.tmp 84), 4, _, _, none⟩) (v := ?_) rfl (by kernel_rfl) (by kernel_rfl) (by kernel_rfl) (fun _ _ _ h => h) (Or.inl ⟨by rfl, ?_⟩) (by assumption) ?_
                      rotate_left
                      · (intro w hSw; obtain ⟨hS1, hS2⟩ := hSw; go_simp; try with_reducible rfl)
                      try simp only [Act.put, List.setIfInBounds_toArray, List.set_cons_zero, List.set_cons_succ]
                      refine wpAnyH_take (i := 10) (oi := ⟨some 86, Op.move (Operand.tmp 85), 4, _, _, none⟩) (v := ?_) rfl (by kernel_rfl) (by kernel_rfl) (by kernel_rfl) (fun _ _ _ h => h) (Or.inl ⟨by rfl, ?_⟩) (by assumption) ?_
                      rotate_left
                      · (intro w hSw; obtain ⟨hS1, hS2⟩ := hSw; go_simp; try with_reducible rfl)
                      try simp only [Act.put, List.setIfInBounds_toArray, List.set_cons_zero, List.set_cons_succ]
                      refine wpAnyH_take (i := 14) (oi := ⟨some 90, Op.move (Operand.tmp 6), 47, _, _, some (10, false)⟩) (v := ?_) rfl (by kernel_rfl) (by kernel_rfl) (by kernel_rfl) (fun _ _ _ h => h) (Or.inl ⟨by rfl, ?_⟩) (by assumption) ?_
                      rotate_left
                      · (intro w hSw; obtain ⟨hS1, hS2⟩ := hSw; go_simp; try with_reducible rfl)
                      try simp only [Act.put, List.setIfInBounds_toArray, List.set_cons_zero, List.set_cons_succ]
                      refine wpAnyH_take (i := 15) (oi := ⟨some 91, Op.move (Operand.tmp 7), 3, _, _, some (10, false)⟩) (v := ?_) rfl (by kernel_rfl) (by kernel_rfl) (by kernel_rfl) (fun _ _ _ h => h) (Or.inl ⟨by rfl, ?_⟩) (by assumption) ?_
                      rotate_left
                      · (intro w hSw; obtain ⟨hS1, hS2⟩ := hSw; go_simp; try with_reducible rfl)
                      try simp only [Act.put, List.setIfInBounds_toArray, List.set_cons_zero, List.set_cons_succ]
                      refine wpAnyH_take (i := 16) (oi := ⟨some 92, Op.indexAddr 47 (Operand.tmp 90) (Operand.tmp 91), 0, _, _, some (10, false)⟩) (v := ?_) rfl (by kernel_rfl) (by kernel_rfl) (by kernel_rfl) (fun _ _ _ h => h) (Or.inl ⟨by rfl, ?_⟩) (by assumption) ?_
                      rotate_left
                      · (intro w hSw; obtain ⟨hS1, hS2⟩ := hSw; go_simp; try with_reducible rfl)
                      try simp only [Act.put, List.setIfInBounds_toArray, List.set_cons_zero, List.set_cons_succ]
                      refine wpAnyH_take (i := 17) (oi := ⟨some 93, Op.load 3 (Operand.tmp 92), 3, _, _, some (10, false)⟩) (v := ?_) rfl (by kernel_rfl) (by kernel_rfl) (by kernel_rfl) (fun _ _ _ h => h) (Or.inl ⟨by rfl, ?_⟩) (by assumption) ?_
                      rotate_left
                      · (intro w hSw; obtain ⟨hS1, hS2⟩ := hSw; go_simp; try with_reducible rfl)
                      try simp only [Act.put, List.setIfInBounds_toArray, List.set_cons_zero, List.set_cons_succ]
                      refine wpAnyH_take (i := 18) (oi := ⟨some 94, Op.move (Operand.tmp 6), 47, _, _, some (10, false)⟩) (v := ?_) rfl (by kernel_rfl) (by kernel_rfl) (by kernel_rfl) (fun _ _ _ h => h) (Or.inl ⟨by rfl, ?_⟩) (by assumption) ?_
                      rotate_left
                      · (intro w hSw; obtain ⟨hS1, hS2⟩ := hSw; go_simp; try with_reducible rfl)
                      try simp only [Act.put, List.setIfInBounds_toArray, List.set_cons_zero, List.set_cons_succ]
                      refine wpAnyH_take (i := 19) (oi := ⟨some 95, Op.move (Operand.tmp 8), 3, _, _, some (10, false)⟩) (v := ?_) rfl (by kernel_rfl) (by kernel_rfl) (by kernel_rfl) (fun _ _ _ h => h) (Or.inl ⟨by rfl, ?_⟩) (by assumption) ?_
                      rotate_left
                      · (intro w hSw; obtain ⟨hS1, hS2⟩ := hSw; go_simp; try with_reducible rfl)
                      try simp only [Act.put, List.setIfInBounds_toArray, List.set_cons_zero, List.set_cons_succ]
                      refine wpAnyH_take (i := 20) (oi := ⟨some 96, Op.indexAddr 47 (Operand.tmp 94) (Operand.tmp 95), 0, _, _, some (10, false)⟩) (v := ?_) rfl (by kernel_rfl) (by kernel_rfl) (by kernel_rfl) (fun _ _ _ h => h) (Or.inl ⟨by rfl, ?_⟩) (by assumption) ?_
                      rotate_left
                      · (intro w hSw; obtain ⟨hS1, hS2⟩ := hSw; go_simp; try with_reducible rfl)
                      try simp only [Act.put, List.setIfInBounds_toArray, List.set_cons_zero, List.set_cons_succ]
                      refine wpAnyH_take (i := 21) (oi := ⟨some 97, Op.load 3 (Operand.tmp 96), 3, _, _, some (10, false)⟩) (v := ?_) rfl (by kernel_rfl) (by kernel_rfl) (by kernel_rfl) (fun _ _ _ h => h) (Or.inl ⟨by rfl, ?_⟩) (by assumption) ?_
                      rotate_left
                      · (intro w hSw; obtain ⟨hS1, hS2⟩ := hSw; go_simp; try with_reducible rfl)
                      try simp only [Act.put, List.setIfInBounds_toArray, List.set_cons_zero, List.set_cons_succ]
                      refine wpAnyH_take (i := 22) (oi := ⟨some 98, Op.build 25 #[(0, Operand.const (Value.int IntKind.i64 0)), (1, Operand.tmp 93), (2, Operand.tmp 97)], 25, _, _, some (10, false)⟩) (v := ?_) rfl (by kernel_rfl) (by kernel_rfl) (by kernel_rfl) (fun _ _ _ h => h) (Or.inl ⟨by rfl, ?_⟩) (by assumption) ?_
                      rotate_left
                      · (intro w hSw; obtain ⟨hS1, hS2⟩ := hSw; go_simp; try with_reducible rfl)
                      try simp only [Act.put, List.setIfInBounds_toArray, List.set_cons_zero, List.set_cons_succ]
                      refine wpAnyH_ready (rs := [11, 12]) (by kernel_rfl) (by simp) ?_
                      refine AllReadyH.cons (i := 11) (o := ⟨some 87, Op.call { callee := Callee.value (Operand.func 21), args := #[], argTypes := #[] }, 22, _, _, some (10, false)⟩) rfl (fun K hK => ?_) ?_
                      · go_simp
                        refine (ex2_any _).mono ?_
                        rintro e w3 ⟨rfl, rfl⟩
                        go_wp2_with fail
                        refine hK.out _ _ (by first | exact HX.out _ HB4.out | exact HX.out _ (al1 HB4.out rfl _) | exact HX.out _ (al2 HB4.out _ _) | exact HX.out _ R0.drew | exact HX.out _ (al1 R0 rfl _).drew | exact HX.out _ (al2 R0 _ _).drew) (fun hHeld => ?_)
                        clear hK K
                        try simp only [Act.put, List.setIfInBounds_toArray, List.set_cons_zero, List.set_cons_succ]
                        refine wpAnyH_ready (rs := [12]) (by kernel_rfl) (by simp) ?_
                        refine AllReadyH.cons (i := 12) (o := ⟨some 88, Op.buildSlice 23 3 #[(0, Operand.const (Value.int IntKind.u8 49)), (1, Operand.const (Value.int IntKind.u8 43)), (2, Operand.const (Value.int IntKind.u8 50))], 23, _, _, some (10, false)⟩) rfl (fun K hK => ?_) ?_
                        · go_simp
                          refine hK.out _ _ (by first | exact HX.out _ HB4.out | exact HX.out _ (al1 HB4.out rfl _) | exact HX.out _ (al2 HB4.out _ _) | exact HX.out _ R0.drew | exact HX.out _ (al1 R0 rfl _).drew | exact HX.out _ (al2 R0 _ _).drew) (fun hHeld => ?_)
                          clear hK K
                          try simp only [Act.put, List.setIfInBounds_toArray, List.set_cons_zero, List.set_cons_succ]
                          refine wpAnyH_ready (rs := [13]) (by kernel_rfl) (by simp) ?_
                          refine AllReadyH.cons (i := 13) (o := ⟨some 89, Op.convert 23 23 (Operand.tmp 88), 23, _, _, some (10, false)⟩) rfl (fun K hK => ?_) ?_
                          · go_simp
                            refine hK.out _ _ (by first | exact HX.out _ HB4.out | exact HX.out _ (al1 HB4.out rfl _) | exact HX.out _ (al2 HB4.out _ _) | exact HX.out _ R0.drew | exact HX.out _ (al1 R0 rfl _).drew | exact HX.out _ (al2 R0 _ _).drew) (fun hHeld => ?_)
                            clear hK K
                            try simp only [Act.put, List.setIfInBounds_toArray, List.set_cons_zero, List.set_cons_succ]
                            refine wpAnyH_ready (rs := [23]) (by kernel_rfl) (by simp) ?_
                            refine AllReadyH.cons (i := 23) (o := ⟨some 99, Op.call { callee := Callee.value (Operand.func 3), args := #[Operand.tmp 87, Operand.tmp 89, Operand.tmp 98], argTypes := #[22, 23, 25] }, 4, _, _, some (10, false)⟩) rfl (fun K hK => ?_) ?_
                            · go_simp
                              first
                                | (go_at_call 3; ((with_reducible refine (tells_any _ _ _ _ _ _ _ exL [49, 43, 50] ex_byt (svA w4).1 (svA w4).2 _ _ _).mono ?_)); rintro e w4 ⟨rfl, hb4⟩; have HB4 := Lib.hid ((al2 HB4.out _ _).trans (hb4.mono (al2 HB4.out _ _).size)); clear hb4)
                                | (go_at_call 3; ((with_reducible refine (tells_any _ _ _ _ _ _ _ exL [49, 43, 50] ex_byt (svB w4).1 (svB w4).2 _ _ _).mono ?_)); rintro e w4 ⟨rfl, hb4⟩; have HB4 := Lib.hid ((al2 HB4.out _ _).trans (hb4.mono (al2 HB4.out _ _).size)); clear hb4)
                                | (go_at_call 3; ((with_reducible refine (tells_any _ _ _ _ _ _ _ exL [49, 43, 50] ex_byt (svA wr).1.drew (svA wr).2.drew _ _ _).mono ?_)); rintro e w4 ⟨rfl, hb4⟩; have HB4 := Lib.hid ((al2 R0 _ _).drew.trans (hb4.mono (al2 R0 _ _).drew.size)); clear hb4)
                                | (go_at_call 3; ((with_reducible refine (tells_any _ _ _ _ _ _ _ exL [49, 43, 50] ex_byt (svB wr).1.drew (svB wr).2.drew _ _ _).mono ?_)); rintro e w4 ⟨rfl, hb4⟩; have HB4 := Lib.hid ((al2 R0 _ _).drew.trans (hb4.mono (al2 R0 _ _).drew.size)); clear hb4)
                              go_wp2_with fail
                              refine hK.out _ _ (by first | exact HX.out _ HB4.out | exact HX.out _ (al1 HB4.out rfl _) | exact HX.out _ (al2 HB4.out _ _) | exact HX.out _ R0.drew | exact HX.out _ (al1 R0 rfl _).drew | exact HX.out _ (al2 R0 _ _).drew) (fun hHeld => ?_)
                              clear hK K
                              try simp only [Act.put, List.setIfInBounds_toArray, List.set_cons_zero, List.set_cons_succ]
                              refine wpAnyH_take (i := 24) (oi := ⟨some 100, Op.unOp UnOp.not 4 (Operand.tmp 99), 4, _, _, some (10, false)⟩) (v := ?_) rfl (by kernel_rfl) (by kernel_rfl) (by kernel_rfl) (fun _ _ _ h => h) (Or.inl ⟨by rfl, ?_⟩) (by assumption) ?_
                              rotate_left
                              · (intro w hSw; obtain ⟨hS1, hS2⟩ := hSw; go_simp; try with_reducible rfl)
                              try simp only [Act.put, List.setIfInBounds_toArray, List.set_cons_zero, List.set_cons_succ]
                              refine wpAnyH_take (i := 25) (oi := ⟨some 101, Op.pick (Operand.tmp 86) (Operand.const (Value.bool true)) (Operand.tmp 100), 4, _, _, none⟩) (v := ?_) rfl (by kernel_rfl) (by kernel_rfl) (by kernel_rfl) (fun _ _ _ h => h) (Or.inl ⟨by rfl, ?_⟩) (by assumption) ?_
                              rotate_left
                              · (intro w hSw; obtain ⟨hS1, hS2⟩ := hSw; go_simp; try with_reducible rfl)
                              try simp only [Act.put, List.setIfInBounds_toArray, List.set_cons_zero, List.set_cons_succ]
                              refine wpAnyH_done (by kernel_rfl) ?_ _
                              refine NoPanic.normal ?_
                              clear kcv0 kcv1 kcv2 kcv0d kcv1d kcv2d
                              go_wp2_with fail
                              go_roundw
                              case rel => exact ⟨j + 1, by omega, by go_num, HJ1.out.trans (HB4.out.mono HJ1.out.size), HJ2.out.below HB4.out⟩
                              case measure => simp [intOf]; omega
                            exact AllReadyH.nil
                          exact AllReadyH.nil
                        exact AllReadyH.nil
                      refine AllReadyH.cons (i := 12) (o := ⟨some 88, Op.buildSlice 23 3 #[(0, Operand.const (Value.int IntKind.u8 49)), (1, Operand.const (Value.int IntKind.u8 43)), (2, Operand.const (Value.int IntKind.u8 50))], 23, _, _, some (10, false)⟩) rfl (fun K hK => ?_) ?_
                      · go_simp
                        refine hK.out _ _ (by first | exact HX.out _ HB4.out | exact HX.out _ (al1 HB4.out rfl _) | exact HX.out _ (al2 HB4.out _ _) | exact HX.out _ R0.drew | exact HX.out _ (al1 R0 rfl _).drew | exact HX.out _ (al2 R0 _ _).drew) (fun hHeld => ?_)
                        clear hK K
                        try simp only [Act.put, List.setIfInBounds_toArray, List.set_cons_zero, List.set_cons_succ]
                        refine wpAnyH_ready (rs := [11, 13]) (by kernel_rfl) (by simp) ?_
                        refine AllReadyH.cons (i := 11) (o := ⟨some 87, Op.call { callee := Callee.value (Operand.func 21), args := #[], argTypes := #[] }, 22, _, _, some (10, false)⟩) rfl (fun K hK => ?_) ?_
                        · go_simp
                          refine (ex2_any _).mono ?_
                          rintro e w3 ⟨rfl, rfl⟩
                          go_wp2_with fail
                          refine hK.out _ _ (by first | exact HX.out _ HB4.out | exact HX.out _ (al1 HB4.out rfl _) | exact HX.out _ (al2 HB4.out _ _) | exact HX.out _ R0.drew | exact HX.out _ (al1 R0 rfl _).drew | exact HX.out _ (al2 R0 _ _).drew) (fun hHeld => ?_)
                          clear hK K
                          try simp only [Act.put, List.setIfInBounds_toArray, List.set_cons_zero, List.set_cons_succ]
                          refine wpAnyH_ready (rs := [13]) (by kernel_rfl) (by simp) ?_
                          refine AllReadyH.cons (i := 13) (o := ⟨some 89, Op.convert 23 23 (Operand.tmp 88), 23, _, _, some (10, false)⟩) rfl (fun K hK => ?_) ?_
                          · go_simp
                            refine hK.out _ _ (by first | exact HX.out _ HB4.out | exact HX.out _ (al1 HB4.out rfl _) | exact HX.out _ (al2 HB4.out _ _) | exact HX.out _ R0.drew | exact HX.out _ (al1 R0 rfl _).drew | exact HX.out _ (al2 R0 _ _).drew) (fun hHeld => ?_)
                            clear hK K
                            try simp only [Act.put, List.setIfInBounds_toArray, List.set_cons_zero, List.set_cons_succ]
                            refine wpAnyH_ready (rs := [23]) (by kernel_rfl) (by simp) ?_
                            refine AllReadyH.cons (i := 23) (o := ⟨some 99, Op.call { callee := Callee.value (Operand.func 3), args := #[Operand.tmp 87, Operand.tmp 89, Operand.tmp 98], argTypes := #[22, 23, 25] }, 4, _, _, some (10, false)⟩) rfl (fun K hK => ?_) ?_
                            · go_simp
                              first
                                | (go_at_call 3; ((with_reducible refine (tells_any _ _ _ _ _ _ _ exL [49, 43, 50] ex_byt (svA w4).1 (svA w4).2 _ _ _).mono ?_)); rintro e w4 ⟨rfl, hb4⟩; have HB4 := Lib.hid ((al2 HB4.out _ _).trans (hb4.mono (al2 HB4.out _ _).size)); clear hb4)
                                | (go_at_call 3; ((with_reducible refine (tells_any _ _ _ _ _ _ _ exL [49, 43, 50] ex_byt (svB w4).1 (svB w4).2 _ _ _).mono ?_)); rintro e w4 ⟨rfl, hb4⟩; have HB4 := Lib.hid ((al2 HB4.out _ _).trans (hb4.mono (al2 HB4.out _ _).size)); clear hb4)
                                | (go_at_call 3; ((with_reducible refine (tells_any _ _ _ _ _ _ _ exL [49, 43, 50] ex_byt (svA wr).1.drew (svA wr).2.drew _ _ _).mono ?_)); rintro e w4 ⟨rfl, hb4⟩; have HB4 := Lib.hid ((al2 R0 _ _).drew.trans (hb4.mono (al2 R0 _ _).drew.size)); clear hb4)
                                | (go_at_call 3; ((with_reducible refine (tells_any _ _ _ _ _ _ _ exL [49, 43, 50] ex_byt (svB wr).1.drew (svB wr).2.drew _ _ _).mono ?_)); rintro e w4 ⟨rfl, hb4⟩; have HB4 := Lib.hid ((al2 R0 _ _).drew.trans (hb4.mono (al2 R0 _ _).drew.size)); clear hb4)
                              go_wp2_with fail
                              refine hK.out _ _ (by first | exact HX.out _ HB4.out | exact HX.out _ (al1 HB4.out rfl _) | exact HX.out _ (al2 HB4.out _ _) | exact HX.out _ R0.drew | exact HX.out _ (al1 R0 rfl _).drew | exact HX.out _ (al2 R0 _ _).drew) (fun hHeld => ?_)
                              clear hK K
                              try simp only [Act.put, List.setIfInBounds_toArray, List.set_cons_zero, List.set_cons_succ]
                              refine wpAnyH_take (i := 24) (oi := ⟨some 100, Op.unOp UnOp.not 4 (Operand.tmp 99), 4, _, _, some (10, false)⟩) (v := ?_) rfl (by kernel_rfl) (by kernel_rfl) (by kernel_rfl) (fun _ _ _ h => h) (Or.inl ⟨by rfl, ?_⟩) (by assumption) ?_
                              rotate_left
                              · (intro w hSw; obtain ⟨hS1, hS2⟩ := hSw; go_simp; try with_reducible rfl)
                              try simp only [Act.put, List.setIfInBounds_toArray, List.set_cons_zero, List.set_cons_succ]
                              refine wpAnyH_take (i := 25) (oi := ⟨some 101, Op.pick (Operand.tmp 86) (Operand.const (Value.bool true)) (Operand.tmp 100), 4, _, _, none⟩) (v := ?_) rfl (by kernel_rfl) (by kernel_rfl) (by kernel_rfl) (fun _ _ _ h => h) (Or.inl ⟨by rfl, ?_⟩) (by assumption) ?_
                              rotate_left
                              · (intro w hSw; obtain ⟨hS1, hS2⟩ := hSw; go_simp; try with_reducible rfl)
                              try simp only [Act.put, List.setIfInBounds_toArray, List.set_cons_zero, List.set_cons_succ]
                              refine wpAnyH_done (by kernel_rfl) ?_ _
                              refine NoPanic.normal ?_
                              clear kcv0 kcv1 kcv2 kcv0d kcv1d kcv2d
                              go_wp2_with fail
                              go_roundw
                              case rel => exact ⟨j + 1, by omega, by go_num, HJ1.out.trans (HB4.out.mono HJ1.out.size), HJ2.out.below HB4.out⟩
                              case measure => simp [intOf]; omega
                            exact AllReadyH.nil
                          exact AllReadyH.nil
                        refine AllReadyH.cons (i := 13) (o := ⟨some 89, Op.convert 23 23 (Operand.tmp 88), 23, _, _, some (10, false)⟩) rfl (fun K hK => ?_) ?_
                        · go_simp
                          refine hK.out _ _ (by first | exact HX.out _ HB4.out | exact HX.out _ (al1 HB4.out rfl _) | exact HX.out _ (al2 HB4.out _ _) | exact HX.out _ R0.drew | exact HX.out _ (al1 R0 rfl _).drew | exact HX.out _ (al2 R0 _ _).drew) (fun hHeld => ?_)
                          clear hK K
                          try simp only [Act.put, List.setIfInBounds_toArray, List.set_cons_zero, List.set_cons_succ]
                          refine wpAnyH_ready (rs := [11]) (by kernel_rfl) (by simp) ?_
                          refine AllReadyH.cons (i := 11) (o := ⟨some 87, Op.call { callee := Callee.value (Operand.func 21), args := #[], argTypes := #[] }, 22, _, _, some (10, false)⟩) rfl (fun K hK => ?_) ?_
                          · go_simp
                            refine (ex2_any _).mono ?_
                            rintro e w3 ⟨rfl, rfl⟩
                            go_wp2_with fail
                            refine hK.out _ _ (by first | exact HX.out _ HB4.out | exact HX.out _ (al1 HB4.out rfl _) | exact HX.out _ (al2 HB4.out _ _) | exact HX.out _ R0.drew | exact HX.out _ (al1 R0 rfl _).drew | exact HX.out _ (al2 R0 _ _).drew) (fun hHeld => ?_)
                            clear hK K
                            try simp only [Act.put, List.setIfInBounds_toArray, List.set_cons_zero, List.set_cons_succ]
                            refine wpAnyH_ready (rs := [23]) (by kernel_rfl) (by simp) ?_
                            refine AllReadyH.cons (i := 23) (o := ⟨some 99, Op.call { callee := Callee.value (Operand.func 3), args := #[Operand.tmp 87, Operand.tmp 89, Operand.tmp 98], argTypes := #[22, 23, 25] }, 4, _, _, some (10, false)⟩) rfl (fun K hK => ?_) ?_
                            · go_simp
                              first
                                | (go_at_call 3; ((with_reducible refine (tells_any _ _ _ _ _ _ _ exL [49, 43, 50] ex_byt (svA w4).1 (svA w4).2 _ _ _).mono ?_)); rintro e w4 ⟨rfl, hb4⟩; have HB4 := Lib.hid ((al2 HB4.out _ _).trans (hb4.mono (al2 HB4.out _ _).size)); clear hb4)
                                | (go_at_call 3; ((with_reducible refine (tells_any _ _ _ _ _ _ _ exL [49, 43, 50] ex_byt (svB w4).1 (svB w4).2 _ _ _).mono ?_)); rintro e w4 ⟨rfl, hb4⟩; have HB4 := Lib.hid ((al2 HB4.out _ _).trans (hb4.mono (al2 HB4.out _ _).size)); clear hb4)
                                | (go_at_call 3; ((with_reducible refine (tells_any _ _ _ _ _ _ _ exL [49, 43, 50] ex_byt (svA wr).1.drew (svA wr).2.drew _ _ _).mono ?_)); rintro e w4 ⟨rfl, hb4⟩; have HB4 := Lib.hid ((al2 R0 _ _).drew.trans (hb4.mono (al2 R0 _ _).drew.size)); clear hb4)
                                | (go_at_call 3; ((with_reducible refine (tells_any _ _ _ _ _ _ _ exL [49, 43, 50] ex_byt (svB wr).1.drew (svB wr).2.drew _ _ _).mono ?_)); rintro e w4 ⟨rfl, hb4⟩; have HB4 := Lib.hid ((al2 R0 _ _).drew.trans (hb4.mono (al2 R0 _ _).drew.size)); clear hb4)
                              go_wp2_with fail
                              refine hK.out _ _ (by first | exact HX.out _ HB4.out | exact HX.out _ (al1 HB4.out rfl _) | exact HX.out _ (al2 HB4.out _ _) | exact HX.out _ R0.drew | exact HX.out _ (al1 R0 rfl _).drew | exact HX.out _ (al2 R0 _ _).drew) (fun hHeld => ?_)
                              clear hK K
                              try simp only [Act.put, List.setIfInBounds_toArray, List.set_cons_zero, List.set_cons_succ]
                              refine wpAnyH_take (i := 24) (oi := ⟨some 100, Op.unOp UnOp.not 4 (Operand.tmp 99), 4, _, _, some (10, false)⟩) (v := ?_) rfl (by kernel_rfl) (by kernel_rfl) (by kernel_rfl) (fun _ _ _ h => h) (Or.inl ⟨by rfl, ?_⟩) (by assumption) ?_
                              rotate_left
                              · (intro w hSw; obtain ⟨hS1, hS2⟩ := hSw; go_simp; try with_reducible rfl)
                              try simp only [Act.put, List.setIfInBounds_toArray, List.set_cons_zero, List.set_cons_succ]
                              refine wpAnyH_take (i := 25) (oi := ⟨some 101, Op.pick (Operand.tmp 86) (Operand.const (Value.bool true)) (Operand.tmp 100), 4, _, _, none⟩) (v := ?_) rfl (by kernel_rfl) (by kernel_rfl) (by kernel_rfl) (fun _ _ _ h => h) (Or.inl ⟨by rfl, ?_⟩) (by assumption) ?_
                              rotate_left
                              · (intro w hSw; obtain ⟨hS1, hS2⟩ := hSw; go_simp; try with_reducible rfl)
                              try simp only [Act.put, List.setIfInBounds_toArray, List.set_cons_zero, List.set_cons_succ]
                              refine wpAnyH_done (by kernel_rfl) ?_ _
                              refine NoPanic.normal ?_
                              clear kcv0 kcv1 kcv2 kcv0d kcv1d kcv2d
                              go_wp2_with fail
                              go_roundw
                              case rel => exact ⟨j + 1, by omega, by go_num, HJ1.out.trans (HB4.out.mono HJ1.out.size), HJ2.out.below HB4.out⟩
                              case measure => simp [intOf]; omega
                            exact AllReadyH.nil
                          exact AllReadyH.nil
                        exact AllReadyH.nil
                      exact AllReadyH.nil
                    exact AllReadyH.nil
                  exact AllReadyH.nil
                refine AllReadyH.cons (i := 2) (o := ⟨some 78, Op.convert 23 23 (Operand.tmp 77), 23, _, _, none⟩) rfl (fun K hK => ?_) ?_
                · go_simp
                  refine hK.out _ _ (by first | exact HX.out _ HB4.out | exact HX.out _ (al1 HB4.out rfl _) | exact HX.out _ (al2 HB4.out _ _) | exact HX.out _ R0.drew | exact HX.out _ (al1 R0 rfl _).drew | exact HX.out _ (al2 R0 _ _).drew) (fun hHeld => ?_)
                  clear hK K
                  try simp only [Act.put, List.setIfInBounds_toArray, List.set_cons_zero, List.set_cons_succ]
                  refine wpAnyH_ready (rs := [0]) (by kernel_rfl) (by simp) ?_
                  refine AllReadyH.cons (i := 0) (o := ⟨some 76, Op.call { callee := Callee.value (Operand.func 21), args := #[], argTypes := #[] }, 22, _, _, none⟩) rfl (fun K hK => ?_) ?_
                  · go_simp
                    refine (ex2_any _).mono ?_
                    rintro e w3 ⟨rfl, rfl⟩
                    go_wp2_with fail
                    refine hK.out _ _ (by first | exact HX.out _ HB4.out | exact HX.out _ (al1 HB4.out rfl _) | exact HX.out _ (al2 HB4.out _ _) | exact HX.out _ R0.drew | exact HX.out _ (al1 R0 rfl _).drew | exact HX.out _ (al2 R0 _ _).drew) (fun hHeld => ?_)
                    clear hK K
                    try simp only [Act.put, List.setIfInBounds_toArray, List.set_cons_zero, List.set_cons_succ]
                    refine wpAnyH_ready (rs := [8]) (by kernel_rfl) (by simp) ?_
                    refine AllReadyH.cons (i := 8) (o := ⟨some 84, Op.call { callee := Callee.value (Operand.func 3), args := #[Operand.tmp 76, Operand.tmp 78, Operand.tmp 83], argTypes := #[22, 23, 25] }, 4, _, _, none⟩) rfl (fun K hK => ?_) ?_
                    · go_simp
                      first
                        | (go_at_call 3; ((with_reducible refine (tells_any _ _ _ _ _ _ _ exL [49, 43, 50] ex_byt (svA w4).1 (svA w4).2 _ _ _).mono ?_)); rintro e w4 ⟨rfl, hb4⟩; have HB4 := Lib.hid ((al2 HB4.out _ _).trans (hb4.mono (al2 HB4.out _ _).size)); clear hb4)
                        | (go_at_call 3; ((with_reducible refine (tells_any _ _ _ _ _ _ _ exL [49, 43, 50] ex_byt (svB w4).1 (svB w4).2 _ _ _).mono ?_)); rintro e w4 ⟨rfl, hb4⟩; have HB4 := Lib.hid ((al2 HB4.out _ _).trans (hb4.mono (al2 HB4.out _ _).size)); clear hb4)
                        | (go_at_call 3; ((with_reducible refine (tells_any _ _ _ _ _ _ _ exL [49, 43, 50] ex_byt (svA wr).1.drew (svA wr).2.drew _ _ _).mono ?_)); rintro e w4 ⟨rfl, hb4⟩; have HB4 := Lib.hid ((al2 R0 _ _).drew.trans (hb4.mono (al2 R0 _ _).drew.size)); clear hb4)
                        | (go_at_call 3; ((with_reducible refine (tells_any _ _ _ _ _ _ _ exL [49, 43, 50] ex_byt (svB wr).1.drew (svB wr).2.drew _ _ _).mono ?_)); rintro e w4 ⟨rfl, hb4⟩; have HB4 := Lib.hid ((al2 R0 _ _).drew.trans (hb4.mono (al2 R0 _ _).drew.size)); clear hb4)
                      go_wp2_with fail
                      refine hK.out _ _ (by first | exact HX.out _ HB4.out | exact HX.out _ (al1 HB4.out rfl _) | exact HX.out _ (al2 HB4.out _ _) | exact HX.out _ R0.drew | exact HX.out _ (al1 R0 rfl _).drew | exact HX.out _ (al2 R0 _ _).drew) (fun hHeld => ?_)
                      clear hK K
                      try simp only [Act.put, List.setIfInBounds_toArray, List.set_cons_zero, List.set_cons_succ]
                      refine wpAnyH_take (i := 9) (oi := ⟨some 85, Op.unOp UnOp.not 4 (Operand.tmp 84), 4, _, _, none⟩) (v := ?_) rfl (by kernel_rfl) (by kernel_rfl) (by kernel_rfl) (fun _ _ _ h => h) (Or.inl ⟨by rfl, ?_⟩) (by assumption) ?_
                      rotate_left
                      · (intro w hSw; obtain ⟨hS1, hS2⟩ := hSw; go_simp; try with_reducible rfl)
                      try simp only [Act.put, List.setIfInBounds_toArray, List.set_cons_zero, List.set_cons_succ]
                      refine wpAnyH_take (i := 10) (oi := ⟨some 86, Op.move (Operand.tmp 85), 4, _, _, none⟩) (v := ?_) rfl (by kernel_rfl) (by kernel_rfl) (by kernel_rfl) (fun _ _ _ h => h) (Or.inl ⟨by rfl, ?_⟩) (by assumption) ?_
                      rotate_left
                      · (intro w hSw; obtain ⟨hS1, hS2⟩ := hSw; go_simp; try with_reducible rfl)
                      try simp only [Act.put, List.setIfInBounds_toArray, List.set_cons_zero, List.set_cons_succ]
                      refine wpAnyH_take (i := 14) (oi := ⟨some 90, Op.move (Operand.tmp 6), 47, _, _, some (10, false)⟩) (v := ?_) rfl (by kernel_rfl) (by kernel_rfl) (by kernel_rfl) (fun _ _ _ h => h) (Or.inl ⟨by rfl, ?_⟩) (by assumption) ?_
                      rotate_left
                      · (intro w hSw; obtain ⟨hS1, hS2⟩ := hSw; go_simp; try with_reducible rfl)
                      try simp only [Act.put, List.setIfInBounds_toArray, List.set_cons_zero, List.set_cons_succ]
                      refine wpAnyH_take (i := 15) (oi := ⟨some 91, Op.move (Operand.tmp 7), 3, _, _, some (10, false)⟩) (v := ?_) rfl (by kernel_rfl) (by kernel_rfl) (by kernel_rfl) (fun _ _ _ h => h) (Or.inl ⟨by rfl, ?_⟩) (by assumption) ?_
                      rotate_left
                      · (intro w hSw; obtain ⟨hS1, hS2⟩ := hSw; go_simp; try with_reducible rfl)
                      try simp only [Act.put, List.setIfInBounds_toArray, List.set_cons_zero, List.set_cons_succ]
                      refine wpAnyH_take (i := 16) (oi := ⟨some 92, Op.indexAddr 47 (Operand.tmp 90) (Operand.tmp 91), 0, _, _, some (10, false)⟩) (v := ?_) rfl (by kernel_rfl) (by kernel_rfl) (by kernel_rfl) (fun _ _ _ h => h) (Or.inl ⟨by rfl, ?_⟩) (by assumption) ?_
                      rotate_left
                      · (intro w hSw; obtain ⟨hS1, hS2⟩ := hSw; go_simp; try with_reducible rfl)
                      try simp only [Act.put, List.setIfInBounds_toArray, List.set_cons_zero, List.set_cons_succ]
                      refine wpAnyH_take (i := 17) (oi := ⟨some 93, Op.load 3 (Operand.tmp 92), 3, _, _, some (10, false)⟩) (v := ?_) rfl (by kernel_rfl) (by kernel_rfl) (by kernel_rfl) (fun _ _ _ h => h) (Or.inl ⟨by rfl, ?_⟩) (by assumption) ?_
                      rotate_left
                      · (intro w hSw; obtain ⟨hS1, hS2⟩ := hSw; go_simp; try with_reducible rfl)
                      try simp only [Act.put, List.setIfInBounds_toArray, List.set_cons_zero, List.set_cons_succ]
                      refine wpAnyH_take (i := 18) (oi := ⟨some 94, Op.move (Operand.tmp 6), 47, _, _, some (10, false)⟩) (v := ?_) rfl (by kernel_rfl) (by kernel_rfl) (by kernel_rfl) (fun _ _ _ h => h) (Or.inl ⟨by rfl, ?_⟩) (by assumption) ?_
                      rotate_left
                      · (intro w hSw; obtain ⟨hS1, hS2⟩ := hSw; go_simp; try with_reducible rfl)
                      try simp only [Act.put, List.setIfInBounds_toArray, List.set_cons_zero, List.set_cons_succ]
                      refine wpAnyH_take (i := 19) (oi := ⟨some 95, Op.move (Operand.tmp 8), 3, _, _, some (10, false)⟩) (v := ?_) rfl (by kernel_rfl) (by kernel_rfl) (by kernel_rfl) (fun _ _ _ h => h) (Or.inl ⟨by rfl, ?_⟩) (by assumption) ?_
                      rotate_left
                      · (intro w hSw; obtain ⟨hS1, hS2⟩ := hSw; go_simp; try with_reducible rfl)
                      try simp only [Act.put, List.setIfInBounds_toArray, List.set_cons_zero, List.set_cons_succ]
                      refine wpAnyH_take (i := 20) (oi := ⟨some 96, Op.indexAddr 47 (Operand.tmp 94) (Operand.tmp 95), 0, _, _, some (10, false)⟩) (v := ?_) rfl (by kernel_rfl) (by kernel_rfl) (by kernel_rfl) (fun _ _ _ h => h) (Or.inl ⟨by rfl, ?_⟩) (by assumption) ?_
                      rotate_left
                      · (intro w hSw; obtain ⟨hS1, hS2⟩ := hSw; go_simp; try with_reducible rfl)
                      try simp only [Act.put, List.setIfInBounds_toArray, List.set_cons_zero, List.set_cons_succ]
                      refine wpAnyH_take (i := 21) (oi := ⟨some 97, Op.load 3 (Operand.tmp 96), 3, _, _, some (10, false)⟩) (v := ?_) rfl (by kernel_rfl) (by kernel_rfl) (by kernel_rfl) (fun _ _ _ h => h) (Or.inl ⟨by rfl, ?_⟩) (by assumption) ?_
                      rotate_left
                      · (intro w hSw; obtain ⟨hS1, hS2⟩ := hSw; go_simp; try with_reducible rfl)
                      try simp only [Act.put, List.setIfInBounds_toArray, List.set_cons_zero, List.set_cons_succ]
                      refine wpAnyH_take (i := 22) (oi := ⟨some 98, Op.build 25 #[(0, Operand.const (Value.int IntKind.i64 0)), (1, Operand.tmp 93), (2, Operand.tmp 97)], 25, _, _, some (10, false)⟩) (v := ?_) rfl (by kernel_rfl) (by kernel_rfl) (by kernel_rfl) (fun _ _ _ h => h) (Or.inl ⟨by rfl, ?_⟩) (by assumption) ?_
                      rotate_left
                      · (intro w hSw; obtain ⟨hS1, hS2⟩ := hSw; go_simp; try with_reducible rfl)
                      try simp only [Act.put, List.setIfInBounds_toArray, List.set_cons_zero, List.set_cons_succ]
                      refine wpAnyH_ready (rs := [11, 12]) (by kernel_rfl) (by simp) ?_
                      refine AllReadyH.cons (i := 11) (o := ⟨some 87, Op.call { callee := Callee.value (Operand.func 21), args := #[], argTypes := #[] }, 22, _, _, some (10, false)⟩) rfl (fun K hK => ?_) ?_
                      · go_simp
                        refine (ex2_any _).mono ?_
                        rintro e w3 ⟨rfl, rfl⟩
                        go_wp2_with fail
                        refine hK.out _ _ (by first | exact HX.out _ HB4.out | exact HX.out _ (al1 HB4.out rfl _) | exact HX.out _ (al2 HB4.out _ _) | exact HX.out _ R0.drew | exact HX.out _ (al1 R0 rfl _).drew | exact HX.out _ (al2 R0 _ _).drew) (fun hHeld => ?_)
                        clear hK K
                        try simp only [Act.put, List.setIfInBounds_toArray, List.set_cons_zero, List.set_cons_succ]
                        refine wpAnyH_ready (rs := [12]) (by kernel_rfl) (by simp) ?_
                        refine AllReadyH.cons (i := 12) (o := ⟨some 88, Op.buildSlice 23 3 #[(0, Operand.const (Value.int IntKind.u8 49)), (1, Operand.const (Value.int IntKind.u8 43)), (2, Operand.const (Value.int IntKind.u8 50))], 23, _, _, some (10, false)⟩) rfl (fun K hK => ?_) ?_
                        · go_simp
                          refine hK.out _ _ (by first | exact HX.out _ HB4.out | exact HX.out _ (al1 HB4.out rfl _) | exact HX.out _ (al2 HB4.out _ _) | exact HX.out _ R0.drew | exact HX.out _ (al1 R0 rfl _).drew | exact HX.out _ (al2 R0 _ _).drew) (fun hHeld => ?_)
                          clear hK K
                          try simp only [Act.put, List.setIfInBounds_toArray, List.set_cons_zero, List.set_cons_succ]
                          refine wpAnyH_ready (rs := [13]) (by kernel_rfl) (by simp) ?_
                          refine AllReadyH.cons (i := 13) (o := ⟨some 89, Op.convert 23 23 (Operand.tmp 88), 23, _, _, some (10, false)⟩) rfl (fun K hK => ?_) ?_
                          · go_simp
                            refine hK.out _ _ (by first | exact HX.out _ HB4.out | exact HX.out _ (al1 HB4.out rfl _) | exact HX.out _ (al2 HB4.out _ _) | exact HX.out _ R0.drew | exact HX.out _ (al1 R0 rfl _).drew | exact HX.out _ (al2 R0 _ _).drew) (fun hHeld => ?_)
                            clear hK K
                            try simp only [Act.put, List.setIfInBounds_toArray, List.set_cons_zero, List.set_cons_succ]
                            refine wpAnyH_ready (rs := [23]) (by kernel_rfl) (by simp) ?_
                            refine AllReadyH.cons (i := 23) (o := ⟨some 99, Op.call { callee := Callee.value (Operand.func 3), args := #[Operand.tmp 87, Operand.tmp 89, Operand.tmp 98], argTypes := #[22, 23, 25] }, 4, _, _, some (10, false)⟩) rfl (fun K hK => ?_) ?_
                            · go_simp
                              first
                                | (go_at_call 3; ((with_reducible refine (tells_any _ _ _ _ _ _ _ exL [49, 43, 50] ex_byt (svA w4).1 (svA w4).2 _ _ _).mono ?_)); rintro e w4 ⟨rfl, hb4⟩; have HB4 := Lib.hid ((al2 HB4.out _ _).trans (hb4.mono (al2 HB4.out _ _).size)); clear hb4)
                                | (go_at_call 3; ((with_reducible refine (tells_any _ _ _ _ _ _ _ exL [49, 43, 50] ex_byt (svB w4).1 (svB w4).2 _ _ _).mono ?_)); rintro e w4 ⟨rfl, hb4⟩; have HB4 := Lib.hid ((al2 HB4.out _ _).trans (hb4.mono (al2 HB4.out _ _).size)); clear hb4)
                                | (go_at_call 3; ((with_reducible refine (tells_any _ _ _ _ _ _ _ exL [49, 43, 50] ex_byt (svA wr).1.drew (svA wr).2.drew _ _ _).mono ?_)); rintro e w4 ⟨rfl, hb4⟩; have HB4 := Lib.hid ((al2 R0 _ _).drew.trans (hb4.mono (al2 R0 _ _).drew.size)); clear hb4)
                                | (go_at_call 3; ((with_reducible refine (tells_any _ _ _ _ _ _ _ exL [49, 43, 50] ex_byt (svB wr).1.drew (svB wr).2.drew _ _ _).mono ?_)); rintro e w4 ⟨rfl, hb4⟩; have HB4 := Lib.hid ((al2 R0 _ _).drew.trans (hb4.mono (al2 R0 _ _).drew.size)); clear hb4)
                              go_wp2_with fail
                              refine hK.out _ _ (by first | exact HX.out _ HB4.out | exact HX.out _ (al1 HB4.out rfl _) | exact HX.out _ (al2 HB4.out _ _) | exact HX.out _ R0.drew | exact HX.out _ (al1 R0 rfl _).drew | exact HX.out _ (al2 R0 _ _).drew) (fun hHeld => ?_)
                              clear hK K
                              try simp only [Act.put, List.setIfInBounds_toArray, List.set_cons_zero, List.set_cons_succ]
                              refine wpAnyH_take (i := 24) (oi := ⟨some 100, Op.unOp UnOp.not 4 (Operand.tmp 99), 4, _, _, some (10, false)⟩) (v := ?_) rfl (by kernel_rfl) (by kernel_rfl) (by kernel_rfl) (fun _ _ _ h => h) (Or.inl ⟨by rfl, ?_⟩) (by assumption) ?_
                              rotate_left
                              · (intro w hSw; obtain ⟨hS1, hS2⟩ := hSw; go_simp; try with_reducible rfl)
                              try simp only [Act.put, List.setIfInBounds_toArray, List.set_cons_zero, List.set_cons_succ]
                              refine wpAnyH_take (i := 25) (oi := ⟨some 101, Op.pick (Operand.tmp 86) (Operand.const (Value.bool true)) (Operand.tmp 100), 4, _, _, none⟩) (v := ?_) rfl (by kernel_rfl) (by kernel_rfl) (by kernel_rfl) (fun _ _ _ h => h) (Or.inl ⟨by rfl, ?_⟩) (by assumption) ?_
                              rotate_left
                              · (intro w hSw; obtain ⟨hS1, hS2⟩ := hSw; go_simp; try with_reducible rfl)
                              try simp only [Act.put, List.setIfInBounds_toArray, List.set_cons_zero, List.set_cons_succ]
                              refine wpAnyH_done (by kernel_rfl) ?_ _
                              refine NoPanic.normal ?_
                              clear kcv0 kcv1 kcv2 kcv0d kcv1d kcv2d
                              go_wp2_with fail
                              go_roundw
                              case rel => exact ⟨j + 1, by omega, by go_num, HJ1.out.trans (HB4.out.mono HJ1.out.size), HJ2.out.below HB4.out⟩
                              case measure => simp [intOf]; omega
                            exact AllReadyH.nil
                          exact AllReadyH.nil
                        exact AllReadyH.nil
                      refine AllReadyH.cons (i := 12) (o := ⟨some 88, Op.buildSlice 23 3 #[(0, Operand.const (Value.int IntKind.u8 49)), (1, Operand.const (Value.int IntKind.u8 43)), (2, Operand.const (Value.int IntKind.u8 50))], 23, _, _, some (10, false)⟩) rfl (fun K hK => ?_) ?_
                      · go_simp
                        refine hK.out _ _ (by first | exact HX.out _ HB4.out | exact HX.out _ (al1 HB4.out rfl _) | exact HX.out _ (al2 HB4.out _ _) | exact HX.out _ R0.drew | exact HX.out _ (al1 R0 rfl _).drew | exact HX.out _ (al2 R0 _ _).drew) (fun hHeld => ?_)
                        clear hK K
                        try simp only [Act.put, List.setIfInBounds_toArray, List.set_cons_zero, List.set_cons_succ]
                        refine wpAnyH_ready (rs := [11, 13]) (by kernel_rfl) (by simp) ?_
                        refine AllReadyH.cons (i := 11) (o := ⟨some 87, Op.call { callee := Callee.value (Operand.func 21), args := #[], argTypes := #[] }, 22, _, _, some (10, false)⟩) rfl (fun K hK => ?_) ?_
                        · go_simp
                          refine (ex2_any _).mono ?_
                          rintro e w3 ⟨rfl, rfl⟩
                          go_wp2_with fail
                          refine hK.out _ _ (by first | exact HX.out _ HB4.out | exact HX.out _ (al1 HB4.out rfl _) | exact HX.out _ (al2 HB4.out _ _) | exact HX.out _ R0.drew | exact HX.out _ (al1 R0 rfl _).drew | exact HX.out _ (al2 R0 _ _).drew) (fun hHeld => ?_)
                          clear hK K
                          try simp only [Act.put, List.setIfInBounds_toArray, List.set_cons_zero, List.set_cons_succ]
                          refine wpAnyH_ready (rs := [13]) (by kernel_rfl) (by simp) ?_
                          refine AllReadyH.cons (i := 13) (o := ⟨some 89, Op.convert 23 23 (Operand.tmp 88), 23, _, _, some (10, false)⟩) rfl (fun K hK => ?_) ?_
                          · go_simp
                            refine hK.out _ _ (by first | exact HX.out _ HB4.out | exact HX.out _ (al1 HB4.out rfl _) | exact HX.out _ (al2 HB4.out _ _) | exact HX.out _ R0.drew | exact HX.out _ (al1 R0 rfl _).drew | exact HX.out _ (al2 R0 _ _).drew) (fun hHeld => ?_)
                            clear hK K
                            try simp only [Act.put, List.setIfInBounds_toArray, List.set_cons_zero, List.set_cons_succ]
                            refine wpAnyH_ready (rs := [23]) (by kernel_rfl) (by simp) ?_
                            refine AllReadyH.cons (i := 23) (o := ⟨some 99, Op.call { callee := Callee.value (Operand.func 3), args := #[Operand.tmp 87, Operand.tmp 89, Operand.tmp 98], argTypes := #[22, 23, 25] }, 4, _, _, some (10, false)⟩) rfl (fun K hK => ?_) ?_
                            · go_simp
                              first
                                | (go_at_call 3; ((with_reducible refine (tells_any _ _ _ _ _ _ _ exL [49, 43, 50] ex_byt (svA w4).1 (svA w4).2 _ _ _).mono ?_)); rintro e w4 ⟨rfl, hb4⟩; have HB4 := Lib.hid ((al2 HB4.out _ _).trans (hb4.mono (al2 HB4.out _ _).size)); clear hb4)
                                | (go_at_call 3; ((with_reducible refine (tells_any _ _ _ _ _ _ _ exL [49, 43, 50] ex_byt (svB w4).1 (svB w4).2 _ _ _).mono ?_)); rintro e w4 ⟨rfl, hb4⟩; have HB4 := Lib.hid ((al2 HB4.out _ _).trans (hb4.mono (al2 HB4.out _ _).size)); clear hb4)
                                | (go_at_call 3; ((with_reducible refine (tells_any _ _ _ _ _ _ _ exL [49, 43, 50] ex_byt (svA wr).1.drew (svA wr).2.drew _ _ _).mono ?_)); rintro e w4 ⟨rfl, hb4⟩; have HB4 := Lib.hid ((al2 R0 _ _).drew.trans (hb4.mono (al2 R0 _ _).drew.size)); clear hb4)
                                | (go_at_call 3; ((with_reducible refine (tells_any _ _ _ _ _ _ _ exL [49, 43, 50] ex_byt (svB wr).1.drew (svB wr).2.drew _ _ _).mono ?_)); rintro e w4 ⟨rfl, hb4⟩; have HB4 := Lib.hid ((al2 R0 _ _).drew.trans (hb4.mono (al2 R0 _ _).drew.size)); clear hb4)
                              go_wp2_with fail
                              refine hK.out _ _ (by first | exact HX.out _ HB4.out | exact HX.out _ (al1 HB4.out rfl _) | exact HX.out _ (al2 HB4.out _ _) | exact HX.out _ R0.drew | exact HX.out _ (al1 R0 rfl _).drew | exact HX.out _ (al2 R0 _ _).drew) (fun hHeld => ?_)
                              clear hK K
                              try simp only [Act.put, List.setIfInBounds_toArray, List.set_cons_zero, List.set_cons_succ]
                              refine wpAnyH_take (i := 24) (oi := ⟨some 100, Op.unOp UnOp.not 4 (Operand.tmp 99), 4, _, _, some (10, false)⟩) (v := ?_) rfl (by kernel_rfl) (by kernel_rfl) (by kernel_rfl) (fun _ _ _ h => h) (Or.inl ⟨by rfl, ?_⟩) (by assumption) ?_
                              rotate_left
                              · (intro w hSw; obtain ⟨hS1, hS2⟩ := hSw; go_simp; try with_reducible rfl)
                              try simp only [Act.put, List.setIfInBounds_toArray, List.set_cons_zero, List.set_cons_succ]
                              refine wpAnyH_take (i := 25) (oi := ⟨some 101, Op.pick (Operand.tmp 86) (Operand.const (Value.bool true)) (Operand.tmp 100), 4, _, _, none⟩) (v := ?_) rfl (by kernel_rfl) (by kernel_rfl) (by kernel_rfl) (fun _ _ _ h => h) (Or.inl ⟨by rfl, ?_⟩) (by assumption) ?_
                              rotate_left
                              · (intro w hSw; obtain ⟨hS1, hS2⟩ := hSw; go_simp; try with_reducible rfl)
                              try simp only [Act.put, List.setIfInBounds_toArray, List.set_cons_zero, List.set_cons_succ]
                              refine wpAnyH_done (by kernel_rfl) ?_ _
                              refine NoPanic.normal ?_
                              clear kcv0 kcv1 kcv2 kcv0d kcv1d kcv2d
                              go_wp2_with fail
                              go_roundw
                              case rel => exact ⟨j + 1, by omega, by go_num, HJ1.out.trans (HB4.out.mono HJ1.out.size), HJ2.out.below HB4.out⟩
                              case measure => simp [intOf]; omega
                            exact AllReadyH.nil
                          exact AllReadyH.nil
                        refine AllReadyH.cons (i := 13) (o := ⟨some 89, Op.convert 23 23 (Operand.tmp 88), 23, _, _, some (10, false)⟩) rfl (fun K hK => ?_) ?_
                        · go_simp
                          refine hK.out _ _ (by first | exact HX.out _ HB4.out | exact HX.out _ (al1 HB4.out rfl _) | exact HX.out _ (al2 HB4.out _ _) | exact HX.out _ R0.drew | exact HX.out _ (al1 R0 rfl _).drew | exact HX.out _ (al2 R0 _ _).drew) (fun hHeld => ?_)
                          clear hK K
                          try simp only [Act.put, List.setIfInBounds_toArray, List.set_cons_zero, List.set_cons_succ]
                          refine wpAnyH_ready (rs := [11]) (by kernel_rfl) (by simp) ?_
                          refine AllReadyH.cons (i := 11) (o := ⟨some 87, Op.call { callee := Callee.value (Operand.func 21), args := #[], argTypes := #[] }, 22, _, _, some (10, false)⟩) rfl (fun K hK => ?_) ?_
                          · go_simp
                            refine (ex2_any _).mono ?_
                            rintro e w3 ⟨rfl, rfl⟩
                            go_wp2_with fail
                            refine hK.out _ _ (by first | exact HX.out _ HB4.out | exact HX.out _ (al1 HB4.out rfl _) | exact HX.out _ (al2 HB4.out _ _) | exact HX.out _ R0.drew | exact HX.out _ (al1 R0 rfl _).drew | exact HX.out _ (al2 R0 _ _).drew) (fun hHeld => ?_)
                            clear hK K
                            try simp only [Act.put, List.setIfInBounds_toArray, List.set_cons_zero, List.set_cons_succ]
                            refine wpAnyH_ready (rs := [23]) (by kernel_rfl) (by simp) ?_
                            refine AllReadyH.cons (i := 23) (o := ⟨some 99, Op.call { callee := Callee.value (Operand.func 3), args := #[Operand.tmp 87, Operand.tmp 89, Operand.tmp 98], argTypes := #[22, 23, 25] }, 4, _, _, some (10, false)⟩) rfl (fun K hK => ?_) ?_
                            · go_simp
                              first
                                | (go_at_call 3; ((with_reducible refine (tells_any _ _ _ _ _ _ _ exL [49, 43, 50] ex_byt (svA w4).1 (svA w4).2 _ _ _).mono ?_)); rintro e w4 ⟨rfl, hb4⟩; have HB4 := Lib.hid ((al2 HB4.out _ _).trans (hb4.mono (al2 HB4.out _ _).size)); clear hb4)
                                | (go_at_call 3; ((with_reducible refine (tells_any _ _ _ _ _ _ _ exL [49, 43, 50] ex_byt (svB w4).1 (svB w4).2 _ _ _).mono ?_)); rintro e w4 ⟨rfl, hb4⟩; have HB4 := Lib.hid ((al2 HB4.out _ _).trans (hb4.mono (al2 HB4.out _ _).size)); clear hb4)
                                | (go_at_call 3; ((with_reducible refine (tells_any _ _ _ _ _ _ _ exL [49, 43, 50] ex_byt (svA wr).1.drew (svA wr).2.drew _ _ _).mono ?_)); rintro e w4 ⟨rfl, hb4⟩; have HB4 := Lib.hid ((al2 R0 _ _).drew.trans (hb4.mono (al2 R0 _ _).drew.size)); clear hb4)
                                | (go_at_call 3; ((with_reducible refine (tells_any _ _ _ _ _ _ _ exL [49, 43, 50] ex_byt (svB wr).1.drew (svB wr).2.drew _ _ _).mono ?_)); rintro e w4 ⟨rfl, hb4⟩; have HB4 := Lib.hid ((al2 R0 _ _).drew.trans (hb4.mono (al2 R0 _ _).drew.size)); clear hb4)
                              go_wp2_with fail
                              refine hK.out _ _ (by first | exact HX.out _ HB4.out | exact HX.out _ (al1 HB4.out rfl _) | exact HX.out _ (al2 HB4.out _ _) | exact HX.out _ R0.drew | exact HX.out _ (al1 R0 rfl _).drew | exact HX.out _ (al2 R0 _ _).drew) (fun hHeld => ?_)
                              clear hK K
                              try simp only [Act.put, List.setIfInBounds_toArray, List.set_cons_zero, List.set_cons_succ]
                              refine wpAnyH_take (i := 24) (oi := ⟨some 100, Op.unOp UnOp.not 4 (Operand.tmp 99), 4, _, _, some (10, false)⟩) (v := ?_) rfl (by kernel_rfl) (by kernel_rfl) (by kernel_rfl) (fun _ _ _ h => h) (Or.inl ⟨by rfl, ?_⟩) (by assumption) ?_
                              rotate_left
                              · (intro w hSw; obtain ⟨hS1, hS2⟩ := hSw; go_simp; try with_reducible rfl)
                              try simp only [Act.put, List.setIfInBounds_toArray, List.set_cons_zero, List.set_cons_succ]
                              refine wpAnyH_take (i := 25) (oi := ⟨some 101, Op.pick (Operand.tmp 86) (Operand.const (Value.bool true)) (Operand.tmp 100), 4, _, _, none⟩) (v := ?_) rfl (by kernel_rfl) (by kernel_rfl) (by kernel_rfl) (fun _ _ _ h => h) (Or.inl ⟨by rfl, ?_⟩) (by assumption) ?_
                              rotate_left
                              · (intro w hSw; obtain ⟨hS1, hS2⟩ := hSw; go_simp; try with_reducible rfl)
                              try simp only [Act.put, List.setIfInBounds_toArray, List.set_cons_zero, List.set_cons_succ]
                              refine wpAnyH_done (by kernel_rfl) ?_ _
                              refine NoPanic.normal ?_
                              clear kcv0 kcv1 kcv2 kcv0d kcv1d kcv2d
                              go_wp2_with fail
                              go_roundw
                              case rel => exact ⟨j + 1, by omega, by go_num, HJ1.out.trans (HB4.out.mono HJ1.out.size), HJ2.out.below HB4.out⟩
                              case measure => simp [intOf]; omega
                            exact AllReadyH.nil
                          exact AllReadyH.nil
                        exact AllReadyH.nil
                      exact AllReadyH.nil
                    exact AllReadyH.nil
                  exact AllReadyH.nil
                exact AllReadyH.nil
              exact AllReadyH.nil
            · obtain rfl : j = 7 := by omega
              go_wp2_with fail
              go_roundw
              case rel => exact ⟨i + 1, by omega, by go_num, hJ.out⟩
              case measure => simp [intOf]; omega
        · obtain rfl : i = 7 := by omega
          have HB := Lib.hid hI.out.1
          clear hI HEc HrE HBE
          have kcv1 := fun (w : World) (C : Array Value) (n c : Nat) (o : Obj) => cv1 (P := Try.prog) w 23 5 C n c o Try.underlying23 Try.underlying5
          have kcv0 := fun (w : World) (C : Array Value) (n c : Nat) => cv0 (P := Try.prog) w 23 5 C n c Try.underlying23 Try.underlying5
          go_wp2_with fail
          have HB1 := Lib.hid (al1 HB.out rfl (.cells #[.int .u8 49] 5 (1, 2)))
          have HS1 := Lib.hid (Sv.const wo 5 #[.int .u8 49] (1, 2) 1 (by decide) rfl)
          generalize wo.alloc (.cells #[.int .u8 49] 5 (1, 2)) = w1 at *
          refine (tells_any _ _ _ _ _ _ _ [] [49] (fun _ h => absurd h List.not_mem_nil) (Sv.nil _ 2) HS1.out _ _ _).mono ?_
          rintro e w2 ⟨rfl, hb2⟩
          have HB2 := Lib.hid (HB1.out.trans (hb2.mono HB1.out.size))
          clear hb2 HS1 HB1
          go_wp2_with fail
          have HS2 := Lib.hid (svC w2)
          have HB3 := Lib.hid (al2 HB2.out (.cells #[.int .u8 49, .bool false] 43) (.cells #[.int .u8 49] 5 (1, 2)))
          generalize (w2.alloc (.cells #[.int .u8 49, .bool false] 43)).alloc (.cells #[.int .u8 49] 5 (1, 2)) = w3 at *
          refine (tells_any _ _ _ _ _ _ _ [(49, false)] [49] (by intro o ho; simp only [List.mem_singleton] at ho; subst ho; decide) HS2.out.1 HS2.out.2 _ _ _).mono ?_
          rintro e w4 ⟨rfl, hb4⟩
          have HB4 := Lib.hid (HB3.out.trans (hb4.mono HB3.out.size))
          clear hb4 HS2 HB3 HB2
          go_wp2_with fail
          refine (ex2_any _).mono ?_
          rintro e w5 ⟨rfl, hw5⟩
          have HS5 : Hid (Sv w5 (some ⟨w4.heap.size, 0, none⟩) 2 2 2 (opc exL)) := hw5 ▸ Sv.lit w4 43 #[.int .u8 43, .bool false, .int .u8 94, .bool true] 2 2 (by decide) rfl
          have HB5 : Hid (Below w.heap.size w w5) := hw5 ▸ al1 HB4.out rfl _
          clear hw5 HB4
          go_wp2_with fail
          refine (tells_any _ _ _ _ _ _ _ exL [] ex_byt HS5.out (Sv.nil _ 1) _ _ _).mono ?_
          rintro e w6 ⟨rfl, hb6⟩
          have HB6 := Lib.hid (HB5.out.trans (hb6.mono HB5.out.size))
          clear hb6 HS5 HB5
          go_wp2_with fail
          refine (awake_any _).mono ?_
          rintro e w7 ⟨rfl, hb7⟩
          have HB7 := Lib.hid (HB6.out.trans (hb7.mono HB6.out.size))
          clear hb7
          go_wp2_with fail
          go_ret
          exact ⟨rfl, HB7.out⟩
end Go.Proofs.Ytmpccinbeepbgaa
