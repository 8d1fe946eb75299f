/- Walks and plain laws: Lj Lk. -/
import Derived.Test.YtdnkffplkleolaaM07
namespace Go.Proofs.Ytdnkffplkleolaa
open Go.RowKit
set_option maxRecDepth 100000
set_option maxHeartbeats 2000000

def infN (r l : Int) (s : ByteArray) (r2 : Int) : List Nd := ofN 6 [callN r l, wordN s, callN r r2]
theorem infix_any (w : World) (r l : Int) (s : ByteArray) (hs : s.size ≤ 5000) (r2 : Int) : Calls Try.prog 30 #[.int .i64 r, .int .i64 l, .string s, .int .i64 r2] w (Mk w (infN r l s r2)) := by
 have ok1 : okN (callN r l) := by unfold okN callN; simp; decide
 have ok2 : okN (wordN s) := by unfold okN wordN; simpa using hs
 have ok3 : okN (callN r r2) := by unfold okN callN; simp; decide
 have O1 := Lib.hid ok1; have O2 := Lib.hid ok2; have O3 := Lib.hid ok3
 have B0 := Lib.hid (Below.refl w.heap.size w)
 clear hs ok1 ok2 ok3
 go_enter Try.func30, Try.ntmps30
 go_wp2_with fail
 refine (call_any' _ r l).mono ?_
 rintro e x1 hm
 obtain ⟨o1, n1, c1, rfl, A1, b1⟩ := hm.ars O1.out
 have H1 := Lib.hid A1
 have B1 := Lib.hid (B0.out.trans (b1.mono B0.out.size))
 clear A1 b1 B0
 go_wp2_with fail
 refine (word_any _ s).mono ?_
 rintro e x2 hm
 obtain ⟨o2, n2, c2, rfl, A2, b2⟩ := hm.ars O2.out
 have H1 := Lib.hid (H1.out.below b2)
 have H2 := Lib.hid A2
 have B2 := Lib.hid (B1.out.trans (b2.mono B1.out.size))
 clear A2 b2 B1
 go_wp2_with fail
 refine (call_any' _ r r2).mono ?_
 rintro e x3 hm
 obtain ⟨o3, n3, c3, rfl, A3, b3⟩ := hm.ars O3.out
 have H1 := Lib.hid (H1.out.below b3)
 have H2 := Lib.hid (H2.out.below b3)
 have H3 := Lib.hid A3
 have B3 := Lib.hid (B2.out.trans (b3.mono B2.out.size))
 clear A3 b3 B2
 have HO := Lib.hid (ofs_any x3 6 [(.slice o1 n1 c1, callN r l), (.slice o2 n2 c2, wordN s), (.slice o3 n3 c3, callN r r2)] 3 rfl (by decide) (by simp only [List.mem_cons, List.not_mem_nil, or_false, forall_eq_or_imp, forall_eq]; exact ⟨H1.out, H2.out, H3.out⟩) (by simp only [List.mem_cons, List.not_mem_nil, or_false, forall_eq_or_imp, forall_eq]; exact ⟨O1.out, O2.out, O3.out⟩))
 go_wp2_with fail
 refine (HO.out).mono ?_
 rintro e x4 hm
 obtain ⟨v, NL, rfl, h1, h2, h3⟩ := hm.since B3.out
 go_wp2_with fail
 go_ret
 exact ⟨v, NL, rfl, h1, h2, h3⟩

/-- The bytes of "ab+", one behind the other. -/
def amS : Nat → Array Value
 | 0 => #[.int .u64 0, .int .u64 0, .int .u64 0, .int .u64 0]
 | 1 => #[.int .u64 0, .int .u64 8589934592, .int .u64 0, .int .u64 0]
 | 2 => #[.int .u64 0, .int .u64 25769803776, .int .u64 0, .int .u64 0]
 | _ => #[.int .u64 8796093022208, .int .u64 25769803776, .int .u64 0, .int .u64 0]
def abpN : List Nd := [⟨3, 8796093022208, 25769803776, 0, 0, es0, 0, 0, []⟩]
theorem among_any (w : World) : Calls Try.prog 32 #[.string ⟨#[97, 98, 43]⟩] w (Mk w abpN) := by
 have HB0 := Lib.hid ((Below.refl w.heap.size w).alloc (Nat.le_refl _) (.cells #[.int .u64 0, .int .u64 0, .int .u64 0, .int .u64 0] 54))
 have HZ0 : Hid (hrow (w.alloc (.cells #[.int .u64 0, .int .u64 0, .int .u64 0, .int .u64 0] 54)) w.heap.size (amS 0) 54) := hrow.new w (amS 0) 54
 go_enter Try.func32, Try.ntmps32
 go_upto_region 2 with (fail)
 revert HB0 HZ0
 generalize w.alloc _ = w1
 generalize hg : w.heap.size = g
 intro HB0 HZ0
 have HG : Hid (w.heap.size ≤ g) := by rw [hg]; exact Nat.le_refl g
 have HGe : Hid (w.heap.size = g) := hg
 have HB1 : Hid (Below w.heap.size w w1) := by rw [hg]; exact HB0.out
 clear HB0 hg
 go_wp2_with fail
 go_loopw [4] (fun i wr => ∃ k : Nat, k ≤ 3 ∧ i = .int .i64 k ∧ Hid (hrow wr g (amS k) 54) ∧ Hid (Below w.heap.size w wr)) (fun i _ => 3 - (intOf i).toNat)
 case atStart => exact ⟨0, by omega, rfl, HZ0, HB1⟩
 case round =>
  obtain ⟨k, hk, rfl, HR, HB⟩ := hrel
  clear HZ0 HB1
  have hkk : k = 0 ∨ k = 1 ∨ k = 2 ∨ k = 3 := by omega
  have e0 : ((⟨#[97, 98, 43]⟩ : ByteArray)[0]'(by decide)).toNat = 97 := rfl
  have e1 : ((⟨#[97, 98, 43]⟩ : ByteArray)[1]'(by decide)).toNat = 98 := rfl
  have e2 : ((⟨#[97, 98, 43]⟩ : ByteArray)[2]'(by decide)).toNat = 43 := rfl
  have b1 : bits .or .u64 0 8589934592 = 8589934592 := by kernel_rfl
  have b2 : bits .or .u64 8589934592 17179869184 = 25769803776 := by kernel_rfl
  have b3 : bits .or .u64 0 8796093022208 = 8796093022208 := by kernel_rfl
  rcases hkk with rfl | rfl | rfl | rfl
  ·have c0 : wr.cell? ⟨g, 0, none⟩ = some (.int .u64 0) := HR.out.cell 0
   have c1 : wr.cell? ⟨g, 1, none⟩ = some (.int .u64 0) := HR.out.cell 1
   obtain ⟨f0, f1⟩ := (HR.out).f2
   have HR2 : Hid (hrow (wr.setCell ⟨g, 1, none⟩ (.int .u64 8589934592)) g (amS 1) 54) := heap_setCell_same _ _ _ _ _ _ HR.out.h
   have HB2 := Lib.hid (HB.out.setCell (p := ⟨g, 1, none⟩) HG.out (.int .u64 8589934592))
   clear HR HB
   go_wp2_with fail
   go_region
   go_wp2_with fail
   go_roundw
   case rel => exact ⟨1,  by omega, by go_num, HR2, Lib.hid HB2.out.drew⟩
   case measure => simp [intOf]
  ·have c0 : wr.cell? ⟨g, 0, none⟩ = some (.int .u64 0) := HR.out.cell 0
   have c1 : wr.cell? ⟨g, 1, none⟩ = some (.int .u64 8589934592) := HR.out.cell 1
   obtain ⟨f0, f1⟩ := (HR.out).f2
   have HR2 : Hid (hrow (wr.setCell ⟨g, 1, none⟩ (.int .u64 25769803776)) g (amS 2) 54) := heap_setCell_same _ _ _ _ _ _ HR.out.h
   have HB2 := Lib.hid (HB.out.setCell (p := ⟨g, 1, none⟩) HG.out (.int .u64 25769803776))
   clear HR HB
   go_wp2_with fail
   go_region
   go_wp2_with fail
   go_roundw
   case rel => exact ⟨2,  by omega, by go_num, HR2, Lib.hid HB2.out.drew⟩
   case measure => simp [intOf]
  ·have c0 : wr.cell? ⟨g, 0, none⟩ = some (.int .u64 0) := HR.out.cell 0
   have c1 : wr.cell? ⟨g, 1, none⟩ = some (.int .u64 25769803776) := HR.out.cell 1
   obtain ⟨f0, f1⟩ := (HR.out).f2
   have HR2 : Hid (hrow (wr.setCell ⟨g, 0, none⟩ (.int .u64 8796093022208)) g (amS 3) 54) := heap_setCell_same _ _ _ _ _ _ HR.out.h
   have HB2 := Lib.hid (HB.out.setCell (p := ⟨g, 0, none⟩) HG.out (.int .u64 8796093022208))
   clear HR HB
   go_wp2_with fail
   go_region
   go_wp2_with fail
   go_roundw
   case rel => exact ⟨3,  by omega, by go_num, HR2, Lib.hid HB2.out.drew⟩
   case measure => simp [intOf]
  ·have c0 : wr.cell? ⟨g, 0, none⟩ = some (.int .u64 8796093022208) := HR.out.cell 0
   have c1 : wr.cell? ⟨g, 1, none⟩ = some (.int .u64 25769803776) := HR.out.cell 1
   have c2 : wr.cell? ⟨g, 2, none⟩ = some (.int .u64 0) := HR.out.cell 2
   have c3 : wr.cell? ⟨g, 3, none⟩ = some (.int .u64 0) := HR.out.cell 3
   go_wp2_with fail
   go_ret
   exact (Mk.one wr ⟨3, 8796093022208, 25769803776, 0, 0, es0, 0, 0, []⟩ rfl).since HB.out
end Go.Proofs.Ytdnkffplkleolaa
namespace Go.Proofs.Ytdnkffplkleolaa
open Go.RowKit
set_option maxRecDepth 100000
set_option maxHeartbeats 4000000

def knG0 : Gr := gramN [ofN 7 [ofN 6 [callN 0 0, wordN ⟨#[97]⟩], wordN ⟨#[98]⟩]]
theorem known_0 (w : World) (n : Int) (hn : n % 12 = 0) : Calls Try.prog 12 #[.int .i64 n] w (Gk w knG0) := by
 have HP := Lib.hid (fun w' => pick_any w' n 12 (by decide) (by decide))
 rw [hn] at HP
 clear hn
 have HB0 := Lib.hid ((Below.refl w.heap.size w).alloc (Nat.le_refl _) (.cells #[.slice none 0 0, .slice none 0 0] 25))
 have HZ0 := Lib.hid (hrow.new w #[.slice none 0 0, .slice none 0 0] 25)
 go_enter Try.func12, Try.ntmps12
 go_upto_region 1 with (fail)
 revert HB0 HZ0
 generalize w.alloc _ = w1
 generalize hh0 : w.heap.size = h0
 intro HB0 HZ0
 have HH : Hid (w.heap.size = h0) := hh0
 have B0 : Hid (Below w.heap.size w w1) := by rw [hh0]; exact HB0.out
 clear HB0 hh0
 have H0 := Lib.hid HZ0.out
 clear HZ0
 go_wp2_with fail
 refine (HP.out _).mono ?_
 rintro e w' ⟨rfl, rfl⟩
 go_wp2_with fail
 refine (call_any' _ 0 0).mono ?_
 rintro e x1 hm
 obtain ⟨o1, n1, c1, rfl, A1, b1⟩ := hm.ars (by show okN (callN 0 0); unfold okN; decide +kernel)
 have B1 := Lib.hid (B0.out.trans (b1.mono B0.out.size))
 have H0 := Lib.hid (H0.out.below b1)
 have H1 : Hid (Ar x1 (.slice o1 n1 c1) (callN 0 0)) := A1
 clear A1 b1 B0
 go_wp2_with fail
 refine (word_any _ ⟨#[97]⟩).mono ?_
 rintro e x2 hm
 obtain ⟨o2, n2, c2, rfl, A2, b2⟩ := hm.ars (by show okN (wordN ⟨#[97]⟩); unfold okN; decide +kernel)
 have B2 := Lib.hid (B1.out.trans (b2.mono B1.out.size))
 have H0 := Lib.hid (H0.out.below b2)
 have H1 := Lib.hid (H1.out.below b2)
 have H2 : Hid (Ar x2 (.slice o2 n2 c2) (wordN ⟨#[97]⟩)) := A2
 clear A2 b2 B1
 go_wp2_with fail
 refine (chain_any _ _ _ _ _ H1.out H2.out (by unfold okN; decide +kernel) (by unfold okN; decide +kernel)).mono ?_
 rintro e x3 hm
 obtain ⟨o3, n3, c3, rfl, A3, b3⟩ := hm.ars (by show okN (ofN 6 [callN 0 0, wordN ⟨#[97]⟩]); unfold okN; decide +kernel)
 have B3 := Lib.hid (B2.out.trans (b3.mono B2.out.size))
 have H0 := Lib.hid (H0.out.below b3)
 have H3 : Hid (Ar x3 (.slice o3 n3 c3) (ofN 6 [callN 0 0, wordN ⟨#[97]⟩])) := A3
 clear A3 b3 B2
 go_wp2_with fail
 refine (word_any _ ⟨#[98]⟩).mono ?_
 rintro e x4 hm
 obtain ⟨o4, n4, c4, rfl, A4, b4⟩ := hm.ars (by show okN (wordN ⟨#[98]⟩); unfold okN; decide +kernel)
 have B4 := Lib.hid (B3.out.trans (b4.mono B3.out.size))
 have H0 := Lib.hid (H0.out.below b4)
 have H3 := Lib.hid (H3.out.below b4)
 have H4 : Hid (Ar x4 (.slice o4 n4 c4) (wordN ⟨#[98]⟩)) := A4
 clear A4 b4 B3
 go_wp2_with fail
 refine (first_any _ _ _ _ _ H3.out H4.out (by unfold okN; decide +kernel) (by unfold okN; decide +kernel)).mono ?_
 rintro e x5 hm
 obtain ⟨o5, n5, c5, rfl, A5, b5⟩ := hm.ars (by show okN (ofN 7 [ofN 6 [callN 0 0, wordN ⟨#[97]⟩], wordN ⟨#[98]⟩]); unfold okN; decide +kernel)
 have B5 := Lib.hid (B4.out.trans (b5.mono B4.out.size))
 have H0 := Lib.hid (H0.out.below b5)
 have H5 : Hid (Ar x5 (.slice o5 n5 c5) (ofN 7 [ofN 6 [callN 0 0, wordN ⟨#[97]⟩], wordN ⟨#[98]⟩])) := A5
 clear A5 b5 B4
 go_wp2_with fail
 refine (gram_gr _ [(.slice o5 n5 c5, ofN 7 [ofN 6 [callN 0 0, wordN ⟨#[97]⟩], wordN ⟨#[98]⟩])] 1 rfl (by decide) (by simp only [List.mem_cons, List.not_mem_nil, or_false, forall_eq]; exact H5.out) (by simp only [List.mem_cons, List.not_mem_nil, or_false, forall_eq]; unfold okN; decide +kernel)).mono ?_
 rintro e wg ⟨ro, rn, rc, no, nn, nc, NK, rfl, hg, hb⟩
 have HZg := Lib.hid (H0.out.below hb)
 have HGg := Lib.hid hg
 have HBg := Lib.hid (B5.out.trans (hb.mono B5.out.size))
 clear hg hb
 obtain ⟨zq0, zq1⟩ := (HZg.out).c2
 obtain ⟨zf0, zf1⟩ := (HZg.out).f2
 have zr := set2_row (.slice ro rn rc) (.slice no nn nc) HZg.out
 have zg := (HGg.out.mono (B5.out.size)).set2 HZg.out (.slice ro rn rc) (.slice no nn nc)
 have zf := set2_fr wg h0 (.slice ro rn rc) (.slice no nn nc)
 unfold set2 at zr zf zg
 have ZR := Lib.hid zr
 have ZF := Lib.hid zf
 have HGz := Lib.hid zg
 clear zr zf zg
 go_wp2_with fail
 revert ZR ZF HGz
 generalize (wg.setCell _ _).setCell _ _ = wz
 intro ZR ZF HGz
 obtain ⟨zc0, zc1⟩ := (ZR.out).c2
 exact bodyPost_ret (v := .agg #[.slice ro rn rc, .slice no nn nc]) (by simp [results, Try.results12, go_sem, zc0, zc1]) rfl ⟨ro, rn, rc, no, nn, nc, NK, rfl, HGz.out, HBg.out.trans (ZF.out.below HBg.out.size (fun k hk e => by have e' : k = h0 := e; have := HH.out; omega))⟩
def knG1 : Gr := gramN [ofN 7 [infN 0 1 ⟨#[43]⟩ 2, infN 0 2 ⟨#[42]⟩ 3, wordN ⟨#[97]⟩]]
theorem known_1 (w : World) (n : Int) (hn : n % 12 = 1) : Calls Try.prog 12 #[.int .i64 n] w (Gk w knG1) := by
 have HP := Lib.hid (fun w' => pick_any w' n 12 (by decide) (by decide))
 rw [hn] at HP
 clear hn
 have HB0 := Lib.hid ((Below.refl w.heap.size w).alloc (Nat.le_refl _) (.cells #[.slice none 0 0, .slice none 0 0] 25))
 have HZ0 := Lib.hid (hrow.new w #[.slice none 0 0, .slice none 0 0] 25)
 go_enter Try.func12, Try.ntmps12
 go_upto_region 1 with (fail)
 revert HB0 HZ0
 generalize w.alloc _ = w1
 generalize hh0 : w.heap.size = h0
 intro HB0 HZ0
 have HH : Hid (w.heap.size = h0) := hh0
 have B0 : Hid (Below w.heap.size w w1) := by rw [hh0]; exact HB0.out
 clear HB0 hh0
 have H0 := Lib.hid HZ0.out
 clear HZ0
 go_wp2_with fail
 refine (HP.out _).mono ?_
 rintro e w' ⟨rfl, rfl⟩
 go_wp2_with fail
 refine (infix_any _ 0 1 ⟨#[43]⟩ (by decide) 2).mono ?_
 rintro e x1 hm
 obtain ⟨o1, n1, c1, rfl, A1, b1⟩ := hm.ars (by show okN (infN 0 1 ⟨#[43]⟩ 2); unfold okN; decide +kernel)
 have B1 := Lib.hid (B0.out.trans (b1.mono B0.out.size))
 have H0 := Lib.hid (H0.out.below b1)
 have H1 : Hid (Ar x1 (.slice o1 n1 c1) (infN 0 1 ⟨#[43]⟩ 2)) := A1
 clear A1 b1 B0
 go_wp2_with fail
 refine (infix_any _ 0 2 ⟨#[42]⟩ (by decide) 3).mono ?_
 rintro e x2 hm
 obtain ⟨o2, n2, c2, rfl, A2, b2⟩ := hm.ars (by show okN (infN 0 2 ⟨#[42]⟩ 3); unfold okN; decide +kernel)
 have B2 := Lib.hid (B1.out.trans (b2.mono B1.out.size))
 have H0 := Lib.hid (H0.out.below b2)
 have H1 := Lib.hid (H1.out.below b2)
 have H2 : Hid (Ar x2 (.slice o2 n2 c2) (infN 0 2 ⟨#[42]⟩ 3)) := A2
 clear A2 b2 B1
 go_wp2_with fail
 refine (word_any _ ⟨#[97]⟩).mono ?_
 rintro e x3 hm
 obtain ⟨o3, n3, c3, rfl, A3, b3⟩ := hm.ars (by show okN (wordN ⟨#[97]⟩); unfold okN; decide +kernel)
 have B3 := Lib.hid (B2.out.trans (b3.mono B2.out.size))
 have H0 := Lib.hid (H0.out.below b3)
 have H1 := Lib.hid (H1.out.below b3)
 have H2 := Lib.hid (H2.out.below b3)
 have H3 : Hid (Ar x3 (.slice o3 n3 c3) (wordN ⟨#[97]⟩)) := A3
 clear A3 b3 B2
 go_wp2_with fail
 refine (ofs_any _ 7 [(.slice o1 n1 c1, infN 0 1 ⟨#[43]⟩ 2), (.slice o2 n2 c2, infN 0 2 ⟨#[42]⟩ 3), (.slice o3 n3 c3, wordN ⟨#[97]⟩)] 3 rfl (by decide) (by simp only [List.mem_cons, List.not_mem_nil, or_false, forall_eq, forall_eq_or_imp]; exact ⟨H1.out, H2.out, H3.out⟩) (by simp only [List.mem_cons, List.not_mem_nil, or_false, forall_eq, forall_eq_or_imp]; unfold okN; decide +kernel)).mono ?_
 rintro e x4 hm
 obtain ⟨o4, n4, c4, rfl, A4, b4⟩ := hm.ars (by show okN (ofN 7 [infN 0 1 ⟨#[43]⟩ 2, infN 0 2 ⟨#[42]⟩ 3, wordN ⟨#[97]⟩]); unfold okN; decide +kernel)
 have B4 := Lib.hid (B3.out.trans (b4.mono B3.out.size))
 have H0 := Lib.hid (H0.out.below b4)
 have H4 : Hid (Ar x4 (.slice o4 n4 c4) (ofN 7 [infN 0 1 ⟨#[43]⟩ 2, infN 0 2 ⟨#[42]⟩ 3, wordN ⟨#[97]⟩])) := A4
 clear A4 b4 B3
 go_wp2_with fail
 refine (gram_gr _ [(.slice o4 n4 c4, ofN 7 [infN 0 1 ⟨#[43]⟩ 2, infN 0 2 ⟨#[42]⟩ 3, wordN ⟨#[97]⟩])] 1 rfl (by decide) (by simp only [List.mem_cons, List.not_mem_nil, or_false, forall_eq]; exact H4.out) (by simp only [List.mem_cons, List.not_mem_nil, or_false, forall_eq]; unfold okN; decide +kernel)).mono ?_
 rintro e wg ⟨ro, rn, rc, no, nn, nc, NK, rfl, hg, hb⟩
 have HZg := Lib.hid (H0.out.below hb)
 have HGg := Lib.hid hg
 have HBg := Lib.hid (B4.out.trans (hb.mono B4.out.size))
 clear hg hb
 obtain ⟨zq0, zq1⟩ := (HZg.out).c2
 obtain ⟨zf0, zf1⟩ := (HZg.out).f2
 have zr := set2_row (.slice ro rn rc) (.slice no nn nc) HZg.out
 have zg := (HGg.out.mono (B4.out.size)).set2 HZg.out (.slice ro rn rc) (.slice no nn nc)
 have zf := set2_fr wg h0 (.slice ro rn rc) (.slice no nn nc)
 unfold set2 at zr zf zg
 have ZR := Lib.hid zr
 have ZF := Lib.hid zf
 have HGz := Lib.hid zg
 clear zr zf zg
 go_wp2_with fail
 revert ZR ZF HGz
 generalize (wg.setCell _ _).setCell _ _ = wz
 intro ZR ZF HGz
 obtain ⟨zc0, zc1⟩ := (ZR.out).c2
 exact bodyPost_ret (v := .agg #[.slice ro rn rc, .slice no nn nc]) (by simp [results, Try.results12, go_sem, zc0, zc1]) rfl ⟨ro, rn, rc, no, nn, nc, NK, rfl, HGz.out, HBg.out.trans (ZF.out.below HBg.out.size (fun k hk e => by have e' : k = h0 := e; have := HH.out; omega))⟩
def knG2 : Gr := gramN [ofN 7 [ofN 6 [callN 1 0, wordN ⟨#[97]⟩], wordN ⟨#[98]⟩], ofN 7 [ofN 6 [callN 0 0, wordN ⟨#[98]⟩], wordN ⟨#[97]⟩]]
theorem known_2 (w : World) (n : Int) (hn : n % 12 = 2) : Calls Try.prog 12 #[.int .i64 n] w (Gk w knG2) := by
 have HP := Lib.hid (fun w' => pick_any w' n 12 (by decide) (by decide))
 rw [hn] at HP
 clear hn
 have HB0 := Lib.hid ((Below.refl w.heap.size w).alloc (Nat.le_refl _) (.cells #[.slice none 0 0, .slice none 0 0] 25))
 have HZ0 := Lib.hid (hrow.new w #[.slice none 0 0, .slice none 0 0] 25)
 go_enter Try.func12, Try.ntmps12
 go_upto_region 1 with (fail)
 revert HB0 HZ0
 generalize w.alloc _ = w1
 generalize hh0 : w.heap.size = h0
 intro HB0 HZ0
 have HH : Hid (w.heap.size = h0) := hh0
 have B0 : Hid (Below w.heap.size w w1) := by rw [hh0]; exact HB0.out
 clear HB0 hh0
 have H0 := Lib.hid HZ0.out
 clear HZ0
 go_wp2_with fail
 refine (HP.out _).mono ?_
 rintro e w' ⟨rfl, rfl⟩
 go_wp2_with fail
 refine (call_any' _ 1 0).mono ?_
 rintro e x1 hm
 obtain ⟨o1, n1, c1, rfl, A1, b1⟩ := hm.ars (by show okN (callN 1 0); unfold okN; decide +kernel)
 have B1 := Lib.hid (B0.out.trans (b1.mono B0.out.size))
 have H0 := Lib.hid (H0.out.below b1)
 have H1 : Hid (Ar x1 (.slice o1 n1 c1) (callN 1 0)) := A1
 clear A1 b1 B0
 go_wp2_with fail
 refine (word_any _ ⟨#[97]⟩).mono ?_
 rintro e x2 hm
 obtain ⟨o2, n2, c2, rfl, A2, b2⟩ := hm.ars (by show okN (wordN ⟨#[97]⟩); unfold okN; decide +kernel)
 have B2 := Lib.hid (B1.out.trans (b2.mono B1.out.size))
 have H0 := Lib.hid (H0.out.below b2)
 have H1 := Lib.hid (H1.out.below b2)
 have H2 : Hid (Ar x2 (.slice o2 n2 c2) (wordN ⟨#[97]⟩)) := A2
 clear A2 b2 B1
 go_wp2_with fail
 refine (chain_any _ _ _ _ _ H1.out H2.out (by unfold okN; decide +kernel) (by unfold okN; decide +kernel)).mono ?_
 rintro e x3 hm
 obtain ⟨o3, n3, c3, rfl, A3, b3⟩ := hm.ars (by show okN (ofN 6 [callN 1 0, wordN ⟨#[97]⟩]); unfold okN; decide +kernel)
 have B3 := Lib.hid (B2.out.trans (b3.mono B2.out.size))
 have H0 := Lib.hid (H0.out.below b3)
 have H3 : Hid (Ar x3 (.slice o3 n3 c3) (ofN 6 [callN 1 0, wordN ⟨#[97]⟩])) := A3
 clear A3 b3 B2
 go_wp2_with fail
 refine (word_any _ ⟨#[98]⟩).mono ?_
 rintro e x4 hm
 obtain ⟨o4, n4, c4, rfl, A4, b4⟩ := hm.ars (by show okN (wordN ⟨#[98]⟩); unfold okN; decide +kernel)
 have B4 := Lib.hid (B3.out.trans (b4.mono B3.out.size))
 have H0 := Lib.hid (H0.out.below b4)
 have H3 := Lib.hid (H3.out.below b4)
 have H4 : Hid (Ar x4 (.slice o4 n4 c4) (wordN ⟨#[98]⟩)) := A4
 clear A4 b4 B3
 go_wp2_with fail
 refine (first_any _ _ _ _ _ H3.out H4.out (by unfold okN; decide +kernel) (by unfold okN; decide +kernel)).mono ?_
 rintro e x5 hm
 obtain ⟨o5, n5, c5, rfl, A5, b5⟩ := hm.ars (by show okN (ofN 7 [ofN 6 [callN 1 0, wordN ⟨#[97]⟩], wordN ⟨#[98]⟩]); unfold okN; decide +kernel)
 have B5 := Lib.hid (B4.out.trans (b5.mono B4.out.size))
 have H0 := Lib.hid (H0.out.below b5)
 have H5 : Hid (Ar x5 (.slice o5 n5 c5) (ofN 7 [ofN 6 [callN 1 0, wordN ⟨#[97]⟩], wordN ⟨#[98]⟩])) := A5
 clear A5 b5 B4
 go_wp2_with fail
 refine (call_any' _ 0 0).mono ?_
 rintro e x6 hm
 obtain ⟨o6, n6, c6, rfl, A6, b6⟩ := hm.ars (by show okN (callN 0 0); unfold okN; decide +kernel)
 have B6 := Lib.hid (B5.out.trans (b6.mono B5.out.size))
 have H0 := Lib.hid (H0.out.below b6)
 have H5 := Lib.hid (H5.out.below b6)
 have H6 : Hid (Ar x6 (.slice o6 n6 c6) (callN 0 0)) := A6
 clear A6 b6 B5
 go_wp2_with fail
 refine (word_any _ ⟨#[98]⟩).mono ?_
 rintro e x7 hm
 obtain ⟨o7, n7, c7, rfl, A7, b7⟩ := hm.ars (by show okN (wordN ⟨#[98]⟩); unfold okN; decide +kernel)
 have B7 := Lib.hid (B6.out.trans (b7.mono B6.out.size))
 have H0 := Lib.hid (H0.out.below b7)
 have H5 := Lib.hid (H5.out.below b7)
 have H6 := Lib.hid (H6.out.below b7)
 have H7 : Hid (Ar x7 (.slice o7 n7 c7) (wordN ⟨#[98]⟩)) := A7
 clear A7 b7 B6
 go_wp2_with fail
 refine (chain_any _ _ _ _ _ H6.out H7.out (by unfold okN; decide +kernel) (by unfold okN; decide +kernel)).mono ?_
 rintro e x8 hm
 obtain ⟨o8, n8, c8, rfl, A8, b8⟩ := hm.ars (by show okN (ofN 6 [callN 0 0, wordN ⟨#[98]⟩]); unfold okN; decide +kernel)
 have B8 := Lib.hid (B7.out.trans (b8.mono B7.out.size))
 have H0 := Lib.hid (H0.out.below b8)
 have H5 := Lib.hid (H5.out.below b8)
 have H8 : Hid (Ar x8 (.slice o8 n8 c8) (ofN 6 [callN 0 0, wordN ⟨#[98]⟩])) := A8
 clear A8 b8 B7
 go_wp2_with fail
 refine (word_any _ ⟨#[97]⟩).mono ?_
 rintro e x9 hm
 obtain ⟨o9, n9, c9, rfl, A9, b9⟩ := hm.ars (by show okN (wordN ⟨#[97]⟩); unfold okN; decide +kernel)
 have B9 := Lib.hid (B8.out.trans (b9.mono B8.out.size))
 have H0 := Lib.hid (H0.out.below b9)
 have H5 := Lib.hid (H5.out.below b9)
 have H8 := Lib.hid (H8.out.below b9)
 have H9 : Hid (Ar x9 (.slice o9 n9 c9) (wordN ⟨#[97]⟩)) := A9
 clear A9 b9 B8
 go_wp2_with fail
 refine (first_any _ _ _ _ _ H8.out H9.out (by unfold okN; decide +kernel) (by unfold okN; decide +kernel)).mono ?_
 rintro e x10 hm
 obtain ⟨o10, n10, c10, rfl, A10, b10⟩ := hm.ars (by show okN (ofN 7 [ofN 6 [callN 0 0, wordN ⟨#[98]⟩], wordN ⟨#[97]⟩]); unfold okN; decide +kernel)
 have B10 := Lib.hid (B9.out.trans (b10.mono B9.out.size))
 have H0 := Lib.hid (H0.out.below b10)
 have H5 := Lib.hid (H5.out.below b10)
 have H10 : Hid (Ar x10 (.slice o10 n10 c10) (ofN 7 [ofN 6 [callN 0 0, wordN ⟨#[98]⟩], wordN ⟨#[97]⟩])) := A10
 clear A10 b10 B9
 go_wp2_with fail
 refine (gram_gr _ [(.slice o5 n5 c5, ofN 7 [ofN 6 [callN 1 0, wordN ⟨#[97]⟩], wordN ⟨#[98]⟩]), (.slice o10 n10 c10, ofN 7 [ofN 6 [callN 0 0, wordN ⟨#[98]⟩], wordN ⟨#[97]⟩])] 2 rfl (by decide) (by simp only [List.mem_cons, List.not_mem_nil, or_false, forall_eq, forall_eq_or_imp]; exact ⟨H5.out, H10.out⟩) (by simp only [List.mem_cons, List.not_mem_nil, or_false, forall_eq, forall_eq_or_imp]; unfold okN; decide +kernel)).mono ?_
 rintro e wg ⟨ro, rn, rc, no, nn, nc, NK, rfl, hg, hb⟩
 have HZg := Lib.hid (H0.out.below hb)
 have HGg := Lib.hid hg
 have HBg := Lib.hid (B10.out.trans (hb.mono B10.out.size))
 clear hg hb
 obtain ⟨zq0, zq1⟩ := (HZg.out).c2
 obtain ⟨zf0, zf1⟩ := (HZg.out).f2
 have zr := set2_row (.slice ro rn rc) (.slice no nn nc) HZg.out
 have zg := (HGg.out.mono (B10.out.size)).set2 HZg.out (.slice ro rn rc) (.slice no nn nc)
 have zf := set2_fr wg h0 (.slice ro rn rc) (.slice no nn nc)
 unfold set2 at zr zf zg
 have ZR := Lib.hid zr
 have ZF := Lib.hid zf
 have HGz := Lib.hid zg
 clear zr zf zg
 go_wp2_with fail
 revert ZR ZF HGz
 generalize (wg.setCell _ _).setCell _ _ = wz
 intro ZR ZF HGz
 obtain ⟨zc0, zc1⟩ := (ZR.out).c2
 exact bodyPost_ret (v := .agg #[.slice ro rn rc, .slice no nn nc]) (by simp [results, Try.results12, go_sem, zc0, zc1]) rfl ⟨ro, rn, rc, no, nn, nc, NK, rfl, HGz.out, HBg.out.trans (ZF.out.below HBg.out.size (fun k hk e => by have e' : k = h0 := e; have := HH.out; omega))⟩
def knG3 : Gr := gramN [ofN 7 [ofN 6 [callN 0 0, wordN ⟨#[97]⟩], leafN 1]]
theorem known_3 (w : World) (n : Int) (hn : n % 12 = 3) : Calls Try.prog 12 #[.int .i64 n] w (Gk w knG3) := by
 have HP := Lib.hid (fun w' => pick_any w' n 12 (by decide) (by decide))
 rw [hn] at HP
 clear hn
 have HB0 := Lib.hid ((Below.refl w.heap.size w).alloc (Nat.le_refl _) (.cells #[.slice none 0 0, .slice none 0 0] 25))
 have HZ0 := Lib.hid (hrow.new w #[.slice none 0 0, .slice none 0 0] 25)
 go_enter Try.func12, Try.ntmps12
 go_upto_region 1 with (fail)
 revert HB0 HZ0
 generalize w.alloc _ = w1
 generalize hh0 : w.heap.size = h0
 intro HB0 HZ0
 have HH : Hid (w.heap.size = h0) := hh0
 have B0 : Hid (Below w.heap.size w w1) := by rw [hh0]; exact HB0.out
 clear HB0 hh0
 have H0 := Lib.hid HZ0.out
 clear HZ0
 go_wp2_with fail
 refine (HP.out _).mono ?_
 rintro e w' ⟨rfl, rfl⟩
 go_wp2_with fail
 refine (call_any' _ 0 0).mono ?_
 rintro e x1 hm
 obtain ⟨o1, n1, c1, rfl, A1, b1⟩ := hm.ars (by show okN (callN 0 0); unfold okN; decide +kernel)
 have B1 := Lib.hid (B0.out.trans (b1.mono B0.out.size))
 have H0 := Lib.hid (H0.out.below b1)
 have H1 : Hid (Ar x1 (.slice o1 n1 c1) (callN 0 0)) := A1
 clear A1 b1 B0
 go_wp2_with fail
 refine (word_any _ ⟨#[97]⟩).mono ?_
 rintro e x2 hm
 obtain ⟨o2, n2, c2, rfl, A2, b2⟩ := hm.ars (by show okN (wordN ⟨#[97]⟩); unfold okN; decide +kernel)
 have B2 := Lib.hid (B1.out.trans (b2.mono B1.out.size))
 have H0 := Lib.hid (H0.out.below b2)
 have H1 := Lib.hid (H1.out.below b2)
 have H2 : Hid (Ar x2 (.slice o2 n2 c2) (wordN ⟨#[97]⟩)) := A2
 clear A2 b2 B1
 go_wp2_with fail
 refine (chain_any _ _ _ _ _ H1.out H2.out (by unfold okN; decide +kernel) (by unfold okN; decide +kernel)).mono ?_
 rintro e x3 hm
 obtain ⟨o3, n3, c3, rfl, A3, b3⟩ := hm.ars (by show okN (ofN 6 [callN 0 0, wordN ⟨#[97]⟩]); unfold okN; decide +kernel)
 have B3 := Lib.hid (B2.out.trans (b3.mono B2.out.size))
 have H0 := Lib.hid (H0.out.below b3)
 have H3 : Hid (Ar x3 (.slice o3 n3 c3) (ofN 6 [callN 0 0, wordN ⟨#[97]⟩])) := A3
 clear A3 b3 B2
 go_wp2_with fail
 refine (leaf_any _ 1).mono ?_
 rintro e x4 hm
 obtain ⟨o4, n4, c4, rfl, A4, b4⟩ := hm.ars (by show okN (leafN 1); unfold okN; decide +kernel)
 have B4 := Lib.hid (B3.out.trans (b4.mono B3.out.size))
 have H0 := Lib.hid (H0.out.below b4)
 have H3 := Lib.hid (H3.out.below b4)
 have H4 : Hid (Ar x4 (.slice o4 n4 c4) (leafN 1)) := A4
 clear A4 b4 B3
 go_wp2_with fail
 refine (first_any _ _ _ _ _ H3.out H4.out (by unfold okN; decide +kernel) (by unfold okN; decide +kernel)).mono ?_
 rintro e x5 hm
 obtain ⟨o5, n5, c5, rfl, A5, b5⟩ := hm.ars (by show okN (ofN 7 [ofN 6 [callN 0 0, wordN ⟨#[97]⟩], leafN 1]); unfold okN; decide +kernel)
 have B5 := Lib.hid (B4.out.trans (b5.mono B4.out.size))
 have H0 := Lib.hid (H0.out.below b5)
 have H5 : Hid (Ar x5 (.slice o5 n5 c5) (ofN 7 [ofN 6 [callN 0 0, wordN ⟨#[97]⟩], leafN 1])) := A5
 clear A5 b5 B4
 go_wp2_with fail
 refine (gram_gr _ [(.slice o5 n5 c5, ofN 7 [ofN 6 [callN 0 0, wordN ⟨#[97]⟩], leafN 1])] 1 rfl (by decide) (by simp only [List.mem_cons, List.not_mem_nil, or_false, forall_eq]; exact H5.out) (by simp only [List.mem_cons, List.not_mem_nil, or_false, forall_eq]; unfold okN; decide +kernel)).mono ?_
 rintro e wg ⟨ro, rn, rc, no, nn, nc, NK, rfl, hg, hb⟩
 have HZg := Lib.hid (H0.out.below hb)
 have HGg := Lib.hid hg
 have HBg := Lib.hid (B5.out.trans (hb.mono B5.out.size))
 clear hg hb
 obtain ⟨zq0, zq1⟩ := (HZg.out).c2
 obtain ⟨zf0, zf1⟩ := (HZg.out).f2
 have zr := set2_row (.slice ro rn rc) (.slice no nn nc) HZg.out
 have zg := (HGg.out.mono (B5.out.size)).set2 HZg.out (.slice ro rn rc) (.slice no nn nc)
 have zf := set2_fr wg h0 (.slice ro rn rc) (.slice no nn nc)
 unfold set2 at zr zf zg
 have ZR := Lib.hid zr
 have ZF := Lib.hid zf
 have HGz := Lib.hid zg
 clear zr zf zg
 go_wp2_with fail
 revert ZR ZF HGz
 generalize (wg.setCell _ _).setCell _ _ = wz
 intro ZR ZF HGz
 obtain ⟨zc0, zc1⟩ := (ZR.out).c2
 exact bodyPost_ret (v := .agg #[.slice ro rn rc, .slice no nn nc]) (by simp [results, Try.results12, go_sem, zc0, zc1]) rfl ⟨ro, rn, rc, no, nn, nc, NK, rfl, HGz.out, HBg.out.trans (ZF.out.below HBg.out.size (fun k hk e => by have e' : k = h0 := e; have := HH.out; omega))⟩
def knG4 : Gr := gramN [ofN 7 [ofN 6 [callN 1 0, callN 0 0], wordN ⟨#[97]⟩], ofN 7 [ofN 6 [callN 0 0, wordN ⟨#[98]⟩], leafN 1]]
theorem known_4 (w : World) (n : Int) (hn : n % 12 = 4) : Calls Try.prog 12 #[.int .i64 n] w (Gk w knG4) := by
 have HP := Lib.hid (fun w' => pick_any w' n 12 (by decide) (by decide))
 rw [hn] at HP
 clear hn
 have HB0 := Lib.hid ((Below.refl w.heap.size w).alloc (Nat.le_refl _) (.cells #[.slice none 0 0, .slice none 0 0] 25))
 have HZ0 := Lib.hid (hrow.new w #[.slice none 0 0, .slice none 0 0] 25)
 go_enter Try.func12, Try.ntmps12
 go_upto_region 1 with (fail)
 revert HB0 HZ0
 generalize w.alloc _ = w1
 generalize hh0 : w.heap.size = h0
 intro HB0 HZ0
 have HH : Hid (w.heap.size = h0) := hh0
 have B0 : Hid (Below w.heap.size w w1) := by rw [hh0]; exact HB0.out
 clear HB0 hh0
 have H0 := Lib.hid HZ0.out
 clear HZ0
 go_wp2_with fail
 refine (HP.out _).mono ?_
 rintro e w' ⟨rfl, rfl⟩
 go_wp2_with fail
 refine (call_any' _ 1 0).mono ?_
 rintro e x1 hm
 obtain ⟨o1, n1, c1, rfl, A1, b1⟩ := hm.ars (by show okN (callN 1 0); unfold okN; decide +kernel)
 have B1 := Lib.hid (B0.out.trans (b1.mono B0.out.size))
 have H0 := Lib.hid (H0.out.below b1)
 have H1 : Hid (Ar x1 (.slice o1 n1 c1) (callN 1 0)) := A1
 clear A1 b1 B0
 go_wp2_with fail
 refine (call_any' _ 0 0).mono ?_
 rintro e x2 hm
 obtain ⟨o2, n2, c2, rfl, A2, b2⟩ := hm.ars (by show okN (callN 0 0); unfold okN; decide +kernel)
 have B2 := Lib.hid (B1.out.trans (b2.mono B1.out.size))
 have H0 := Lib.hid (H0.out.below b2)
 have H1 := Lib.hid (H1.out.below b2)
 have H2 : Hid (Ar x2 (.slice o2 n2 c2) (callN 0 0)) := A2
 clear A2 b2 B1
 go_wp2_with fail
 refine (chain_any _ _ _ _ _ H1.out H2.out (by unfold okN; decide +kernel) (by unfold okN; decide +kernel)).mono ?_
 rintro e x3 hm
 obtain ⟨o3, n3, c3, rfl, A3, b3⟩ := hm.ars (by show okN (ofN 6 [callN 1 0, callN 0 0]); unfold okN; decide +kernel)
 have B3 := Lib.hid (B2.out.trans (b3.mono B2.out.size))
 have H0 := Lib.hid (H0.out.below b3)
 have H3 : Hid (Ar x3 (.slice o3 n3 c3) (ofN 6 [callN 1 0, callN 0 0])) := A3
 clear A3 b3 B2
 go_wp2_with fail
 refine (word_any _ ⟨#[97]⟩).mono ?_
 rintro e x4 hm
 obtain ⟨o4, n4, c4, rfl, A4, b4⟩ := hm.ars (by show okN (wordN ⟨#[97]⟩); unfold okN; decide +kernel)
 have B4 := Lib.hid (B3.out.trans (b4.mono B3.out.size))
 have H0 := Lib.hid (H0.out.below b4)
 have H3 := Lib.hid (H3.out.below b4)
 have H4 : Hid (Ar x4 (.slice o4 n4 c4) (wordN ⟨#[97]⟩)) := A4
 clear A4 b4 B3
 go_wp2_with fail
 refine (first_any _ _ _ _ _ H3.out H4.out (by unfold okN; decide +kernel) (by unfold okN; decide +kernel)).mono ?_
 rintro e x5 hm
 obtain ⟨o5, n5, c5, rfl, A5, b5⟩ := hm.ars (by show okN (ofN 7 [ofN 6 [callN 1 0, callN 0 0], wordN ⟨#[97]⟩]); unfold okN; decide +kernel)
 have B5 := Lib.hid (B4.out.trans (b5.mono B4.out.size))
 have H0 := Lib.hid (H0.out.below b5)
 have H5 : Hid (Ar x5 (.slice o5 n5 c5) (ofN 7 [ofN 6 [callN 1 0, callN 0 0], wordN ⟨#[97]⟩])) := A5
 clear A5 b5 B4
 go_wp2_with fail
 refine (call_any' _ 0 0).mono ?_
 rintro e x6 hm
 obtain ⟨o6, n6, c6, rfl, A6, b6⟩ := hm.ars (by show okN (callN 0 0); unfold okN; decide +kernel)
 have B6 := Lib.hid (B5.out.trans (b6.mono B5.out.size))
 have H0 := Lib.hid (H0.out.below b6)
 have H5 := Lib.hid (H5.out.below b6)
 have H6 : Hid (Ar x6 (.slice o6 n6 c6) (callN 0 0)) := A6
 clear A6 b6 B5
 go_wp2_with fail
 refine (word_any _ ⟨#[98]⟩).mono ?_
 rintro e x7 hm
 obtain ⟨o7, n7, c7, rfl, A7, b7⟩ := hm.ars (by show okN (wordN ⟨#[98]⟩); unfold okN; decide +kernel)
 have B7 := Lib.hid (B6.out.trans (b7.mono B6.out.size))
 have H0 := Lib.hid (H0.out.below b7)
 have H5 := Lib.hid (H5.out.below b7)
 have H6 := Lib.hid (H6.out.below b7)
 have H7 : Hid (Ar x7 (.slice o7 n7 c7) (wordN ⟨#[98]⟩)) := A7
 clear A7 b7 B6
 go_wp2_with fail
 refine (chain_any _ _ _ _ _ H6.out H7.out (by unfold okN; decide +kernel) (by unfold okN; decide +kernel)).mono ?_
 rintro e x8 hm
 obtain ⟨o8, n8, c8, rfl, A8, b8⟩ := hm.ars (by show okN (ofN 6 [callN 0 0, wordN ⟨#[98]⟩]); unfold okN; decide +kernel)
 have B8 := Lib.hid (B7.out.trans (b8.mono B7.out.size))
 have H0 := Lib.hid (H0.out.below b8)
 have H5 := Lib.hid (H5.out.below b8)
 have H8 : Hid (Ar x8 (.slice o8 n8 c8) (ofN 6 [callN 0 0, wordN ⟨#[98]⟩])) := A8
 clear A8 b8 B7
 go_wp2_with fail
 refine (leaf_any _ 1).mono ?_
 rintro e x9 hm
 obtain ⟨o9, n9, c9, rfl, A9, b9⟩ := hm.ars (by show okN (leafN 1); unfold okN; decide +kernel)
 have B9 := Lib.hid (B8.out.trans (b9.mono B8.out.size))
 have H0 := Lib.hid (H0.out.below b9)
 have H5 := Lib.hid (H5.out.below b9)
 have H8 := Lib.hid (H8.out.below b9)
 have H9 : Hid (Ar x9 (.slice o9 n9 c9) (leafN 1)) := A9
 clear A9 b9 B8
 go_wp2_with fail
 refine (first_any _ _ _ _ _ H8.out H9.out (by unfold okN; decide +kernel) (by unfold okN; decide +kernel)).mono ?_
 rintro e x10 hm
 obtain ⟨o10, n10, c10, rfl, A10, b10⟩ := hm.ars (by show okN (ofN 7 [ofN 6 [callN 0 0, wordN ⟨#[98]⟩], leafN 1]); unfold okN; decide +kernel)
 have B10 := Lib.hid (B9.out.trans (b10.mono B9.out.size))
 have H0 := Lib.hid (H0.out.below b10)
 have H5 := Lib.hid (H5.out.below b10)
 have H10 : Hid (Ar x10 (.slice o10 n10 c10) (ofN 7 [ofN 6 [callN 0 0, wordN ⟨#[98]⟩], leafN 1])) := A10
 clear A10 b10 B9
 go_wp2_with fail
 refine (gram_gr _ [(.slice o5 n5 c5, ofN 7 [ofN 6 [callN 1 0, callN 0 0], wordN ⟨#[97]⟩]), (.slice o10 n10 c10, ofN 7 [ofN 6 [callN 0 0, wordN ⟨#[98]⟩], leafN 1])] 2 rfl (by decide) (by simp only [List.mem_cons, List.not_mem_nil, or_false, forall_eq, forall_eq_or_imp]; exact ⟨H5.out, H10.out⟩) (by simp only [List.mem_cons, List.not_mem_nil, or_false, forall_eq, forall_eq_or_imp]; unfold okN; decide +kernel)).mono ?_
 rintro e wg ⟨ro, rn, rc, no, nn, nc, NK, rfl, hg, hb⟩
 have HZg := Lib.hid (H0.out.below hb)
 have HGg := Lib.hid hg
 have HBg := Lib.hid (B10.out.trans (hb.mono B10.out.size))
 clear hg hb
 obtain ⟨zq0, zq1⟩ := (HZg.out).c2
 obtain ⟨zf0, zf1⟩ := (HZg.out).f2
 have zr := set2_row (.slice ro rn rc) (.slice no nn nc) HZg.out
 have zg := (HGg.out.mono (B10.out.size)).set2 HZg.out (.slice ro rn rc) (.slice no nn nc)
 have zf := set2_fr wg h0 (.slice ro rn rc) (.slice no nn nc)
 unfold set2 at zr zf zg
 have ZR := Lib.hid zr
 have ZF := Lib.hid zf
 have HGz := Lib.hid zg
 clear zr zf zg
 go_wp2_with fail
 revert ZR ZF HGz
 generalize (wg.setCell _ _).setCell _ _ = wz
 intro ZR ZF HGz
 obtain ⟨zc0, zc1⟩ := (ZR.out).c2
 exact bodyPost_ret (v := .agg #[.slice ro rn rc, .slice no nn nc]) (by simp [results, Try.results12, go_sem, zc0, zc1]) rfl ⟨ro, rn, rc, no, nn, nc, NK, rfl, HGz.out, HBg.out.trans (ZF.out.below HBg.out.size (fun k hk e => by have e' : k = h0 := e; have := HH.out; omega))⟩
def knG5 : Gr := gramN [ofN 7 [ofN 6 [ofN 11 [callN 0 0], wordN ⟨#[97]⟩], ofN 6 [callN 0 0, wordN ⟨#[98]⟩], ofN 6 [ofN 12 [wordN ⟨#[97]⟩], leafN 2]]]
theorem known_5 (w : World) (n : Int) (hn : n % 12 = 5) : Calls Try.prog 12 #[.int .i64 n] w (Gk w knG5) := by
 have HP := Lib.hid (fun w' => pick_any w' n 12 (by decide) (by decide))
 rw [hn] at HP
 clear hn
 have HB0 := Lib.hid ((Below.refl w.heap.size w).alloc (Nat.le_refl _) (.cells #[.slice none 0 0, .slice none 0 0] 25))
 have HZ0 := Lib.hid (hrow.new w #[.slice none 0 0, .slice none 0 0] 25)
 go_enter Try.func12, Try.ntmps12
 go_upto_region 1 with (fail)
 revert HB0 HZ0
 generalize w.alloc _ = w1
 generalize hh0 : w.heap.size = h0
 intro HB0 HZ0
 have HH : Hid (w.heap.size = h0) := hh0
 have B0 : Hid (Below w.heap.size w w1) := by rw [hh0]; exact HB0.out
 clear HB0 hh0
 have H0 := Lib.hid HZ0.out
 clear HZ0
 go_wp2_with fail
 refine (HP.out _).mono ?_
 rintro e w' ⟨rfl, rfl⟩
 go_wp2_with fail
 refine (call_any' _ 0 0).mono ?_
 rintro e x1 hm
 obtain ⟨o1, n1, c1, rfl, A1, b1⟩ := hm.ars (by show okN (callN 0 0); unfold okN; decide +kernel)
 have B1 := Lib.hid (B0.out.trans (b1.mono B0.out.size))
 have H0 := Lib.hid (H0.out.below b1)
 have H1 : Hid (Ar x1 (.slice o1 n1 c1) (callN 0 0)) := A1
 clear A1 b1 B0
 go_wp2_with fail
 refine (in_any _ 11 _ _ H1.out (by unfold okN; decide +kernel)).mono ?_
 rintro e x2 hm
 obtain ⟨o2, n2, c2, rfl, A2, b2⟩ := hm.ars (by show okN (ofN 11 [callN 0 0]); unfold okN; decide +kernel)
 have B2 := Lib.hid (B1.out.trans (b2.mono B1.out.size))
 have H0 := Lib.hid (H0.out.below b2)
 have H2 : Hid (Ar x2 (.slice o2 n2 c2) (ofN 11 [callN 0 0])) := A2
 clear A2 b2 B1
 go_wp2_with fail
 refine (word_any _ ⟨#[97]⟩).mono ?_
 rintro e x3 hm
 obtain ⟨o3, n3, c3, rfl, A3, b3⟩ := hm.ars (by show okN (wordN ⟨#[97]⟩); unfold okN; decide +kernel)
 have B3 := Lib.hid (B2.out.trans (b3.mono B2.out.size))
 have H0 := Lib.hid (H0.out.below b3)
 have H2 := Lib.hid (H2.out.below b3)
 have H3 : Hid (Ar x3 (.slice o3 n3 c3) (wordN ⟨#[97]⟩)) := A3
 clear A3 b3 B2
 go_wp2_with fail
 refine (chain_any _ _ _ _ _ H2.out H3.out (by unfold okN; decide +kernel) (by unfold okN; decide +kernel)).mono ?_
 rintro e x4 hm
 obtain ⟨o4, n4, c4, rfl, A4, b4⟩ := hm.ars (by show okN (ofN 6 [ofN 11 [callN 0 0], wordN ⟨#[97]⟩]); unfold okN; decide +kernel)
 have B4 := Lib.hid (B3.out.trans (b4.mono B3.out.size))
 have H0 := Lib.hid (H0.out.below b4)
 have H4 : Hid (Ar x4 (.slice o4 n4 c4) (ofN 6 [ofN 11 [callN 0 0], wordN ⟨#[97]⟩])) := A4
 clear A4 b4 B3
 go_wp2_with fail
 refine (call_any' _ 0 0).mono ?_
 rintro e x5 hm
 obtain ⟨o5, n5, c5, rfl, A5, b5⟩ := hm.ars (by show okN (callN 0 0); unfold okN; decide +kernel)
 have B5 := Lib.hid (B4.out.trans (b5.mono B4.out.size))
 have H0 := Lib.hid (H0.out.below b5)
 have H4 := Lib.hid (H4.out.below b5)
 have H5 : Hid (Ar x5 (.slice o5 n5 c5) (callN 0 0)) := A5
 clear A5 b5 B4
 go_wp2_with fail
 refine (word_any _ ⟨#[98]⟩).mono ?_
 rintro e x6 hm
 obtain ⟨o6, n6, c6, rfl, A6, b6⟩ := hm.ars (by show okN (wordN ⟨#[98]⟩); unfold okN; decide +kernel)
 have B6 := Lib.hid (B5.out.trans (b6.mono B5.out.size))
 have H0 := Lib.hid (H0.out.below b6)
 have H4 := Lib.hid (H4.out.below b6)
 have H5 := Lib.hid (H5.out.below b6)
 have H6 : Hid (Ar x6 (.slice o6 n6 c6) (wordN ⟨#[98]⟩)) := A6
 clear A6 b6 B5
 go_wp2_with fail
 refine (chain_any _ _ _ _ _ H5.out H6.out (by unfold okN; decide +kernel) (by unfold okN; decide +kernel)).mono ?_
 rintro e x7 hm
 obtain ⟨o7, n7, c7, rfl, A7, b7⟩ := hm.ars (by show okN (ofN 6 [callN 0 0, wordN ⟨#[98]⟩]); unfold okN; decide +kernel)
 have B7 := Lib.hid (B6.out.trans (b7.mono B6.out.size))
 have H0 := Lib.hid (H0.out.below b7)
 have H4 := Lib.hid (H4.out.below b7)
 have H7 : Hid (Ar x7 (.slice o7 n7 c7) (ofN 6 [callN 0 0, wordN ⟨#[98]⟩])) := A7
 clear A7 b7 B6
 go_wp2_with fail
 refine (word_any _ ⟨#[97]⟩).mono ?_
 rintro e x8 hm
 obtain ⟨o8, n8, c8, rfl, A8, b8⟩ := hm.ars (by show okN (wordN ⟨#[97]⟩); unfold okN; decide +kernel)
 have B8 := Lib.hid (B7.out.trans (b8.mono B7.out.size))
 have H0 := Lib.hid (H0.out.below b8)
 have H4 := Lib.hid (H4.out.below b8)
 have H7 := Lib.hid (H7.out.below b8)
 have H8 : Hid (Ar x8 (.slice o8 n8 c8) (wordN ⟨#[97]⟩)) := A8
 clear A8 b8 B7
 go_wp2_with fail
 refine (in_any _ 12 _ _ H8.out (by unfold okN; decide +kernel)).mono ?_
 rintro e x9 hm
 obtain ⟨o9, n9, c9, rfl, A9, b9⟩ := hm.ars (by show okN (ofN 12 [wordN ⟨#[97]⟩]); unfold okN; decide +kernel)
 have B9 := Lib.hid (B8.out.trans (b9.mono B8.out.size))
 have H0 := Lib.hid (H0.out.below b9)
 have H4 := Lib.hid (H4.out.below b9)
 have H7 := Lib.hid (H7.out.below b9)
 have H9 : Hid (Ar x9 (.slice o9 n9 c9) (ofN 12 [wordN ⟨#[97]⟩])) := A9
 clear A9 b9 B8
 go_wp2_with fail
 refine (leaf_any _ 2).mono ?_
 rintro e x10 hm
 obtain ⟨o10, n10, c10, rfl, A10, b10⟩ := hm.ars (by show okN (leafN 2); unfold okN; decide +kernel)
 have B10 := Lib.hid (B9.out.trans (b10.mono B9.out.size))
 have H0 := Lib.hid (H0.out.below b10)
 have H4 := Lib.hid (H4.out.below b10)
 have H7 := Lib.hid (H7.out.below b10)
 have H9 := Lib.hid (H9.out.below b10)
 have H10 : Hid (Ar x10 (.slice o10 n10 c10) (leafN 2)) := A10
 clear A10 b10 B9
 go_wp2_with fail
 refine (chain_any _ _ _ _ _ H9.out H10.out (by unfold okN; decide +kernel) (by unfold okN; decide +kernel)).mono ?_
 rintro e x11 hm
 obtain ⟨o11, n11, c11, rfl, A11, b11⟩ := hm.ars (by show okN (ofN 6 [ofN 12 [wordN ⟨#[97]⟩], leafN 2]); unfold okN; decide +kernel)
 have B11 := Lib.hid (B10.out.trans (b11.mono B10.out.size))
 have H0 := Lib.hid (H0.out.below b11)
 have H4 := Lib.hid (H4.out.below b11)
 have H7 := Lib.hid (H7.out.below b11)
 have H11 : Hid (Ar x11 (.slice o11 n11 c11) (ofN 6 [ofN 12 [wordN ⟨#[97]⟩], leafN 2])) := A11
 clear A11 b11 B10
 go_wp2_with fail
 refine (ofs_any _ 7 [(.slice o4 n4 c4, ofN 6 [ofN 11 [callN 0 0], wordN ⟨#[97]⟩]), (.slice o7 n7 c7, ofN 6 [callN 0 0, wordN ⟨#[98]⟩]), (.slice o11 n11 c11, ofN 6 [ofN 12 [wordN ⟨#[97]⟩], leafN 2])] 3 rfl (by decide) (by simp only [List.mem_cons, List.not_mem_nil, or_false, forall_eq, forall_eq_or_imp]; exact ⟨H4.out, H7.out, H11.out⟩) (by simp only [List.mem_cons, List.not_mem_nil, or_false, forall_eq, forall_eq_or_imp]; unfold okN; decide +kernel)).mono ?_
 rintro e x12 hm
 obtain ⟨o12, n12, c12, rfl, A12, b12⟩ := hm.ars (by show okN (ofN 7 [ofN 6 [ofN 11 [callN 0 0], wordN ⟨#[97]⟩], ofN 6 [callN 0 0, wordN ⟨#[98]⟩], ofN 6 [ofN 12 [wordN ⟨#[97]⟩], leafN 2]]); unfold okN; decide +kernel)
 have B12 := Lib.hid (B11.out.trans (b12.mono B11.out.size))
 have H0 := Lib.hid (H0.out.below b12)
 have H12 : Hid (Ar x12 (.slice o12 n12 c12) (ofN 7 [ofN 6 [ofN 11 [callN 0 0], wordN ⟨#[97]⟩], ofN 6 [callN 0 0, wordN ⟨#[98]⟩], ofN 6 [ofN 12 [wordN ⟨#[97]⟩], leafN 2]])) := A12
 clear A12 b12 B11
 go_wp2_with fail
 refine (gram_gr _ [(.slice o12 n12 c12, ofN 7 [ofN 6 [ofN 11 [callN 0 0], wordN ⟨#[97]⟩], ofN 6 [callN 0 0, wordN ⟨#[98]⟩], ofN 6 [ofN 12 [wordN ⟨#[97]⟩], leafN 2]])] 1 rfl (by decide) (by simp only [List.mem_cons, List.not_mem_nil, or_false, forall_eq]; exact H12.out) (by simp only [List.mem_cons, List.not_mem_nil, or_false, forall_eq]; unfold okN; decide +kernel)).mono ?_
 rintro e wg ⟨ro, rn, rc, no, nn, nc, NK, rfl, hg, hb⟩
 have HZg := Lib.hid (H0.out.below hb)
 have HGg := Lib.hid hg
 have HBg := Lib.hid (B12.out.trans (hb.mono B12.out.size))
 clear hg hb
 obtain ⟨zq0, zq1⟩ := (HZg.out).c2
 obtain ⟨zf0, zf1⟩ := (HZg.out).f2
 have zr := set2_row (.slice ro rn rc) (.slice no nn nc) HZg.out
 have zg := (HGg.out.mono (B12.out.size)).set2 HZg.out (.slice ro rn rc) (.slice no nn nc)
 have zf := set2_fr wg h0 (.slice ro rn rc) (.slice no nn nc)
 unfold set2 at zr zf zg
 have ZR := Lib.hid zr
 have ZF := Lib.hid zf
 have HGz := Lib.hid zg
 clear zr zf zg
 go_wp2_with fail
 revert ZR ZF HGz
 generalize (wg.setCell _ _).setCell _ _ = wz
 intro ZR ZF HGz
 obtain ⟨zc0, zc1⟩ := (ZR.out).c2
 exact bodyPost_ret (v := .agg #[.slice ro rn rc, .slice no nn nc]) (by simp [results, Try.results12, go_sem, zc0, zc1]) rfl ⟨ro, rn, rc, no, nn, nc, NK, rfl, HGz.out, HBg.out.trans (ZF.out.below HBg.out.size (fun k hk e => by have e' : k = h0 := e; have := HH.out; omega))⟩
end Go.Proofs.Ytdnkffplkleolaa
