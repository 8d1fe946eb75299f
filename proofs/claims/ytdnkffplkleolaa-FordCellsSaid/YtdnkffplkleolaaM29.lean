/- Walks and plain laws: W4 W8 W9. -/
import Derived.Test.YtdnkffplkleolaaM03
import Derived.Laws.RangeAny
import Derived.Lib.OthersKept
import Derived.BigQuiet
import Derived.Laws.EntriesVeiled
import Derived.Test.YtdnkffplkleolaaM17
import Derived.BigRegion
namespace Go.Proofs.Ytdnkffplkleolaa
open Go.RowKit
set_option maxRecDepth 100000
set_option maxHeartbeats 2000000

/-- A letter, by its number. -/
def letC (c : Int) : Bool := (decide (97 ≤ c) && decide (c ≤ 122)) || (decide (65 ≤ c) && decide (c ≤ 90)) || c == 95
def oddC (c : Int) : Bool := !letC c && (decide (c < 48) || decide (57 < c))

theorem letter_any (w : World) (c : Int) : Calls Try.prog 74 #[.int .i32 c] w fun e w' => e = .returned (.bool (letC c)) ∧ w = w' := by
 go_enter Try.func74, Try.ntmps74
 go_wp2_with fail
 all_goals
  go_ret
  refine ⟨ret_bool ?_, rfl⟩
  unfold letC
  rw [Bool.eq_iff_iff]
  simp
  try omega

theorem odd_any (w : World) (p : Addr) (hp : w.cell? p = some (.func (.func 74) #[] #[])) (c : Int) : Calls Try.prog 75 #[.int .i32 c, .pointer (some p)] w fun e w' => e = .returned (.bool (oddC c)) ∧ w = w' := by
 go_enter Try.func75, Try.ntmps75
 go_wp2_with fail
 refine (letter_any _ c).mono ?_
 rintro e w2 ⟨rfl, rfl⟩
 cases hx : letC c
 all_goals
  have HX := Lib.hid hx; clear hx
  go_wp2_with fail
  all_goals
   go_ret
   refine ⟨ret_bool ?_, rfl⟩
   unfold oddC
   rw [HX.out, Bool.eq_iff_iff]
   simp
   try omega

/-- All bytes, from one on, are letters or digits. -/
def okFrom (s : ByteArray) (i : Nat) : Prop := ∀ j, i ≤ j → (h : j < s.size) → letB (s[j]'h).toNat = true ∨ digB (s[j]'h).toNat = true
theorem letC_B (c : Nat) : letC (c : Int) = letB c := by
 unfold letC letB
 rw [Bool.eq_iff_iff]
 simp
 omega
theorem oddC_B (c : Nat) : oddC (c : Int) = !(letB c || digB c) := by
 unfold oddC
 rw [letC_B]
 unfold digB
 rw [Bool.eq_iff_iff]
 simp
 omega
theorem oddC_high (c : Nat) (h : 128 ≤ c) : oddC (c : Int) = true := by
 rw [oddC_B]
 unfold letB digB
 simp
 omega
def okAt (s : ByteArray) (j : Nat) (h : j < s.size) : Prop := letB (s[j]'h).toNat = true ∨ digB (s[j]'h).toNat = true
/-- What comes of the search for a byte that is none of a name's. -/
def OddIs (s : ByteArray) (r : Int) : Prop := (r = -1 ∧ okFrom s 0) ∨ ∃ pos : Nat, ∃ h : pos < s.size, r = pos ∧ ¬ okAt s pos h ∧ ∀ j, (hj : j < pos) → okAt s j (Nat.lt_trans hj h)
theorem OddIs.one {s : ByteArray} {r r' : Int} (h : OddIs s r) (k : OddIs s r') : r = r' := by
 rcases h with ⟨h1, h2⟩ | ⟨p, hp, h1, h2, h3⟩ <;> rcases k with ⟨k1, k2⟩ | ⟨q, hq, k1, k2, k3⟩
 ·omega
 ·exact absurd (k2 |> fun h => h) (fun hn => hn (h2 q (by omega) hq))
 ·exact absurd (h2 |> fun h => h) (fun hn => hn (k2 p (by omega) hp))
 ·by_cases h : p = q
  ·omega
  ·by_cases hlt : p < q
   ·exact absurd (k3 p hlt) h2
   ·exact absurd (h3 q (by omega)) k2
noncomputable def oddIx (s : ByteArray) : Int := @dite _ (∃ r, OddIs s r) (Classical.propDecidable _) (fun h => Classical.choose h) (fun _ => 0)
theorem oddIx_eq {s : ByteArray} {r : Int} (h : OddIs s r) : oddIx s = r := by
 unfold oddIx
 rw [dif_pos ⟨r, h⟩]
 exact (Classical.choose_spec (p := fun r => OddIs s r) ⟨r, h⟩).one h
def OddAt (s : ByteArray) (w : World) (e : Ending) (w' : World) : Prop := e = .returned (.int .i64 (oddIx s)) ∧ OddIs s (oddIx s) ∧ Below w.heap.size w w'

theorem indexF_any (w : World) (s : ByteArray) (hs : s.size ≤ 1000000) (p : Addr) (hp : w.cell? p = some (.func (.func 74) #[] #[])) :
  Calls Try.prog 93 #[.string s, .func (.func 75) #[] #[.pointer (some p)], .bool true] w (OddAt s w) := by
 have hpb := World.block_lt_of_cell? w _ hp
 have HP := Lib.hid hp; clear hp
 go_enter Try.func93, Try.ntmps93
 go_wp2_with fail
 go_loopw [11] (fun _ wr => ∃ pos : Nat, pos ≤ s.size ∧ Hid (wr.heap[w.heap.size]? = some (.stringIter s pos)) ∧ Hid (Below w.heap.size w wr) ∧ Hid (∀ j, j < pos → (h : j < s.size) → okAt s j h)) (fun _ w' => s.size - w'.iterPos w.heap.size)
 case atStart => exact ⟨0, by omega, World.iter_heap w s 0, (Below.refl _ _).alloc (Nat.le_refl _) _, fun j h => absurd h (by omega)⟩
 case round =>
  obtain ⟨pos, hpos, HI, HB, HO⟩ := hrel
  by_cases hp : pos < s.size
  ·have hnx : ∀ ty, (Instr.next (.pointer (some ⟨w.heap.size, 0, none⟩)) true ty).run Try.prog wr = _ := fun ty => Lib.run_next_any_at wr w.heap.size s pos ty HI.out hp
   have HI2 := Lib.hid (Lib.iterAt_heap wr w.heap.size s pos (pos + (Utf8.decode s pos).2) HI.out)
   have HB2 := Lib.hid (Lib.below_iterAt HB.out (k := w.heap.size) (Nat.le_refl _) s (pos + (Utf8.decode s pos).2))
   have HD : Hid (oddC (((Utf8.decode s pos).1 : Nat) : Int) = true ∧ ¬ okAt s pos hp ∨ oddC (((Utf8.decode s pos).1 : Nat) : Int) = false ∧ (Utf8.decode s pos).2 = 1 ∧ okAt s pos hp) := by
    by_cases ha : (s[pos]'hp).toNat < 128
    ·have hd := decode_ascii s pos hp ha
     rw [hd]
     simp only []
     rw [oddC_B]
     by_cases hok : (letB (s[pos]'hp).toNat || digB (s[pos]'hp).toNat) = true
     ·exact .inr ⟨by rw [hok]; rfl, trivial, by unfold okAt; simpa using hok⟩
     ·exact .inl ⟨by simpa using hok, fun h => hok (by unfold okAt at h; simpa using h)⟩
    ·have hd := decode_high s pos hp (by omega)
     refine .inl ⟨oddC_high _ hd.1, fun h => ?_⟩
     unfold okAt letB digB at h
     simp at h
     omega
   have hle := decode_le s pos
   generalize Utf8.decode s pos = d at *
   obtain ⟨c, k⟩ := d
   simp only [] at hnx HI2 HB2 HD hle
   generalize wr.iterAt w.heap.size s (pos + k) = w2 at *
   have hp2 : w2.cell? p = some (.func (.func 74) #[] #[]) := (HB2.out.cell hpb).trans HP.out
   go_wp2_with fail
   refine (odd_any w2 p hp2 c).mono ?_
   rintro e w3 ⟨rfl, rfl⟩
   clear hnx hp2
   rcases HD.out with ⟨h1, h2⟩ | ⟨h1, h2, h3⟩
   ·rw [h1]
    have H2 := Lib.hid h2
    clear h1 h2
    go_wp2_with fail
    go_ret
    have ho : OddIs s pos := .inr ⟨pos, hp, rfl, H2.out, fun j hj => HO.out j hj _⟩
    have he := oddIx_eq ho
    exact ⟨by rw [he]; rfl, by rw [he]; exact ho, HB2.out⟩
   ·rw [h1]
    subst h2
    have H3 := Lib.hid h3
    clear h1 h3
    go_wp2_with fail
    go_roundw
    case rel => exact ⟨pos + 1, by omega, HI2.out, HB2.out, fun j hj h => by
     by_cases e : j = pos
     ·subst e; exact H3.out
     ·exact HO.out j (by omega) h⟩
    case measure =>
     have e1 : w2.iterPos w.heap.size = pos + 1 := by unfold World.iterPos; rw [HI2.out]
     have e2 : wr.iterPos w.heap.size = pos := by unfold World.iterPos; rw [HI.out]
     rw [e1, e2]; omega
  ·have hnx : ∀ ty, (Instr.next (.pointer (some ⟨w.heap.size, 0, none⟩)) true ty).run Try.prog wr = _ := fun ty => Lib.run_next_end_at wr w.heap.size s pos ty HI.out hp
   have H0 : Hid (OddIs s (-1)) := .inl ⟨rfl, fun j _ h => HO.out j (by omega) h⟩
   go_wp2_with fail
   go_ret
   exact ⟨by rw [oddIx_eq H0.out]; rfl, by rw [oddIx_eq H0.out]; exact H0.out, HB.out⟩

theorem indexP_any (w : World) (s : ByteArray) (hs : s.size ≤ 1000000) (p : Addr) (hp : w.cell? p = some (.func (.func 74) #[] #[])) :
  Calls Try.prog 76 #[.string s, .func (.func 75) #[] #[.pointer (some p)]] w (OddAt s w) := by
 have HX := Lib.hid (indexF_any w s hs p hp)
 clear hp
 go_enter Try.func76, Try.ntmps76
 go_wp2_with fail
 refine HX.out.mono ?_
 rintro e w2 ⟨rfl, hr, hb⟩
 have HR := Lib.hid hr
 have HB := Lib.hid hb
 clear hr hb
 go_wp2_with fail
 go_ret
 exact ⟨rfl, HR.out, HB.out⟩

theorem nameB_iff (s : ByteArray) : nameB s = true ↔ 1 ≤ s.size ∧ s.size ≤ 32 ∧ okFrom s 0 ∧ (∀ h : 0 < s.size, letB (s[0]'h).toNat = true) := by
 have hg : ∀ i (h : i < s.size), s.get! i = s[i]'h := fun i h => by
  simp [ByteArray.get!, getElem!_pos, h]
  rfl
 unfold nameB okFrom
 simp only [Bool.and_eq_true, decide_eq_true_eq, List.all_eq_true, List.mem_range, Bool.or_eq_true]
 constructor
 ·rintro ⟨⟨h1, h2⟩, h3⟩
  refine ⟨h1, h2, fun j _ hj => ?_, fun h => ?_⟩
  ·have := h3 j hj
   rw [hg j hj] at this
   rcases this with h | h
   ·exact .inl h
   ·exact .inr h.2
  ·have := h3 0 h
   rw [hg 0 h] at this
   rcases this with h | h
   ·exact h
   ·omega
 ·rintro ⟨h1, h2, h3, h4⟩
  refine ⟨⟨h1, h2⟩, fun i hi => ?_⟩
  rw [hg i hi]
  by_cases h0 : i = 0
  ·subst h0; exact .inl (h4 hi)
  ·rcases h3 i (by omega) hi with h | h
   ·exact .inl h
   ·exact .inr ⟨by omega, h⟩

theorem wrap_byte (c : UInt8) : wrap32 (c.toNat : Int) = c.toNat := by
 have := c.toNat_lt
 unfold wrap32
 omega
theorem oddIx_is (s : ByteArray) : OddIs s (oddIx s) := by
 by_cases h : ∃ r, OddIs s r
 ·obtain ⟨r, h⟩ := h
  rw [oddIx_eq h]; exact h
 ·exfalso
  by_cases hk : okFrom s 0
  ·exact h ⟨-1, .inl ⟨rfl, hk⟩⟩
  ·have : ∃ n, ∃ hn : n < s.size, ¬ okAt s n hn := by
    refine Classical.byContradiction fun hc => hk fun j _ hj => ?_
    refine Classical.byContradiction fun hj' => hc ⟨j, hj, hj'⟩
   have hmin : ∀ m, (∃ n, n ≤ m ∧ ∃ hn : n < s.size, ¬ okAt s n hn) → ∃ r, OddIs s r := by
    intro m
    induction m with
    | zero =>
     rintro ⟨n, h1, hn, h2⟩
     obtain rfl : n = 0 := by omega
     exact ⟨0, .inr ⟨0, hn, rfl, h2, fun j hj => absurd hj (by omega)⟩⟩
    | succ m ih =>
     rintro ⟨n, h1, hn, h2⟩
     by_cases hc : ∃ n', n' ≤ m ∧ ∃ hn' : n' < s.size, ¬ okAt s n' hn'
     ·exact ih hc
     ·refine ⟨(n : Int), .inr ⟨n, hn, rfl, h2, fun j hj => ?_⟩⟩
      exact Classical.byContradiction fun hj' => hc ⟨j, by omega, Nat.lt_trans hj hn, hj'⟩
   obtain ⟨n, hn, h2⟩ := this
   exact h (hmin n ⟨n, Nat.le_refl _, hn, h2⟩)
theorem oddIx_neg (s : ByteArray) : oddIx s < 0 ↔ okFrom s 0 := by
 rcases oddIx_is s with ⟨h1, h2⟩ | ⟨p, hp, h1, h2, _⟩
 ·rw [h1]; exact ⟨fun _ => h2, fun _ => by decide⟩
 ·rw [h1]; exact ⟨fun h => by omega, fun h => absurd (h p (by omega) hp) h2⟩

theorem name_any (w : World) (s : ByteArray) (hs : s.size ≤ 9223372036854775807) : Calls Try.prog 66 #[.string s] w fun e w' => e = .returned (.bool (nameB s)) ∧ Below w.heap.size w w' := by
 have HN := Lib.hid (nameB_iff s)
 have HBw : Hid (∀ x : Value, Below w.heap.size w ((w.alloc (.cells #[x] 141)))) := fun x => (Below.refl _ _).alloc (Nat.le_refl _) _
 by_cases h0 : s.size = 0
 ·have hf : nameB s = false := by
   cases hx : nameB s
   ·rfl
   ·have := HN.out.1 hx; omega
  rw [hf]
  have hnil : s.toList = [] := str_nil.2 h0
  have hnil2 : (!s.toList.isEmpty) = false := by rw [hnil]; rfl
  clear HN hf h0
  go_enter Try.func66, Try.ntmps66
  go_wp2_with fail
  refine wp_region_later (by kernel_rfl) (by kernel_rfl) ?_
  repeat (go_big_quiet_step (fail))
  refine wpQuiet_nil ?_
  intro w5 hw5
  obtain ⟨y, rfl⟩ := hw5
  have HB5 := Lib.hid ((HBw.out _).trans (y.ok.mono (HBw.out _).size))
  go_wp2_with fail
  go_ret
  exact ⟨rfl, HB5.out⟩
 ·have hnn : ¬ s.toList = [] := fun h => h0 (str_nil.1 h)
  have hnn2 : (!s.toList.isEmpty) = true := by cases hl : s.toList <;> simp_all
  by_cases h32 : s.size ≤ 32
  ·have h32' : (s.size : Int) ≤ 32 := by omega
   have HIx := Lib.hid (fun (w' : World) (hc : w'.cell? ⟨w.heap.size, 0, none⟩ = some (.func (.func 74) #[] #[])) => indexP_any w' s (by omega) ⟨w.heap.size, 0, none⟩ hc)
   have HON := Lib.hid (oddIx_neg s)
   have h0' : (0 : Int) < s.size := by omega
   have h0n : 0 < s.size := by omega
   have hget := letC_B (s[0]'(by omega)).toNat
   go_enter Try.func66, Try.ntmps66
   go_wp2_with fail
   have HB0 := Lib.hid (HBw.out (.func (.func 74) #[] #[]))
   have HR0 := Lib.hid (hrow.new w #[.func (.func 74) #[] #[]] 141)
   revert HB0 HR0
   generalize w.alloc (.cells #[.func (.func 74) #[] #[]] 141) = W0
   generalize hg : w.heap.size = g at HIx
   intro HB0 HR0
   have hcy : ∀ y : Later W0, y.val.cell? ⟨g, 0, none⟩ = some (.func (.func 74) #[] #[]) := fun y => (HR0.out.below y.ok).cell 0
   have HI := Lib.hid (fun y : Later W0 => (HIx.out y.val (hcy y)).mono fun e w' h => (⟨h.1, h.2.2⟩ : e = .returned (.int .i64 (oddIx s)) ∧ Below y.val.heap.size y.val w'))
   have HB1 : Hid (Below w.heap.size w W0) := by show Below w.heap.size w W0; rw [hg]; exact HB0.out
   have HG := Lib.hid hg
   clear HIx HBw hg
   by_cases hneg : oddIx s < 0
   ·have hres : nameB s = letC ((s[0]'(by omega)).toNat : Int) := by
     rw [hget, Bool.eq_iff_iff, HN.out]
     exact ⟨fun h => h.2.2.2 (by omega), fun h => ⟨by omega, h32, HON.out.1 hneg, fun _ => h⟩⟩
    have HRes := Lib.hid hres
    clear HN HON hget hres h0
    generalize oddIx s = ix at *
    refine wp_region_later (by kernel_rfl) (by kernel_rfl) ?_
    repeat (go_big_quiet_step (first | (go_at_call 76; exact Calls.later (HI.out _)) | (go_at_call 74; exact Calls.later_same (letter_any _ _))))
    refine wpQuiet_nil ?_
    intro w5 hw5
    obtain ⟨y, rfl⟩ := hw5
    have HB5 := Lib.hid (HB1.out.trans (y.ok.mono HB1.out.size))
    go_wp2_with fail
    go_ret
    exact ⟨ret_bool (by rw [wrap_byte]; exact HRes.out.symm), by first | exact HB5.out | (rw [HG.out]; exact HB5.out) | (rw [← HG.out]; exact HB5.out)⟩
   ·have hf : nameB s = false := by
     cases hx : nameB s
     ·rfl
     ·exact absurd (HON.out.2 (HN.out.1 hx).2.2.1) hneg
    have hd : decide (oddIx s < 0) = false := decide_eq_false hneg
    have HF := Lib.hid hf
    clear HN HON hget hf h0
    generalize oddIx s = ix at *
    refine wp_region_later (by kernel_rfl) (by kernel_rfl) ?_
    repeat (go_big_quiet_step (first | (go_at_call 76; exact Calls.later (HI.out _)) | (go_at_call 74; exact Calls.later_same (letter_any _ _))))
    refine wpQuiet_nil ?_
    intro w5 hw5
    obtain ⟨y, rfl⟩ := hw5
    have HB5 := Lib.hid (HB1.out.trans (y.ok.mono HB1.out.size))
    go_wp2_with fail
    go_ret
    exact ⟨ret_bool HF.out.symm, by first | exact HB5.out | (rw [HG.out]; exact HB5.out) | (rw [← HG.out]; exact HB5.out)⟩
  ·have hf : nameB s = false := by
    cases hx : nameB s
    ·rfl
    ·have := HN.out.1 hx; omega
   rw [hf]
   have h32' : (32 : Int) < s.size := by omega
   have hd : decide ((s.size : Int) ≤ 32) = false := decide_eq_false (by omega)
   clear HN hf h0 h32
   go_enter Try.func66, Try.ntmps66
   go_wp2_with fail
   refine wp_region_later (by kernel_rfl) (by kernel_rfl) ?_
   repeat (go_big_quiet_step (fail))
   refine wpQuiet_nil ?_
   intro w5 hw5
   obtain ⟨y, rfl⟩ := hw5
   have HB5 := Lib.hid ((HBw.out _).trans (y.ok.mono (HBw.out _).size))
   go_wp2_with fail
   go_ret
   exact ⟨rfl, HB5.out⟩
end Go.Proofs.Ytdnkffplkleolaa
namespace Go.Proofs.Ytdnkffplkleolaa
open Go.RowKit
set_option maxRecDepth 100000
set_option maxHeartbeats 4000000

/-- What 'whole' tells. -/
def WholeOut (w : World) (b : Bool) (e : Ending) (w' : World) : Prop := ∃ (p q : Option Addr) (n : Nat), e = .returned (.tuple #[.agg #[.slice p n n, .slice q n n], .bool b]) ∧ Below w.heap.size w w'

theorem rightP_siz {G : Gr} (h : ¬ (1 ≤ G.rules.length ∧ G.rules.length ≤ 32 ∧ G.nodes.length ≤ 2048)) : rightP G = false := by
 have h0 : sizB G = false := by
  unfold sizB
  rw [Bool.eq_false_iff]
  intro h'
  simp only [Bool.and_eq_true, decide_eq_true_eq] at h'
  omega
 unfold rightP
 rw [h0]; simp
theorem rightP_nod {G : Gr} (h : G.nodes.all (nodeB G.rules.length) = false) : rightP G = false := by
 unfold rightP
 rw [h]; simp
theorem rightP_tab {G : Gr} (h : tabs G.nodes G.nodes.length = none) : rightP G = false := by
 unfold rightP
 rw [h]; simp
theorem rightP_run {G : Gr} {T : List (Nat × Nat)} (h1 : 1 ≤ G.rules.length ∧ G.rules.length ≤ 32 ∧ G.nodes.length ≤ 2048) (h2 : G.nodes.all (nodeB G.rules.length) = true) (h3 : tabs G.nodes G.nodes.length = some T) :
  rightP G = (rulP G T G.rules 0 0 == some G.nodes.length) := by
 unfold rightP sizB
 rw [h2, h3]
 simp [h1.1, h1.2.1, h1.2.2]

theorem whole_small (w : World) (ro : Option Addr) (rn rc : Nat) (no : Option Addr) (nn nc : Nat) (G : Gr) (hr : rn ≤ rc ∧ rc ≤ 9223372036854775807) (hn : nn ≤ nc ∧ nc ≤ 9223372036854775807) (e1 : G.rules.length = rn) (e2 : G.nodes.length = nn)
  (hsz : ¬ (1 ≤ rn ∧ rn ≤ 32 ∧ nn ≤ 2048)) :
  Calls Try.prog 52 #[grv ro rn rc no nn nc] w (WholeOut w (rightP G)) := by
 obtain ⟨b1, b2⟩ := hr
 obtain ⟨b3, b4⟩ := hn
 rw [rightP_siz (by rw [e1, e2]; exact hsz)]
 have HB := Lib.hid (fun x : Value => al2 (Below.refl w.heap.size w) (.cells #[.slice ro rn rc, .slice no nn nc] 25) (.cells #[x, x] 112))
 unfold grv
 clear e1 e2
 by_cases h1 : rn = 0
 ·subst h1
  clear hsz
  go_enter Try.func52, Try.ntmps52
  go_wp2_with fail
  exact bodyPost_ret (v := .tuple #[.agg #[.slice none 0 0, .slice none 0 0], .bool false]) (by simp [results, Try.results52, go_sem]) rfl ⟨_, _, _, rfl, HB.out _⟩
 ·have t1 : ((rn : Int) == 0) = false := by simp; omega
  by_cases h2 : rn ≤ 32
  ·have h2' : (rn : Int) ≤ 32 := by omega
   have h3 : (2048 : Int) < nn := by omega
   clear hsz
   go_enter Try.func52, Try.ntmps52
   go_wp2_with fail
   exact bodyPost_ret (v := .tuple #[.agg #[.slice none 0 0, .slice none 0 0], .bool false]) (by simp [results, Try.results52, go_sem]) rfl ⟨_, _, _, rfl, HB.out _⟩
  ·have h2' : (32 : Int) < rn := by omega
   clear hsz
   go_enter Try.func52, Try.ntmps52
   go_wp2_with fail
   exact bodyPost_ret (v := .tuple #[.agg #[.slice none 0 0, .slice none 0 0], .bool false]) (by simp [results, Try.results52, go_sem]) rfl ⟨_, _, _, rfl, HB.out _⟩

theorem same2 {w : World} {g : Nat} {a b : Value} {t : TypeId} (x y : Value) (h : hrow w g #[a, b] t) : hrow ((w.setCell ⟨g, 0, none⟩ x).setCell ⟨g, 1, none⟩ y) g #[x, y] t := by
 have h1 : hrow (w.setCell ⟨g, 0, none⟩ x) g #[x, b] t := heap_setCell_same _ _ _ _ _ _ h.h
 exact heap_setCell_same _ _ _ _ _ _ h1.h
theorem other2 {w : World} {g k : Nat} {cs : Array Value} {t : TypeId} (x y : Value) (h : hrow w k cs t) (hne : k ≠ g) : hrow ((w.setCell ⟨g, 0, none⟩ x).setCell ⟨g, 1, none⟩ y) k cs t :=
 (h.fr (Fr.setCell w ⟨g, 0, none⟩ x) hne).fr (Fr.setCell _ ⟨g, 1, none⟩ y) hne
theorem ne_row {w : World} {g k : Nat} {cs cs' : Array Value} {t t' : TypeId} (h : hrow w k cs t) (h' : hrow w g cs' t') (ht : t ≠ t') : k ≠ g := by
 rintro rfl
 have := h.h.symm.trans h'.h
 simp only [Option.some.injEq, Obj.cells.injEq] at this
 exact ht this.2.1
theorem rulP_cons {G : Gr} {T : List (Nat × Nat)} {l : List Ru} {i n : Nat} (h : i < l.length) : rulP G T (l.drop i) i n = if nameB (l[i]'h).name = true ∧ ruleIx G.rules (l[i]'h).name = i ∧ (l[i]'h).body = n ∧ n < G.nodes.length ∧ (T.getD n (0, 0)).2 ≤ 16 then rulP G T (l.drop (i + 1)) (i + 1) (n + (T.getD n (0, 0)).1) else none := by
 rw [List.drop_eq_getElem_cons h]
 rfl

theorem bad_of {C : Prop} [Decidable C] {x y : Option Nat} {z : Nat} {b : Bool} (h : (if C then x else none) = y) (hC : ¬ C) (hp : b = (y == some z)) : b = false := by
 rw [if_neg hC] at h
 rw [hp, ← h]; rfl

theorem whole_any (w : World) (ro : Option Addr) (rn rc : Nat) (no : Option Addr) (nn nc : Nat) (NK : List (Nd × (Option Addr × Nat))) (G : Gr) (hG : GrW w ro rn rc no nn nc NK G) :
  Calls Try.prog 52 #[grv ro rn rc no nn nc] w (WholeOut w (rightP G)) := by
 have hrl := hG.rul.n_eq ruc_len (by decide)
 have hnl : G.nodes.length = nn := by rw [← hG.eq, List.length_map]; exact hG.nod.sv.n_eq ndc_len (by decide)
 by_cases hsz : ¬ (1 ≤ rn ∧ rn ≤ 32 ∧ nn ≤ 2048)
 ·exact whole_small w ro rn rc no nn nc G hG.rul.bound hG.nod.sv.bound hrl hnl hsz
 have hsz' : 1 ≤ rn ∧ rn ≤ 32 ∧ nn ≤ 2048 := by omega
 obtain ⟨h1, h2, h3⟩ := hsz'
 obtain ⟨b1, b2⟩ := hG.rul.bound
 obtain ⟨b3, b4⟩ := hG.nod.sv.bound
 have t1 : ((rn : Int) == 0) = false := by simp; omega
 have h2' : (rn : Int) ≤ 32 := by omega
 have h3' : (nn : Int) ≤ 2048 := by omega
 have HG := Lib.hid hG
 have HRl := Lib.hid hrl
 have HNl := Lib.hid hnl
 have HB := Lib.hid (al2 (Below.refl w.heap.size w) (.cells #[.slice ro rn rc, .slice no nn nc] 25) (.cells #[.slice none 0 0, .slice none 0 0] 112))
 have HR0 : Hid (hrow ((w.alloc (.cells #[.slice ro rn rc, .slice no nn nc] 25)).alloc (.cells #[.slice none 0 0, .slice none 0 0] 112)) w.heap.size #[.slice ro rn rc, .slice no nn nc] 25) :=
  (hrow.new w #[.slice ro rn rc, .slice no nn nc] 25).below ((Below.refl _ _).alloc (Nat.le_refl _) _)
 have HR1 : Hid (hrow ((w.alloc (.cells #[.slice ro rn rc, .slice no nn nc] 25)).alloc (.cells #[.slice none 0 0, .slice none 0 0] 112)) (w.heap.size + 1) #[.slice none 0 0, .slice none 0 0] 112) := by
  have := hrow.new (w.alloc (.cells #[.slice ro rn rc, .slice no nn nc] 25)) #[.slice none 0 0, .slice none 0 0] 112
  rw [World.size_alloc] at this
  exact this
 unfold grv
 clear hG hrl hnl hsz
 go_enter Try.func52, Try.ntmps52
 go_wp2_with fail
 have HGe := Lib.hid (show (NK.map (·.1)).all (nodeB rn) = G.nodes.all (nodeB G.rules.length) by rw [HG.out.eq, HRl.out])
 revert HB HR0 HR1
 generalize (w.alloc (.cells #[.slice ro rn rc, .slice no nn nc] 25)).alloc (.cells #[.slice none 0 0, .slice none 0 0] 112) = W0
 intro HB HR0 HR1
 refine (contN_any W0 no nn nc NK (HG.out.below HB.out).nod ⟨w.heap.size, 0, none⟩ ro rn rc (HR0.out.cell 0)).mono ?_
 rintro e w2 ⟨rfl, hb⟩
 have HB2 := Lib.hid (HB.out.trans (hb.mono HB.out.size))
 have HR02 := Lib.hid (HR0.out.below hb)
 have HR12 := Lib.hid (HR1.out.below hb)
 clear hb HB HR0 HR1
 obtain ⟨bg0, bg1⟩ := (HR02.out).c2
 obtain ⟨bt0, bt1⟩ := (HR12.out).c2
 obtain ⟨bf0, bf1⟩ := (HR12.out).f2
 cases hall : (NK.map (·.1)).all (nodeB rn)
 ·have HF := Lib.hid (rightP_nod (HGe.out ▸ hall))
  clear hall
  go_wp2_with fail
  have HRz := Lib.hid (same2 (.slice none 0 0) (.slice none 0 0) HR12.out)
  have HBz := Lib.hid (((HB2.out.setCell (p := ⟨w.heap.size + 1, 0, none⟩) (by simp) (.slice none 0 0))).setCell (p := ⟨w.heap.size + 1, 1, none⟩) (by simp) (.slice none 0 0))
  revert HRz HBz
  generalize (w2.setCell ⟨w.heap.size + 1, 0, none⟩ (.slice none 0 0)).setCell ⟨w.heap.size + 1, 1, none⟩ (.slice none 0 0) = wz
  intro HRz HBz
  obtain ⟨bz0, bz1⟩ := (HRz.out).c2
  rw [HF.out]
  exact bodyPost_ret (v := .tuple #[.agg #[.slice none 0 0, .slice none 0 0], .bool false]) (by simp [results, Try.results52, go_sem, bz0, bz1]) rfl ⟨_, _, _, rfl, HBz.out⟩
 ·have HAll := Lib.hid (HGe.out ▸ hall)
  clear hall
  go_wp2_with fail
  refine (of_any w2 no nn nc NK (HG.out.below HB2.out).nod h3).mono ?_
  rintro e w3 ⟨a1, a2, S, H, b, rfl, hb3, hs, hh, hy, hno⟩
  have HB3 := Lib.hid (HB2.out.trans (hb3.mono HB2.out.size))
  have HR03 := Lib.hid (HR02.out.below hb3)
  have HR13 := Lib.hid (HR12.out.below hb3)
  have HSs := Lib.hid hs
  have HHs := Lib.hid hh
  have HY := Lib.hid hy
  have HNo := Lib.hid hno
  clear hb3 hs hh hy hno bg0 bg1 bt0 bt1 bf0 bf1 HR02 HR12 HB2
  obtain ⟨bt0, bt1⟩ := (HR13.out).c2
  obtain ⟨bf0, bf1⟩ := (HR13.out).f2
  go_upto_region 6 with (fail)
  have HRz := Lib.hid (same2 (.slice (some ⟨a1, 0, none⟩) nn nn) (.slice (some ⟨a2, 0, none⟩) nn nn) HR13.out)
  have HR0z := Lib.hid (other2 (g := w.heap.size + 1) (.slice (some ⟨a1, 0, none⟩) nn nn) (.slice (some ⟨a2, 0, none⟩) nn nn) HR03.out (by omega))
  have HSz := Lib.hid (other2 (g := w.heap.size + 1) (.slice (some ⟨a1, 0, none⟩) nn nn) (.slice (some ⟨a2, 0, none⟩) nn nn) HSs.out (ne_row HSs.out HR13.out (by decide)))
  have HHz := Lib.hid (other2 (g := w.heap.size + 1) (.slice (some ⟨a1, 0, none⟩) nn nn) (.slice (some ⟨a2, 0, none⟩) nn nn) HHs.out (ne_row HHs.out HR13.out (by decide)))
  have HBz := Lib.hid (((HB3.out.setCell (p := ⟨w.heap.size + 1, 0, none⟩) (by simp) (.slice (some ⟨a1, 0, none⟩) nn nn))).setCell (p := ⟨w.heap.size + 1, 1, none⟩) (by simp) (.slice (some ⟨a2, 0, none⟩) nn nn))
  revert HRz HR0z HSz HHz HBz
  generalize (w3.setCell ⟨w.heap.size + 1, 0, none⟩ (.slice (some ⟨a1, 0, none⟩) nn nn)).setCell ⟨w.heap.size + 1, 1, none⟩ (.slice (some ⟨a2, 0, none⟩) nn nn) = W4
  intro HRz HR0z HSz HHz HBz
  clear HR03 HR13 HSs HHs HB3 bt0 bt1 bf0 bf1
  have bg0 : W4.cell? ⟨w.heap.size, 0, none⟩ = some (.slice ro rn rc) := HR0z.out.cell 0
  cases b
  ·have HF := Lib.hid (rightP_tab (G := G) (by rw [HNl.out, ← HG.out.eq]; exact HNo.out rfl))
   go_wp2_with fail
   go_loopw [3, 4, 38] (fun t3 nx k wr => t3 = .bool false ∧ k = .int .i64 0 ∧ nx = .int .i64 0 ∧ Hid (Below W4.heap.size W4 wr)) (fun _ _ _ _ => 0)
   case atStart => exact ⟨rfl, rfl, rfl, Below.refl _ _⟩
   case round =>
    obtain ⟨rfl, rfl, rfl, HI⟩ := hrel
    have hi0 : (0 : Int) < rn := by omega
    have hi0n : 0 < rn := by omega
    obtain ⟨i, hi⟩ : ∃ i : Nat, i = 0 := ⟨0, rfl⟩
    have hil : 0 < G.rules.length := by have := HRl.out; omega
    obtain ⟨ra, rfl, hc⟩ := Sv.at ruc_len ((HG.out.below (HBz.out.trans (HI.out.mono HBz.out.size))).rul) (by decide) 0 hil
    have c0 : wr.cell? ra = some (.string (G.rules[0]'hil).name) := by have := hc 0 _ rfl; simpa [Addr.add] using this
    have c1 : wr.cell? ⟨ra.block, ra.off + 1, none⟩ = some (.int .i64 (G.rules[0]'hil).body) := by
     have := hc 1 _ rfl
     rw [add_off _ _ _ (by decide)] at this
     simpa [Addr.add] using this
    clear hc hi
    generalize G.rules[0]'hil = r at *
    have HRt := Lib.hid (HRz.out.below HI.out)
    have HBt := Lib.hid (HBz.out.trans (HI.out.mono HBz.out.size))
    have HN2 : Hid (Below wr.heap.size wr (wr.alloc (.cells #[.string r.name, .int .i64 r.body] 90))) := (Below.refl _ _).alloc (Nat.le_refl _) _
    have HRt2 := Lib.hid (HRt.out.below HN2.out)
    have HBt2 := Lib.hid (HBt.out.trans (HN2.out.mono HBt.out.size))
    have bt0 := HRt2.out.cell 0
    have bt1 := HRt2.out.cell 1
    obtain ⟨bf0, bf1⟩ := (HRt2.out).f2
    go_wp2_with fail
    have HRy := Lib.hid (same2 (.slice (some ⟨a1, 0, none⟩) nn nn) (.slice (some ⟨a2, 0, none⟩) nn nn) HRt2.out)
    have HBy := Lib.hid (((HBt2.out.setCell (p := ⟨w.heap.size + 1, 0, none⟩) (by simp) (.slice (some ⟨a1, 0, none⟩) nn nn))).setCell (p := ⟨w.heap.size + 1, 1, none⟩) (by simp) (.slice (some ⟨a2, 0, none⟩) nn nn))
    revert HRy HBy
    generalize ((wr.alloc (.cells #[.string r.name, .int .i64 r.body] 90)).setCell ⟨w.heap.size + 1, 0, none⟩ (.slice (some ⟨a1, 0, none⟩) nn nn)).setCell ⟨w.heap.size + 1, 1, none⟩ (.slice (some ⟨a2, 0, none⟩) nn nn) = wy
    intro HRy HBy
    obtain ⟨bz0, bz1⟩ := (HRy.out).c2
    rw [HF.out]
    exact bodyPost_ret (v := .tuple #[.agg #[.slice (some ⟨a1, 0, none⟩) nn nn, .slice (some ⟨a2, 0, none⟩) nn nn], .bool false]) (by simp [results, Try.results52, go_sem, bz0, bz1]) rfl ⟨_, _, _, rfl, HBy.out⟩
  ·obtain ⟨T, hT, hA⟩ := HY.out rfl
   have HT := Lib.hid (show tabs G.nodes G.nodes.length = some T by rw [HNl.out, ← HG.out.eq]; exact hT)
   have HA := Lib.hid hA
   have HP := Lib.hid (rightP_run (G := G) (by rw [HRl.out, HNl.out]; exact ⟨h1, h2, h3⟩) HAll.out HT.out)
   clear hT hA HY HNo
   go_wp2_with fail
   go_loopw [3, 4, 38] (fun t3 nx k wr => ∃ i n : Nat, t3 = .bool true ∧ k = .int .i64 i ∧ nx = .int .i64 n ∧ i ≤ rn ∧ n ≤ nn ∧ Hid (Below W4.heap.size W4 wr) ∧ Hid (rulP G T (G.rules.drop i) i n = rulP G T G.rules 0 0)) (fun _ _ k _ => rn - match k with | .int _ i => i.toNat | _ => 0)
   case atStart => exact ⟨0, 0, rfl, rfl, rfl, Nat.zero_le _, Nat.zero_le _, Below.refl _ _, rfl⟩
   case round =>
    obtain ⟨i, n, rfl, rfl, rfl, hi, hn, HI, HQ⟩ := hrel
    by_cases hit : i < rn
    ·have hit' : (i : Int) < rn := by omega
     have hil : i < G.rules.length := by have := HRl.out; omega
     obtain ⟨ra, rfl, hc⟩ := Sv.at ruc_len ((HG.out.below (HBz.out.trans (HI.out.mono HBz.out.size))).rul) (by decide) i hil
     have c0 : wr.cell? (ra.add (i * 2)) = some (.string (G.rules[i]'hil).name) := by have := hc 0 _ rfl; simpa [Addr.add] using this
     have c1 : wr.cell? ⟨(ra.add (i * 2)).block, (ra.add (i * 2)).off + 1, none⟩ = some (.int .i64 (G.rules[i]'hil).body) := by
      have := hc 1 _ rfl
      rw [add_off _ _ _ (by decide)] at this
      simpa [Addr.add] using this
     have hns : (G.rules[i]'hil).name.size ≤ 9223372036854775807 := HG.out.nam _ (List.getElem_mem hil)
     have HQ2 := Lib.hid ((rulP_cons (G := G) (T := T) (n := n) hil).symm.trans HQ.out)
     clear hc HQ
     generalize G.rules[i]'hil = r at *
     have HNs := Lib.hid hns
     have HRt := Lib.hid (HRz.out.below HI.out)
     have HR0t := Lib.hid (HR0z.out.below HI.out)
     have HSt := Lib.hid (HSz.out.below HI.out)
     have HHt := Lib.hid (HHz.out.below HI.out)
     have HN2 : Hid (Below wr.heap.size wr (wr.alloc (.cells #[.string r.name, .int .i64 r.body] 90))) := (Below.refl _ _).alloc (Nat.le_refl _) _
     have HNr := Lib.hid (hrow.new wr #[.string r.name, .int .i64 r.body] 90)
     have HRt2 := Lib.hid (HRt.out.below HN2.out)
     have HR0t2 := Lib.hid (HR0t.out.below HN2.out)
     have HSt2 := Lib.hid (HSt.out.below HN2.out)
     have HHt2 := Lib.hid (HHt.out.below HN2.out)
     have HBt2 := Lib.hid (HI.out.trans (HN2.out.mono HI.out.size))
     clear hns HRt HR0t HSt HHt HN2 hil
     have hiz : (0 : Int) ≤ i := by omega
     have bn0 : (wr.alloc (.cells #[.string r.name, .int .i64 r.body] 90)).cell? ⟨wr.heap.size, 0, none⟩ = _ := HNr.out.cell 0
     go_wp2_with fail
     clear bg0
     have HR2 := HRt2
     have HG2 := HR0t2
     have HN2 := HNr
     have HS2 := HSt2
     have HH2 := HHt2
     have HB2 := Lib.hid (HBz.out.trans (HBt2.out.mono HBz.out.size))
     have HI2 := HBt2
     clear HRt2 HR0t2 HNr HSt2 HHt2 HBt2
     refine (name_any _ r.name HNs.out).mono ?_
     rintro e w5 ⟨rfl, hb⟩
     have HR5 := Lib.hid (HR2.out.below hb)
     have HG5 := Lib.hid (HG2.out.below hb)
     have HN5 := Lib.hid (HN2.out.below hb)
     have HS5 := Lib.hid (HS2.out.below hb)
     have HH5 := Lib.hid (HH2.out.below hb)
     have HB5 := Lib.hid (HB2.out.trans (hb.mono HB2.out.size))
     have HI5 := Lib.hid (HI2.out.trans (hb.mono HI2.out.size))
     clear hb HR2 HG2 HN2 HS2 HH2 HB2
     clear bn0
     obtain ⟨bt0, bt1⟩ := (HR5.out).c2
     obtain ⟨bf0, bf1⟩ := (HR5.out).f2
     obtain ⟨bg0, bg1⟩ := (HG5.out).c2
     obtain ⟨bn0, bn1⟩ := (HN5.out).c2
     cases hnb : nameB r.name
     ·have HF := Lib.hid (bad_of HQ2.out (fun h => absurd (hnb.symm.trans h.1) (by decide)) HP.out)
      go_wp2_with fail
      have HRy := Lib.hid (same2 (.slice (some ⟨a1, 0, none⟩) nn nn) (.slice (some ⟨a2, 0, none⟩) nn nn) HR5.out)
      have HBy := Lib.hid (((HB5.out.setCell (p := ⟨w.heap.size + 1, 0, none⟩) (by simp) (.slice (some ⟨a1, 0, none⟩) nn nn))).setCell (p := ⟨w.heap.size + 1, 1, none⟩) (by simp) (.slice (some ⟨a2, 0, none⟩) nn nn))
      revert HRy HBy
      generalize (w5.setCell ⟨w.heap.size + 1, 0, none⟩ (.slice (some ⟨a1, 0, none⟩) nn nn)).setCell ⟨w.heap.size + 1, 1, none⟩ (.slice (some ⟨a2, 0, none⟩) nn nn) = wy
      intro HRy HBy
      obtain ⟨bz0, bz1⟩ := (HRy.out).c2
      rw [HF.out]
      exact bodyPost_ret (v := .tuple #[.agg #[.slice (some ⟨a1, 0, none⟩) nn nn, .slice (some ⟨a2, 0, none⟩) nn nn], .bool false]) (by simp [results, Try.results52, go_sem, bz0, bz1]) rfl ⟨_, _, _, rfl, HBy.out⟩
     ·go_wp2_with fail
      refine (rule_any w5 (some ra) rn rc (.slice no nn nc) G.rules (HG.out.below HB5.out).rul r.name no nn nc rfl).mono ?_
      rintro e w6 ⟨rfl, hb⟩
      have HR6 := Lib.hid (HR5.out.below hb)
      have HG6 := Lib.hid (HG5.out.below hb)
      have HN6 := Lib.hid (HN5.out.below hb)
      have HS6 := Lib.hid (HS5.out.below hb)
      have HH6 := Lib.hid (HH5.out.below hb)
      have HB6 := Lib.hid (HB5.out.trans (hb.mono HB5.out.size))
      have HI6 := Lib.hid (HI5.out.trans (hb.mono HI5.out.size))
      clear hb HR5 HG5 HN5 HS5 HH5 HB5
      clear bn0 bt0 bt1 bf0 bf1 bg0 bg1 bn1
      obtain ⟨bt0, bt1⟩ := (HR6.out).c2
      obtain ⟨bf0, bf1⟩ := (HR6.out).f2
      obtain ⟨bg0, bg1⟩ := (HG6.out).c2
      obtain ⟨bn0, bn1⟩ := (HN6.out).c2
      by_cases hri : ruleIx G.rules r.name = (i : Int)
      case neg =>
       have HF := Lib.hid (bad_of HQ2.out (fun h => hri h.2.1) HP.out)
       have hri2 : (ruleIx G.rules r.name != (i : Int)) = true := by simpa using hri
       generalize ruleIx G.rules r.name = rx at *
       go_wp2_with fail
       have HRy := Lib.hid (same2 (.slice (some ⟨a1, 0, none⟩) nn nn) (.slice (some ⟨a2, 0, none⟩) nn nn) HR6.out)
       have HBy := Lib.hid (((HB6.out.setCell (p := ⟨w.heap.size + 1, 0, none⟩) (by simp) (.slice (some ⟨a1, 0, none⟩) nn nn))).setCell (p := ⟨w.heap.size + 1, 1, none⟩) (by simp) (.slice (some ⟨a2, 0, none⟩) nn nn))
       revert HRy HBy
       generalize (w6.setCell ⟨w.heap.size + 1, 0, none⟩ (.slice (some ⟨a1, 0, none⟩) nn nn)).setCell ⟨w.heap.size + 1, 1, none⟩ (.slice (some ⟨a2, 0, none⟩) nn nn) = wy
       intro HRy HBy
       obtain ⟨bz0, bz1⟩ := (HRy.out).c2
       rw [HF.out]
       exact bodyPost_ret (v := .tuple #[.agg #[.slice (some ⟨a1, 0, none⟩) nn nn, .slice (some ⟨a2, 0, none⟩) nn nn], .bool false]) (by simp [results, Try.results52, go_sem, bz0, bz1]) rfl ⟨_, _, _, rfl, HBy.out⟩
      case pos =>
       have hri2 : (ruleIx G.rules r.name != (i : Int)) = false := by simp [hri]
       by_cases hbo : r.body = (n : Int)
       case neg =>
        have HF := Lib.hid (bad_of HQ2.out (fun h => hbo h.2.2.1) HP.out)
        have hbo2 : (r.body != (n : Int)) = true := by simpa using hbo
        generalize ruleIx G.rules r.name = rx at *
        go_wp2_with fail
        have HRy := Lib.hid (same2 (.slice (some ⟨a1, 0, none⟩) nn nn) (.slice (some ⟨a2, 0, none⟩) nn nn) HR6.out)
        have HBy := Lib.hid (((HB6.out.setCell (p := ⟨w.heap.size + 1, 0, none⟩) (by simp) (.slice (some ⟨a1, 0, none⟩) nn nn))).setCell (p := ⟨w.heap.size + 1, 1, none⟩) (by simp) (.slice (some ⟨a2, 0, none⟩) nn nn))
        revert HRy HBy
        generalize (w6.setCell ⟨w.heap.size + 1, 0, none⟩ (.slice (some ⟨a1, 0, none⟩) nn nn)).setCell ⟨w.heap.size + 1, 1, none⟩ (.slice (some ⟨a2, 0, none⟩) nn nn) = wy
        intro HRy HBy
        obtain ⟨bz0, bz1⟩ := (HRy.out).c2
        rw [HF.out]
        exact bodyPost_ret (v := .tuple #[.agg #[.slice (some ⟨a1, 0, none⟩) nn nn, .slice (some ⟨a2, 0, none⟩) nn nn], .bool false]) (by simp [results, Try.results52, go_sem, bz0, bz1]) rfl ⟨_, _, _, rfl, HBy.out⟩
       case pos =>
        have hbo2 : (r.body != (n : Int)) = false := by simp [hbo]
        by_cases hlt : n < nn
        case neg =>
         have HF := Lib.hid (bad_of HQ2.out (fun h => hlt (by have := h.2.2.2.1; have := HNl.out; omega)) HP.out)
         have hlt2 : (nn : Int) ≤ n := by omega
         generalize ruleIx G.rules r.name = rx at *
         go_wp2_with fail
         have HRy := Lib.hid (same2 (.slice (some ⟨a1, 0, none⟩) nn nn) (.slice (some ⟨a2, 0, none⟩) nn nn) HR6.out)
         have HBy := Lib.hid (((HB6.out.setCell (p := ⟨w.heap.size + 1, 0, none⟩) (by simp) (.slice (some ⟨a1, 0, none⟩) nn nn))).setCell (p := ⟨w.heap.size + 1, 1, none⟩) (by simp) (.slice (some ⟨a2, 0, none⟩) nn nn))
         revert HRy HBy
         generalize (w6.setCell ⟨w.heap.size + 1, 0, none⟩ (.slice (some ⟨a1, 0, none⟩) nn nn)).setCell ⟨w.heap.size + 1, 1, none⟩ (.slice (some ⟨a2, 0, none⟩) nn nn) = wy
         intro HRy HBy
         obtain ⟨bz0, bz1⟩ := (HRy.out).c2
         rw [HF.out]
         exact bodyPost_ret (v := .tuple #[.agg #[.slice (some ⟨a1, 0, none⟩) nn nn, .slice (some ⟨a2, 0, none⟩) nn nn], .bool false]) (by simp [results, Try.results52, go_sem, bz0, bz1]) rfl ⟨_, _, _, rfl, HBy.out⟩
        case pos =>
         have hlt2 : (n : Int) < nn := by omega
         have hnz : (0 : Int) ≤ n := by omega
         have hag := HA.out n (Nat.zero_le _) hlt
         have htb : TabOk G.nodes 0 T := by have := (tabs_ok G.nodes.length (Nat.le_refl _)).1 T HT.out; rwa [Nat.sub_self] at this
         have hab := tab_at htb (Nat.zero_le n) (by have := HNl.out; omega)
         rw [Nat.sub_zero] at hag hab
         have hs1 : w6.cell? ⟨a1, n, none⟩ = some (.int .i64 (S n)) := (HS6.out.cell n).trans (rngs_get _ _ _ hlt)
         have hs2 : w6.cell? ⟨a2, n, none⟩ = some (.int .i64 (H n)) := (HH6.out.cell n).trans (rngs_get _ _ _ hlt)
         have HQ3 := HQ2.out
         rw [← hag.1, ← hag.2] at HQ3 hab
         clear HQ2
         have HQ2 := Lib.hid HQ3
         have hab1 : n + S n ≤ nn := by have := HNl.out; omega
         clear HQ3 hag hab
         by_cases hhi : H n ≤ 16
         case neg =>
          have HF := Lib.hid (bad_of HQ2.out (fun h => hhi h.2.2.2.2) HP.out)
          have hhi2 : (16 : Int) < H n := by omega
          generalize ruleIx G.rules r.name = rx at *
          go_wp2_with fail
          have HRy := Lib.hid (same2 (.slice (some ⟨a1, 0, none⟩) nn nn) (.slice (some ⟨a2, 0, none⟩) nn nn) HR6.out)
          have HBy := Lib.hid (((HB6.out.setCell (p := ⟨w.heap.size + 1, 0, none⟩) (by simp) (.slice (some ⟨a1, 0, none⟩) nn nn))).setCell (p := ⟨w.heap.size + 1, 1, none⟩) (by simp) (.slice (some ⟨a2, 0, none⟩) nn nn))
          revert HRy HBy
          generalize (w6.setCell ⟨w.heap.size + 1, 0, none⟩ (.slice (some ⟨a1, 0, none⟩) nn nn)).setCell ⟨w.heap.size + 1, 1, none⟩ (.slice (some ⟨a2, 0, none⟩) nn nn) = wy
          intro HRy HBy
          obtain ⟨bz0, bz1⟩ := (HRy.out).c2
          rw [HF.out]
          exact bodyPost_ret (v := .tuple #[.agg #[.slice (some ⟨a1, 0, none⟩) nn nn, .slice (some ⟨a2, 0, none⟩) nn nn], .bool false]) (by simp [results, Try.results52, go_sem, bz0, bz1]) rfl ⟨_, _, _, rfl, HBy.out⟩
         case pos =>
          have hhi2 : ¬ ((16 : Int) < H n) := by omega
          have HQ4 := HQ2.out
          rw [if_pos ⟨hnb, hri, hbo, by rw [HNl.out]; exact hlt, hhi⟩] at HQ4
          have HQ5 := Lib.hid HQ4
          clear HQ4 HQ2
          generalize ruleIx G.rules r.name = rx at *
          go_wp2_with fail
          exact ⟨⟨i + 1, n + S n, rfl, by go_num, by go_num, by omega, hab1, HI6.out, HQ5.out⟩, by show rn - ((i : Int) + 1).toNat < rn - ((i : Int)).toNat; omega⟩
    ·have hi2 : i = rn := by omega
     subst hi2
     have hQ := HQ.out
     rw [List.drop_eq_nil_of_le (by have := HRl.out; omega)] at hQ
     have HR := Lib.hid (HP.out.trans (by rw [← hQ, HNl.out]; rfl : _ = (some n == some nn)))
     have hdec : ((some n == some nn) : Bool) = ((n : Int) == (nn : Int)) := by
      rw [Bool.eq_iff_iff]; simp; omega
     have HR2 := Lib.hid (HR.out.trans hdec)
     have HRt := Lib.hid (HRz.out.below HI.out)
     have HR0t := Lib.hid (HR0z.out.below HI.out)
     have HBt := Lib.hid (HBz.out.trans (HI.out.mono HBz.out.size))
     obtain ⟨bt0, bt1⟩ := (HRt.out).c2
     obtain ⟨bf0, bf1⟩ := (HRt.out).f2
     have bg1 : wr.cell? ⟨w.heap.size, 1, none⟩ = some (.slice no nn nc) := HR0t.out.cell 1
     clear hQ hdec HR HQ bg0 HR0t
     go_upto_region 14 with (fail)
     go_region
     have HRy := Lib.hid (same2 (.slice (some ⟨a1, 0, none⟩) nn nn) (.slice (some ⟨a2, 0, none⟩) nn nn) HRt.out)
     have HBy := Lib.hid (((HBt.out.setCell (p := ⟨w.heap.size + 1, 0, none⟩) (by simp) (.slice (some ⟨a1, 0, none⟩) nn nn))).setCell (p := ⟨w.heap.size + 1, 1, none⟩) (by simp) (.slice (some ⟨a2, 0, none⟩) nn nn))
     revert HRy HBy
     generalize (wr.setCell ⟨w.heap.size + 1, 0, none⟩ (.slice (some ⟨a1, 0, none⟩) nn nn)).setCell ⟨w.heap.size + 1, 1, none⟩ (.slice (some ⟨a2, 0, none⟩) nn nn) = wy
     intro HRy HBy
     obtain ⟨bz0, bz1⟩ := (HRy.out).c2
     go_wp2_with fail
     rw [HR2.out]
     exact bodyPost_ret (v := .tuple #[.agg #[(.slice (some ⟨a1, 0, none⟩) nn nn), (.slice (some ⟨a2, 0, none⟩) nn nn)], .bool ((n : Int) == (nn : Int))]) (by simp [results, Try.results52, go_sem, bz0, bz1]) rfl ⟨_, _, _, rfl, HBy.out.drew⟩
end Go.Proofs.Ytdnkffplkleolaa
namespace Go.Proofs.Ytdnkffplkleolaa
open Go.RowKit
set_option maxRecDepth 100000
set_option maxHeartbeats 4000000

theorem gright_any (w : World) (ro : Option Addr) (rn rc : Nat) (no : Option Addr) (nn nc : Nat) (NK : List (Nd × (Option Addr × Nat))) (G : Gr) (hG : GrW w ro rn rc no nn nc NK G) :
  Calls Try.prog 39 #[grv ro rn rc no nn nc] w fun e w' => e = .returned (.bool (rightP G)) ∧ Below w.heap.size w w' := by
 have HG := Lib.hid hG
 have HB := Lib.hid (al1 (Below.refl w.heap.size w) (.cells #[.slice ro rn rc, .slice no nn nc] 25))
 have bg0 : (w.alloc (.cells #[.slice ro rn rc, .slice no nn nc] 25)).cell? ⟨w.heap.size, 0, none⟩ = some (.slice ro rn rc) := (hrow.new w #[.slice ro rn rc, .slice no nn nc] 25).cell 0
 have bg1 : (w.alloc (.cells #[.slice ro rn rc, .slice no nn nc] 25)).cell? ⟨w.heap.size, 1, none⟩ = some (.slice no nn nc) := (hrow.new w #[.slice ro rn rc, .slice no nn nc] 25).cell 1
 clear hG
 unfold grv
 go_enter Try.func39, Try.ntmps39
 go_wp2_with fail
 refine (whole_any _ ro rn rc no nn nc NK G (HG.out.below HB.out)).mono ?_
 rintro e w2 ⟨px, py, m, rfl, hb⟩
 have HB2 := Lib.hid (HB.out.trans (hb.mono HB.out.size))
 clear hb bg0 bg1
 have HB4 := Lib.hid (al1 HB2.out (.cells #[.slice px m m, .slice py m m] 112))
 go_wp2_with fail
 exact bodyPost_ret (v := .bool (rightP G)) (by simp [results, Try.results39, go_sem]) rfl ⟨rfl, HB4.out⟩
end Go.Proofs.Ytdnkffplkleolaa
