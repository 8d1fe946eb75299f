/- Walks: words: the end, an arrow, a sign. -/
import Derived.Test.YtnfkcdnkmcifbaaDoorV4
import Derived.Test.YtnfkcdnkmcifbaaDoorC3
namespace Go.Proofs.YtnfkcdnkmcifbaaDoor
open Go.RowKit
set_option maxRecDepth 100000
set_option maxHeartbeats 4000000

/-- The words of a range. -/
def rgW (p : UInt8 × UInt8) : Nat → Nat := ((List.range 256).filter fun c => decide (p.1.toNat ≤ c ∧ c ≤ p.2.toNat)).foldl putW noW
/-- The words of a class that is given by ranges. -/
def clsW (R : List (UInt8 × UInt8)) : Nat → Nat := R.foldl (fun W p => orW W (rgW p)) noW
theorem clsW_nil : clsW [] = noW := rfl
theorem clsW_snoc (R : List (UInt8 × UInt8)) (p : UInt8 × UInt8) : clsW (R ++ [p]) = orW (clsW R) (rgW p) := by unfold clsW; rw [List.foldl_append]; rfl
theorem foldl_put : ∀ (l : List Nat) (W : Nat → Nat), (∀ b ∈ l, b < 256) → Words W → Words (l.foldl putW W) ∧ ∀ c, inW (l.foldl putW W) c = (inW W c || l.contains c)
 | [], W, _, hW => ⟨hW, fun c => by simp⟩
 | b :: l, W, hb, hW => by
  obtain ⟨h1, h2⟩ := foldl_put l (putW W b) (fun x hx => hb x (by simp [hx])) (putW_words hW b)
  refine ⟨h1, fun c => ?_⟩
  rw [List.foldl_cons, h2, inW_put, List.contains_cons, Bool.or_assoc]
  congr 1
theorem rgW_words (p : UInt8 × UInt8) : Words (rgW p) := (foldl_put _ _ (fun b hb => by simpa using (List.mem_filter.1 hb).1) noW_words).1
theorem rgW_in (p : UInt8 × UInt8) (c : Nat) (hc : c < 256) : inW (rgW p) c = decide (p.1.toNat ≤ c ∧ c ≤ p.2.toNat) := by
 unfold rgW
 rw [(foldl_put _ _ (fun b hb => by simpa using (List.mem_filter.1 hb).1) noW_words).2, inW_no, Bool.false_or, Bool.eq_iff_iff, List.contains_iff_mem, List.mem_filter]
 simp [hc]
theorem clsW_words : ∀ R, Words (clsW R) := by
 intro R
 unfold clsW
 suffices h : ∀ (R : List (UInt8 × UInt8)) W, Words W → Words (R.foldl (fun W p => orW W (rgW p)) W) from h R _ noW_words
 intro R
 induction R with
 | nil => exact fun _ h => h
 | cons p R ih => exact fun W h => ih _ (orW_words h (rgW_words p))
/-- Classes with the same bytes are the same. -/
theorem cw_ext {W V : Nat → Nat} (hW : Words W) (hV : Words V) (h : ∀ c, c < 256 → inW W c = inW V c) : cw W = cw V := by
 have e : ∀ i, i < 4 → W i = V i := fun i hi => by
  apply Nat.eq_of_testBit_eq
  intro j
  by_cases hj : j < 64
  ·have := h (64 * i + j) (by omega)
   unfold inW at this
   rw [show (64 * i + j) / 64 = i by omega, show (64 * i + j) % 64 = j by omega] at this
   exact this
  ·rw [Nat.testBit_lt_two_pow (Nat.lt_of_lt_of_le (hW i) (Nat.pow_le_pow_right (by omega) (by omega))), Nat.testBit_lt_two_pow (Nat.lt_of_lt_of_le (hV i) (Nat.pow_le_pow_right (by omega) (by omega)))]
 unfold cw
 rw [e 0 (by omega), e 1 (by omega), e 2 (by omega), e 3 (by omega)]
theorem rng_any (p : UInt8 × UInt8) (w : World) : Calls Tryd.prog 33 #[.int .u8 p.1.toNat, .int .u8 p.2.toNat] w fun e w' => e = .returned (.agg (cw (rgW p))) ∧ Below w.heap.size w w' :=
 (range_any w p.1.toNat p.2.toNat p.1.toNat_lt p.2.toNat_lt).mono fun e w' ⟨W, he, hW, hin, hb⟩ => ⟨by rw [he, cw_ext hW (rgW_words p) (fun c hc => by rw [hin, rgW_in p c hc])], hb⟩
/-- A word's cells, and what a reader of words tells. -/
def wdv (r : Wr) (k : Nat) : Array Value := wdA r.kind k ((k : Int) + r.n) (tx r.tx) r.lv (clsW r.cl 0) (clsW r.cl 1) (clsW r.cl 2) (clsW r.cl 3)
def wd0 : Array Value := wdA 0 0 0 ⟨#[]⟩ 0 0 0 0 0
def rdO (o : Option Wr) (k : Nat) : Value := match o with
 | some r => .tuple #[.agg (wdv r k), .bool true]
 | none => .tuple #[.agg wd0, .bool false]
/-- The end. -/
def endR (l : List UInt8) : Option Wr := match l with | [] => some ⟨1, 0, [], 0, []⟩ | _ => none
/-- An arrow. -/
def arrR (l : List UInt8) : Option Wr := match l with | c :: d :: _ => if c == 60 && d == 45 then some ⟨5, 2, [60, 45], 0, []⟩ else none | _ => none
/-- A sign. -/
def sgnR (l : List UInt8) : Option Wr := match l with | c :: _ => if sgs.contains c then some ⟨5, 1, [c], 0, []⟩ else none | [] => none
theorem results_row2 {P : Program} {fn : Func} {p q : Tmp} {ty : TypeId} (h : fn.results = #[.cell p ty, .tmp q]) (tmps : Array Value) (w : World) (g : Nat) (t : TypeId) (cs : Array Value) (fr : Nat × Nat) (d : TypeDesc)
    (hp : tmps.getD p undef = .pointer (some ⟨g, 0, none⟩)) (hg : w.heap[g]? = some (.cells cs t fr))
    (hu : P.underlying ty = some d) (hd : (match d with | .struct _ | .array _ _ => true | _ => false) = true) (hi : (P.info? ty).map (·.size) = some cs.size) :
    (results fn tmps).run P w = .ok (.tuple #[.agg cs, tmps.getD q undef]) w := by
  have hp' : tmps[p]?.getD undef = .pointer (some ⟨g, 0, none⟩) := by simpa using hp
  simp [results, h, hp', asAddr, run_loadVar_row w g t ty cs fr d hg hu hd hi]
theorem wd_info : (Tryd.prog.info? 33).map (·.size) = some 9 := by decide +kernel
theorem wd_sz {cs : Array Value} (h : cs.size = 9) : (Tryd.prog.info? 33).map (·.size) = some cs.size := h ▸ wd_info
theorem wd_szA (kind at_ nx : Int) (t : ByteArray) (lv c0 c1 c2 c3 : Int) : (Tryd.prog.info? 33).map (·.size) = some (wdA kind at_ nx t lv c0 c1 c2 c3).size := wd_info
theorem wd0_eq : wd0 = #[.int .i64 0, .int .i64 0, .int .i64 0, .string ⟨#[]⟩, .int .i64 0, .int .u64 0, .int .u64 0, .int .u64 0, .int .u64 0] := rfl
theorem wd_all (kind at_ nx : Int) (t : ByteArray) (lv c0 c1 c2 c3 : Int) : (wdA kind at_ nx t lv c0 c1 c2 c3).all (·.oneCell') = true := by simp [wdA, Value.oneCell']
/-- The store of a word into a word's block. -/
theorem store_word {ops : Array Oper} {rest : List Oper} {o : Oper} {a : Act} {w : World} {Q : Exit → Act → World → Prop} (hgd : o.guard = none) (x y : Operand) (ho : o.op = .store 33 x y)
    (g : Nat) (kind at_ nx : Int) (t : ByteArray) (lv c0 c1 c2 c3 : Int) (hx : a.eval x = .pointer (some ⟨g, 0, none⟩)) (hy : a.eval y = .agg #[.int .i64 kind, .int .i64 at_, .int .i64 nx, .string t, .int .i64 lv, .int .u64 c0, .int .u64 c1, .int .u64 c2, .int .u64 c3])
    (hg : hrow w g wd0 33)
    (h : wpList Tryd.prog ops Q rest (a.put o.dst undef) (w.setRow g #[.int .i64 kind, .int .i64 at_, .int .i64 nx, .string t, .int .i64 lv, .int .u64 c0, .int .u64 c1, .int .u64 c2, .int .u64 c3])) : wpList Tryd.prog ops Q (o :: rest) a w :=
  wpList_store_row hgd _ x y ho g _ hx hy _ _ hg.h (wd_sz rfl) rfl (wd_all ..) h
theorem results_word {fn : Func} {p q : Tmp} (h : fn.results = #[.cell p 33, .tmp q]) (tmps : Array Value) (w : World) (g : Nat) (cs : Array Value) (b : Value)
    (hp : tmps.getD p undef = .pointer (some ⟨g, 0, none⟩)) (hq : tmps.getD q undef = b) (hg : hrow w g wd0 33) (hs : cs.size = 9) : (results fn tmps).run Tryd.prog (w.setRow g cs) = .ok (.tuple #[.agg cs, b]) (w.setRow g cs) := by
  subst hq
  exact results_row2 h tmps _ g _ cs _ _ hp (setRow_heap _ _ _ _ _ _ hg) Tryd.underlying33 rfl (wd_sz hs)
theorem end_any (s : ByteArray) (k g : Nat) (w : World) (hr : Rdr w g s k) (hs : s.size ≤ 1000000) (hk : k ≤ s.size) :
  Calls Tryd.prog 14 #[.pointer (some ⟨g, 0, none⟩)] w fun e w' => e = .returned (rdO (endR (s.data.toList.drop k)) k) ∧ Below w.heap.size w w' := by
 have HRD := Lib.hid hr
 by_cases h : k < s.size
 ·have hI : (k : Int) < s.size := by omega
  have hd : decide ((k : Int) < s.size) = true := decide_eq_true hI
  have HE : Hid (endR (s.data.toList.drop k) = none) := by rw [drop_at h]; rfl
  rw [HE.out]
  clear hr hs hk h
  go_enter Tryd.func14, Tryd.ntmps14
  go_wp2_with fail
  have HB := Lib.hid ((Below.refl w.heap.size w).alloc (Nat.le_refl _) (.cells #[.int .i64 0, .int .i64 0, .int .i64 0, .string ⟨#[]⟩, .int .i64 0, .int .u64 0, .int .u64 0, .int .u64 0, .int .u64 0] 33))
  have HR := Lib.hid (show hrow (w.alloc (.cells #[.int .i64 0, .int .i64 0, .int .i64 0, .string ⟨#[]⟩, .int .i64 0, .int .u64 0, .int .u64 0, .int .u64 0, .int .u64 0] 33)) w.heap.size wd0 33 from hrow.new _ _ _)
  replace HRD := Lib.hid (Rdr.below HRD.out HB.out)
  revert HB HR HRD
  generalize w.alloc (.cells #[.int .i64 0, .int .i64 0, .int .i64 0, .string ⟨#[]⟩, .int .i64 0, .int .u64 0, .int .u64 0, .int .u64 0, .int .u64 0] 33) = wb
  intro HB HR HRD
  have HRN : Hid (∀ n, hrow (wb.drewN n) w.heap.size wd0 33) := Lib.hid (fun _ => HR.out)
  obtain ⟨c0, c1⟩ := hrow.c2 HRD.out
  go_quiet (fail)
  go_wp2_with (with_reducible refine store_word rfl (.tmp 2) (.tmp 16) rfl w.heap.size _ _ _ _ _ _ _ _ _ rfl rfl (HRN.out _) ?_)
  refine bodyPost_ret (results_word rfl _ _ w.heap.size _ _ rfl rfl (HRN.out _) ?_) rfl ?_
  next => rfl
  next => first | exact ⟨rfl, below_setRow (belowN HB.out _) (Nat.le_refl _) _⟩ | exact ⟨by rw [HE.out]; rfl, below_setRow (belowN HB.out _) (Nat.le_refl _) _⟩
 ·obtain rfl : k = s.size := by omega
  have hI : ¬ (s.size : Int) < s.size := by omega
  have hd : decide ((s.size : Int) < s.size) = false := decide_eq_false hI
  have HE : Hid (endR (s.data.toList.drop s.size) = some ⟨1, 0, [], 0, []⟩) := by rw [List.drop_eq_nil_of_le (by rw [ba_len]; exact Nat.le_refl _)]; rfl
  rw [HE.out]
  clear hr hk h
  have HS := Lib.hid hs; clear hs
  go_enter Tryd.func14, Tryd.ntmps14
  go_wp2_with fail
  have HB := Lib.hid ((Below.refl w.heap.size w).alloc (Nat.le_refl _) (.cells #[.int .i64 0, .int .i64 0, .int .i64 0, .string ⟨#[]⟩, .int .i64 0, .int .u64 0, .int .u64 0, .int .u64 0, .int .u64 0] 33))
  have HR := Lib.hid (show hrow (w.alloc (.cells #[.int .i64 0, .int .i64 0, .int .i64 0, .string ⟨#[]⟩, .int .i64 0, .int .u64 0, .int .u64 0, .int .u64 0, .int .u64 0] 33)) w.heap.size wd0 33 from hrow.new _ _ _)
  replace HRD := Lib.hid (Rdr.below HRD.out HB.out)
  revert HB HR HRD
  generalize w.alloc (.cells #[.int .i64 0, .int .i64 0, .int .i64 0, .string ⟨#[]⟩, .int .i64 0, .int .u64 0, .int .u64 0, .int .u64 0, .int .u64 0] 33) = wb
  intro HB HR HRD
  have HRN : Hid (∀ n, hrow (wb.drewN n) w.heap.size wd0 33) := Lib.hid (fun _ => HR.out)
  obtain ⟨c0, c1⟩ := hrow.c2 HRD.out
  go_quiet (fail)
  go_wp2_with fail
  refine (word_any 1 0 0 0 0 0 0 0 0 ⟨#[]⟩ s _ g _ (HRD.out.below (belowN (Below.refl _ _) _)) (by have := HS.out; omega) (by omega) (by omega)).mono ?_
  rintro e wx ⟨rfl, hb⟩
  have HRX := Lib.hid ((HRN.out _).below hb)
  have HBX := Lib.hid ((belowN HB.out _).trans (hb.mono HB.out.size))
  clear hb
  go_wp2_with (with_reducible refine store_word rfl (.tmp 2) (.tmp 20) rfl w.heap.size _ _ _ _ _ _ _ _ _ rfl rfl HRX.out ?_)
  refine bodyPost_ret (results_word rfl _ _ w.heap.size _ _ rfl rfl HRX.out ?_) rfl ?_
  next => rfl
  next => first | exact ⟨rfl, below_setRow HBX.out (Nat.le_refl _) _⟩ | exact ⟨by rw [HE.out]; rfl, below_setRow HBX.out (Nat.le_refl _) _⟩
end Go.Proofs.YtnfkcdnkmcifbaaDoor
