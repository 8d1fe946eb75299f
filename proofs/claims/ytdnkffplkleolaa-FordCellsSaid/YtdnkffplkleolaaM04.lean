/- Walks and plain laws: CA Perm CB. -/
import Derived.Test.YtdnkffplkleolaaM03
import Derived.Test.YtdnkffplkleolaaM01
import Derived.Deep.Cut
import Derived.Deep.CutBlock
import Derived.BigRegion
namespace Go.Proofs.Ytdnkffplkleolaa
open Go.RowKit
set_option maxRecDepth 100000
set_option maxHeartbeats 1000000

theorem all_split {α : Type} {f : α → Bool} (l : List α) (k : Nat) : l.all f = ((l.take k).all f && (l.drop k).all f) := by
 rw [← List.all_append, List.take_append_drop]
section
variable {α : Type} {f : α → List Value} {s : Nat}
theorem Sv.elem (hf : ∀ x, (f x).length = s) {w : World} {ao : Option Addr} {n cap : Nat} {l : List α} (h : Sv w ao n cap s (l.flatMap f)) (k : Nat) (hk : k < l.length) (hs : 0 < s) :
  ∃ a, ao = some a ∧ ∀ j v, (f l[k])[j]? = some v → w.cell? ((a.add (k * s)).add j) = some v := by
 have hl := fl_len hf l
 have hks : ∀ j, j < s → k * s + j < (l.flatMap f).length := by
  intro j hj
  have h1 : (k + 1) * s ≤ l.length * s := Nat.mul_le_mul_right _ hk
  rw [Nat.succ_mul] at h1
  omega
 obtain ⟨a, rfl, hc⟩ := h.cell (k * s + 0) (hks 0 hs)
 refine ⟨a, rfl, fun j v hv => ?_⟩
 have hj : j < s := by
  have := (List.getElem?_eq_some_iff.1 hv).1
  rw [hf] at this; exact this
 obtain ⟨a', ha, hc'⟩ := h.cell (k * s + j) (hks j hj)
 cases ha
 rw [add_add, hc', fl_get hf l k j hk hj, hv]
theorem Sv.elems_len (hf : ∀ x, (f x).length = s) (hs : 0 < s) {w : World} {ao : Option Addr} {n cap : Nat} {l : List α} (h : Sv w ao n cap s (l.flatMap f)) : l.length = n := by
 have := h.len; rw [fl_len hf] at this; exact Nat.eq_of_mul_eq_mul_right hs this
end

def onv (o : On) : Array Value := #[.int .i64 o.left, .int .i64 o.sf, .int .i64 o.st, .int .i64 o.nx]
def onc (o : On) : List Value := (onv o).toList
theorem onc_len (o : On) : (onc o).length = 4 := rfl

theorem notdone_any (w : World) (n f t u : Int) : Calls Try.prog 23 #[.agg #[.int .i64 n, .int .i64 f, .int .i64 t, .int .i64 u]] w fun r w' => r = .returned (.bool (!(n == 0))) ∧ Below w.heap.size w w' := by
 generalize hx : (n == 0) = x
 go_enter Try.func23, Try.ntmps23
 go_wp2_with (first | (go_at_call 20; refine (done_any _ _ _ _ _).mono ?_; rintro e w2 ⟨rfl, hb2⟩; rw [hx]; have HB2 := Lib.hid hb2; clear hb2))
 go_ret
 exact ⟨rfl, ((Below.refl _ _).alloc (Nat.le_refl _) _).trans (HB2.out.mono (by simp))⟩

theorem indexOn_any (w : World) (ao : Option Addr) (cap n : Nat) (l : List On) (hs : Sv w ao n cap 4 (l.flatMap onc)) :
  Calls Try.prog 44 #[.slice ao n cap, .func (.func 23) #[] #[]] w fun r w' => (∃ i : Int, r = .returned (.int .i64 i) ∧ (0 ≤ i ↔ l.all On.done = false)) ∧ Below w.heap.size w w' := by
 obtain ⟨h1, h2⟩ := hs.bound
 have hl := hs.elems_len onc_len (by omega)
 have HSl := Lib.hid hs; clear hs
 have HL := Lib.hid hl; clear hl
 go_enter Try.func44, Try.ntmps44
 go_wp2_with fail
 go_loopw [8] (fun i wr => ∃ k : Nat, k ≤ n ∧ i = .int .i64 k ∧ Hid ((l.take k).all On.done = true ∧ Below w.heap.size w wr)) (fun i _ => n - (intOf i).toNat)
 case atStart => exact ⟨0, by omega, rfl, by simp, Below.refl _ _⟩
 case round =>
  obtain ⟨k, hk, rfl, hI⟩ := hrel
  have HN := Lib.hid hI.out.1; have HBl := Lib.hid hI.out.2
  clear hI
  by_cases hlt : k < n
  ·have hkz : k < l.length := by have := HL.out; omega
   obtain ⟨a, rfl, hc⟩ := (HSl.out.below HBl.out).elem onc_len k hkz (by omega)
   have hts : l.take (k + 1) = l.take k ++ [l[k]] := List.take_succ_eq_append_getElem hkz
   have hall : l.all On.done = ((l.take k).all On.done && ((l[k]).done && (l.drop (k + 1)).all On.done)) := by
    rw [all_split l k, List.drop_eq_getElem_cons hkz, List.all_cons]
   have HT := Lib.hid hts; have HA := Lib.hid hall
   clear hts hall
   generalize l[k]'_ = o at *
   clear hkz
   obtain ⟨o1, o2, o3, o4⟩ := o
   have h0k : (0 : Int) ≤ k := by omega
   have HC := Lib.hid (show ∀ j v, (#[.int .i64 o1, .int .i64 o2, .int .i64 o3, .int .i64 o4] : Array Value).toList[j]? = some v → wr.cell? ((a.add (k * 4)).add j) = some v from hc)
   have K2 : Hid ((Try.prog.info? 75).map (·.size) = some (#[.int .i64 o1, .int .i64 o2, .int .i64 o3, .int .i64 o4] : Array Value).size) := by unfold Hid; kernel_rfl
   clear hc
   have HD := Lib.hid (show On.done ⟨o1, o2, o3, o4⟩ = (o1 == 0) from rfl)
   generalize hx : (o1 == 0) = x at *
   cases x
   ·go_wp2_with (first
     | (refine wpList_load_part rfl 75 (.tmp 14) rfl (a.add (k * 4)) rfl #[.int .i64 o1, .int .i64 o2, .int .i64 o3, .int .i64 o4] _ HC.out Try.underlying75 rfl K2.out ?_)
     | (go_at_call 23; refine (notdone_any _ _ _ _ _).mono ?_; rintro e w2 ⟨rfl, hb2⟩; rw [hx]; have HB2 := Lib.hid hb2; clear hb2))
    go_ret
    exact ⟨⟨_, rfl, by rw [HA.out, HD.out]; simp⟩, HBl.out.trans (HB2.out.mono HBl.out.size)⟩
   ·go_wp2_with (first
     | (refine wpList_load_part rfl 75 (.tmp 14) rfl (a.add (k * 4)) rfl #[.int .i64 o1, .int .i64 o2, .int .i64 o3, .int .i64 o4] _ HC.out Try.underlying75 rfl K2.out ?_)
     | (go_at_call 23; refine (notdone_any _ _ _ _ _).mono ?_; rintro e w2 ⟨rfl, hb2⟩; rw [hx]; have HB2 := Lib.hid hb2; clear hb2))
    go_roundw
    case rel => exact ⟨k + 1, by omega, by go_num, by rw [HT.out, List.all_append, HN.out]; simp [HD.out], HBl.out.trans (HB2.out.mono HBl.out.size)⟩
    case measure => simp [intOf]; omega
  ·have ht : l.take k = l := List.take_of_length_le (by have := HL.out; omega)
   rw [ht] at HN
   go_wp2_with fail
   go_ret
   exact ⟨⟨_, rfl, by rw [HN.out]; simp⟩, HBl.out⟩

theorem contains_any (w : World) (ao : Option Addr) (cap n : Nat) (l : List On) (hs : Sv w ao n cap 4 (l.flatMap onc)) :
  Calls Try.prog 22 #[.slice ao n cap, .func (.func 23) #[] #[]] w fun r w' => r = .returned (.bool (!l.all On.done)) ∧ Below w.heap.size w w' := by
 have HX := Lib.hid (fun w' hb => indexOn_any w' ao cap n l (hs.below hb))
 clear hs
 go_enter Try.func22, Try.ntmps22
 go_wp2_with fail
 refine (HX.out _ (Below.refl _ _)).mono ?_
 rintro e w2 ⟨⟨i, rfl, hi⟩, hb2⟩
 have HB2 := Lib.hid hb2; clear hb2
 cases hx : l.all On.done
 ·have h0 : 0 ≤ i := hi.2 hx
  clear hi
  go_wp2_with fail
  go_ret
  exact ⟨by rw [hx]; simp, HB2.out⟩
 ·have h0 : decide (0 ≤ i) = false := decide_eq_false (fun h => by rw [hi.1 h] at hx; cases hx)
  clear hi
  go_wp2_with fail
  go_ret
  exact ⟨by rw [hx]; simp, HB2.out⟩
end Go.Proofs.Ytdnkffplkleolaa
namespace Go
open Go.RowKit

section
variable {P : Program} {ops : Array Oper} {md : Region.Mode} {C : World → Prop}

/-- Of each operation, the bits of all that it waits for, at first hand or through others. -/
def Region.ancs (md : Region.Mode) : List Oper → Array Nat → Array Nat
 | [], acc => acc
 | o :: r, acc => Region.ancs md r (acc.push (o.after.toList.foldr (fun e s => if Region.binds md e then 2 ^ e.on ||| acc.getD e.on 0 ||| s else s) 0))

/-- All that j waits for at first hand has come up. -/
def Region.Direct (md : Region.Mode) (ops : Array Oper) (listed : Array Bool) (j : Nat) : Prop :=
 ∀ oj, ops[j]? = some oj → ∀ e ∈ oj.after, Region.binds md e = true → listed.getD e.on false = true

theorem fold_bits {acc : Array Nat} {j : Nat} : ∀ (es : List Edge), (es.foldr (fun e s => if Region.binds md e then 2 ^ e.on ||| acc.getD e.on 0 ||| s else s) 0).testBit j = true →
  ∃ e ∈ es, Region.binds md e = true ∧ (e.on = j ∨ (acc.getD e.on 0).testBit j = true)
 | [], h => by simp at h
 | e :: r, h => by
  simp only [List.foldr_cons] at h
  split at h
  ·rename_i hb
   rw [Nat.testBit_or, Nat.testBit_or, Nat.testBit_two_pow] at h
   simp only [Bool.or_eq_true, decide_eq_true_eq] at h
   rcases h with (h | h) | h
   ·exact ⟨e, by simp, hb, .inl h⟩
   ·exact ⟨e, by simp, hb, .inr h⟩
   ·obtain ⟨e', h1, h2⟩ := fold_bits r h
    exact ⟨e', by simp [h1], h2⟩
  ·obtain ⟨e', h1, h2⟩ := fold_bits r h
   exact ⟨e', by simp [h1], h2⟩

theorem ancs_spec {listed : Array Bool} (hcl : ∀ j, listed.getD j false = true → Region.Direct md ops listed j) : ∀ (l : List Oper) (acc : Array Nat), (∀ k, l[k]? = ops[acc.size + k]?) →
  (∀ t, t < acc.size → Region.Direct md ops listed t → ∀ j, (acc.getD t 0).testBit j = true → listed.getD j false = true) →
  ∀ t, Region.Direct md ops listed t → ∀ j, ((Region.ancs md l acc).getD t 0).testBit j = true → listed.getD j false = true
 | [], acc, _, hacc => by
  intro t hd j hj
  simp only [Region.ancs] at hj
  rcases Nat.lt_or_ge t acc.size with h | h
  ·exact hacc t h hd j hj
  ·simp [Array.getD, Nat.not_lt.2 h] at hj
 | o :: r, acc, hl, hacc => by
  refine ancs_spec hcl r _ (fun k => ?_) ?_
  ·have := hl (k + 1)
   simp only [List.getElem?_cons_succ] at this
   rw [this]; congr 1; simp; omega
  ·intro t ht hd j hj
   simp only [Array.size_push] at ht
   rcases Nat.lt_or_ge t acc.size with h | h
   ·refine hacc t h hd j ?_
    simpa [Array.getD, h, Nat.lt_succ_of_lt h, Array.getElem_push_lt h] using hj
   ·have hte : t = acc.size := by omega
    subst hte
    have h0 : ops[acc.size]? = some o := by have := hl 0; simpa using this.symm
    have hj' : (o.after.toList.foldr (fun e s => if Region.binds md e then 2 ^ e.on ||| acc.getD e.on 0 ||| s else s) 0).testBit j = true := by
     simpa [Array.getD] using hj
    obtain ⟨e, he, hb, h1⟩ := fold_bits _ hj'
    have hon := hd o h0 e (by simpa using he) hb
    rcases h1 with h1 | h1
    ·rw [← h1]; exact hon
    ·rcases Nat.lt_or_ge e.on acc.size with h2 | h2
     ·exact hacc _ h2 (hcl _ hon) j h1
     ·simp [Array.getD, Nat.not_lt.2 h2] at h1

/-- While heads come up. -/
structure HeadInv2 (md : Region.Mode) (ops : Array Oper) (listed : Array Bool) : Prop where
 size : listed.size = ops.size
 closed : ∀ j, listed.getD j false = true → Region.Direct md ops listed j

def Region.closedB (md : Region.Mode) (ops : Array Oper) (listed : Array Bool) : Bool :=
 decide (listed.size = ops.size) && (List.range ops.size).all fun j => !listed.getD j false || ((ops[j]?).map (·.after.all fun e => !Region.binds md e || listed.getD e.on false)).getD true

theorem HeadInv2.of_closedB {listed : Array Bool} (h : Region.closedB md ops listed = true) : HeadInv2 md ops listed := by
 simp only [Region.closedB, Bool.and_eq_true, decide_eq_true_eq, List.all_eq_true] at h
 refine ⟨h.1, fun j hj oj ho e he hb => ?_⟩
 have hlt : j < ops.size := (Array.getElem?_eq_some_iff.1 ho).1
 have h2 := h.2 j (List.mem_range.2 hlt)
 simp only [hj, Bool.not_true, Bool.false_or, ho, Option.map_some, Option.getD_some, Array.all_eq_true_iff_forall_mem] at h2
 have h3 := h2 e he
 simpa [hb] using h3

/-- Whatever has not come up, and is none of all, waits for all of hs. -/
def Region.sink2 (md : Region.Mode) (ops : Array Oper) (all hs : List Nat) (listed : Array Bool) : Bool :=
 let b := Region.ancs md ops.toList #[]
 (List.range ops.size).all fun t => all.contains t || listed.getD t true || hs.all fun i => (b.getD t 0).testBit i

theorem HeadInv2.set {i : Nat} {listed : Array Bool} (inv : HeadInv2 md ops listed) (hi : i ∈ Region.ready md ops listed) : HeadInv2 md ops (listed.setIfInBounds i true) := by
 obtain ⟨_, oi, hoi, hall⟩ := mem_ready.1 hi
 refine ⟨by simp [inv.size], fun j hl oj hj e he hb => ?_⟩
 by_cases hij : i = j
 ·subst hij
  have : oj = oi := Option.some.inj (hj.symm.trans hoi)
  subst this
  exact getD_set_true (hall e he hb)
 ·rw [getD_set_ne false hij] at hl
  exact getD_set_true (inv.closed j hl oj hj e he hb)

theorem tail_waits2 {all hs : List Nat} {listed0 listed : Array Bool} (hk : Region.sink2 md ops all hs listed0 = true) (hmo : ∀ t, listed0.getD t true = true → listed.getD t true = true) (inv : HeadInv2 md ops listed) {i t : Nat} (hi : hs.contains i = true) (hun : listed.getD i true = false)
  (ht : t ∈ Region.ready md ops listed) : all.contains t = true := by
 obtain ⟨htu, ot, hot, hall⟩ := mem_ready.1 ht
 have htlt : t < ops.size := (Array.getElem?_eq_some_iff.1 hot).1
 have h1 := List.all_eq_true.1 hk t (List.mem_range.2 htlt)
 simp only [Bool.or_eq_true] at h1
 rcases h1 with (h1 | h1) | h1
 ·exact h1
 ·rw [hmo t h1] at htu; cases htu
 ·have h2 := List.all_eq_true.1 h1 i (by simpa using hi)
  have := ancs_spec (md := md) (ops := ops) inv.closed ops.toList #[] (fun k => by simp) (fun t ht => by simp at ht) t (fun oj hoj e he hb => by
   have : oj = ot := Option.some.inj (hoj.symm.trans hot)
   subst this; exact hall e he hb) i h2
  rw [getD_both hun] at this
  cases this

theorem mono_set {listed0 listed : Array Bool} {i : Nat} (h : ∀ t, listed0.getD t true = true → listed.getD t true = true) : ∀ t, listed0.getD t true = true → (listed.setIfInBounds i true).getD t true = true := by
 intro t ht
 by_cases hit : i = t
 ·subst hit
  rcases Nat.lt_or_ge i listed.size with h1 | h1
  ·simp [h1]
  ·simp [h1]
 ·rw [getD_set_ne true hit]; exact h t ht

/-- Heads (of all) are quiet in the class; whatever else comes up is shown from every world of the class. -/
def wpM (P : Program) (md : Region.Mode) (ops : Array Oper) (C : World → Prop) (Q : Exit → Act → World → Prop) (all : List Nat) : Nat → Array Bool → Act → Prop
 | 0, listed, a => Region.ready md ops listed = [] ∧ ∀ w, C w → Q .normal a w
 | f + 1, listed, a =>
  (Region.ready md ops listed = [] → ∀ w, C w → Q .normal a w) ∧ ∀ i ∈ Region.ready md ops listed,
   (all.contains i = true ∧ qOp P ops C i (wpM P md ops C Q all f (listed.setIfInBounds i true)) a) ∨
   (all.contains i = false ∧ ∀ w, C w → wpOp P ops Q i (wpAny P md ops Q f (listed.setIfInBounds i true)) a w)

theorem wpAny_of_M {all : List Nat} {Q : Exit → Act → World → Prop} : ∀ (f : Nat) (listed : Array Bool) (a : Act) (w : World), C w → wpM P md ops C Q all f listed a → wpAny P md ops Q f listed a w
 | 0, _, _, _, hw, h => ⟨h.1, h.2 _ hw⟩
 | f + 1, listed, a, w, hw, h => ⟨fun h0 => h.1 h0 _ hw, fun i hi => by
   rcases h.2 i hi with h1 | h1
   ·exact wpOp_of_qOp hw (fun a' w' hw' h' => wpAny_of_M f _ a' w' hw' h') h1.2
   ·exact h1.2 w hw⟩

theorem wpM_rest {all : List Nat} {Q : Exit → Act → World → Prop} {f : Nat} {listed : Array Bool} {a : Act} (hd : all.all (fun i => listed.getD i true) = true) (h : ∀ w, C w → wpAny P md ops Q f listed a w) (hne : ∃ w, C w) : wpM P md ops C Q all f listed a := by
 have hno : ∀ i ∈ Region.ready md ops listed, all.contains i = false := fun i hi => by
  cases hc : all.contains i with
  | false => rfl
  | true =>
   have h2 := List.all_eq_true.1 hd i (by simpa using hc)
   rw [(mem_ready.1 hi).1] at h2; cases h2
 cases f with
 | zero => obtain ⟨w, hw⟩ := hne; exact ⟨(h w hw).1, fun w hw => (h w hw).2⟩
 | succ f => exact ⟨fun h0 w hw => (h w hw).1 h0, fun i hi => .inr ⟨hno i hi, fun w hw => (h w hw).2 i hi⟩⟩

theorem wpM_first {all hs : List Nat} {listed0 : Array Bool} {Q : Exit → Act → World → Prop} {i : Nat} {oi : Oper} {v : Value} (hi : ops[i]? = some oi) (hsel : ∀ (j : Nat) (o : Oper) cs b, ops[j]? = some o → o.op ≠ .select cs b)
  (hin : all.contains i = true) :
  ∀ (f : Nat) (listed : Array Bool) (a : Act), HeadInv2 md ops listed → (∀ t, listed0.getD t true = true → listed.getD t true = true) →
   (∀ j oj, ops[j]? = some oj → j ≠ i → listed.getD j true = false → (∀ e ∈ oj.after, Region.binds md e = true → e.on ≠ i) → oi.apart ops oj = true) →
   i ∈ Region.ready md ops listed → YieldsIn P ops C oi v a → ((Yields P ops oi v a ∧ ∀ c a w, Q (.panic c) (a.put oi.dst v) w → Q (.panic c) a w) ∨ (hs.contains i = true ∧ Region.sink2 md ops all hs listed0 = true)) →
   wpM P md ops C Q all f (listed.setIfInBounds i true) (a.put oi.dst v) → wpM P md ops C Q all (f + 1) listed a := by
 intro f
 induction f with
 | zero =>
  intro listed a inv hmo _ hr hy hp H
  refine ⟨fun h => (by rw [h] at hr; cases hr), fun j hj => ?_⟩
  by_cases hji : j = i
  ·subst hji; exact .inl ⟨hin, hy.qOp hi H⟩
  ·have := ready_mono hj hji
   rw [H.1] at this; cases this
 | succ f ih =>
  intro listed a inv hmo hfree hr hy hp H
  have hun := (mem_ready.1 hr).1
  refine ⟨fun h => (by rw [h] at hr; cases hr), fun j hj => ?_⟩
  by_cases hji : j = i
  ·subst hji; exact .inl ⟨hin, hy.qOp hi H⟩
  ·have h1 := H.2 j (ready_mono hj hji)
   obtain ⟨hjun, oj, hoj, hall⟩ := mem_ready.1 hj
   have hnot : ∀ e ∈ oj.after, Region.binds md e = true → e.on ≠ i := fun e he hb heq => by
    have h1 := hall e he hb
    rw [heq, getD_both hun] at h1
    cases h1
   have hap := hfree j oj hoj hji hjun hnot
   have hfree' : ∀ k ok, ops[k]? = some ok → k ≠ i → (listed.setIfInBounds j true).getD k true = false →
     (∀ e ∈ ok.after, Region.binds md e = true → e.on ≠ i) → oi.apart ops ok = true := fun k ok hk hki hun hno => by
    refine hfree k ok hk hki ?_ hno
    by_cases hjk : j = k
    ·subst hjk; exact hjun
    ·rw [getD_set_ne true hjk] at hun; exact hun
   rcases h1 with ⟨hc, h1⟩ | ⟨hc, h1⟩
   ·have h2 := qOp_put hoj hap (fun cs b => hsel i oi cs b hi) (fun cs b => hsel j oj cs b hoj) hy h1
    have keep : ∀ (a : Act), ((Yields P ops oi v a ∧ ∀ c a w, Q (.panic c) (a.put oi.dst v) w → Q (.panic c) a w) ∨ (hs.contains i = true ∧ Region.sink2 md ops all hs listed0 = true)) → ∀ u, ((Yields P ops oi v (a.put oj.dst u) ∧ ∀ c a w, Q (.panic c) (a.put oi.dst v) w → Q (.panic c) a w) ∨ (hs.contains i = true ∧ Region.sink2 md ops all hs listed0 = true)) := fun a h u => by
     obtain ⟨_, _, h3⟩ := Oper.apart_spec hap
     exact Or.imp (fun hy => ⟨hy.1.of_same (execOp_put oi (fun cs b => hsel i oi cs b hi) a oj.dst u h3) (wanted_put oi a oj.dst u h3), hy.2⟩) id h
    refine .inl ⟨hc, ?_⟩
    obtain ⟨u, hu, hK⟩ := yieldsIn_of_qOp hoj h2
    refine hu.qOp hoj ?_
    have h4 := ih (listed.setIfInBounds j true) (a.put oj.dst u) (inv.set hj) (mono_set hmo) hfree' (ready_mono hr (Ne.symm hji)) hK.1 (keep a hp u) (by rw [Array.setIfInBounds_comm _ _ hji]; exact hK.2)
    exact h4
   ·rcases hp with hp | hp
    ·refine .inr ⟨hc, fun w hw => ?_⟩
     have h2 := wpOp_put hoj hap (fun cs b => hsel i oi cs b hi) (fun cs b => hsel j oj cs b hoj) hp.2 hp.1 (h1 w hw)
     refine wpOp_mono (fun a' w' h3 => wpAny_first hi hsel hp.2 f (listed.setIfInBounds j true) a' w' hfree' (ready_mono hr (Ne.symm hji)) h3.1 ?_) h2
     rw [Array.setIfInBounds_comm _ _ hji]
     exact h3.2
    ·have := tail_waits2 hp.2 hmo inv hp.1 hun hj
     rw [hc] at this; cases this

def Region.setAll : List Nat → Array Bool → Array Bool
 | [], listed => listed
 | k :: r, listed => Region.setAll r (listed.setIfInBounds k true)

def Region.permHead (md : Region.Mode) (ops : Array Oper) : List Nat → Array Bool → Bool
 | [], _ => true
 | k :: r, listed => (Region.ready md ops listed).contains k && Region.free md ops listed k && Region.permHead md ops r (listed.setIfInBounds k true)

def Region.headsB (md : Region.Mode) (ops : Array Oper) (all hs : List Nat) (listed : Array Bool) : Bool :=
 Region.noSelect ops && Region.closedB md ops listed && Region.sink2 md ops all hs listed && (hs.all fun i => all.contains i) && Region.permHead md ops hs listed

theorem wpM_lex {all hs : List Nat} {listed0 : Array Bool} {Q : Exit → Act → World → Prop} {g : Nat} (hsel : Region.noSelect ops = true) (hk : Region.sink2 md ops all hs listed0 = true) :
  ∀ (is : List Nat) (l : List Oper) (listed : Array Bool) (a : Act), (∀ i ∈ is, hs.contains i = true ∧ all.contains i = true) → is.map (fun k => ops[k]?) = l.map some → HeadInv2 md ops listed → (∀ t, listed0.getD t true = true → listed.getD t true = true) →
  Region.permHead md ops is listed = true → wpQuiet P ops C (wpM P md ops C Q all g (Region.setAll is listed)) l a →
  wpM P md ops C Q all (is.length + g) listed a
 | [], l, listed, a, _, hl, _, _, _, h => by
  have : l = [] := by simpa using hl.symm
  subst this
  rw [show ([] : List Nat).length + g = g by simp]; exact h
 | k :: is, l, listed, a, hin, hl, inv, hmo, hB, h => by
  match l, hl with
  | o :: l, hl' =>
   simp only [List.map_cons, List.cons.injEq] at hl'
   obtain ⟨h0, hl2⟩ := hl'
   simp only [Region.permHead, Bool.and_eq_true] at hB
   obtain ⟨⟨hr, hf⟩, hB'⟩ := hB
   have hr' : k ∈ Region.ready md ops listed := by simpa using hr
   have hst : qOp P ops C k (wpQuiet P ops C (wpM P md ops C Q all g (Region.setAll is (listed.setIfInBounds k true))) l) a := by unfold qOp; simp only [h0]; exact h
   obtain ⟨v, hy, hK⟩ := yieldsIn_of_qOp h0 hst
   rw [show (k :: is).length + g = (is.length + g) + 1 by simp; omega]
   exact wpM_first (listed0 := listed0) h0 (Region.noSelect_spec hsel) (hin k (by simp)).2 (is.length + g) listed a inv hmo (Region.free_spec h0 hf) hr' hy (.inr ⟨(hin k (by simp)).1, hk⟩)
    (wpM_lex hsel hk is l _ _ (fun i hi => hin i (by simp [hi])) hl2 (inv.set hr') (mono_set hmo) hB' hK)

def pickOps (l : List Oper) : List Nat → List Oper
 | [] => []
 | i :: is => l.getD i default :: pickOps l is

/-- The beginning: from the world behind the draw. -/
theorem wp_region_M {id : Nat} {Q : Exit → Act → World → Prop} {a : Act} {w : World} {l : List Oper} (all : List Nat) (hm : P.follows .mixedOrders = true) (hC : C w.drew)
  (h : wpM P .any l.toArray C Q all l.toArray.size (Array.replicate l.toArray.size false) a) : (Code.region id l.toArray true).wp P Q a w :=
 wp_region_any hm (wpAny_of_M _ _ _ w.drew hC h)

/-- The heads hs, quiet in the class. -/
theorem wpM_heads {Q : Exit → Act → World → Prop} {l : List Oper} {all : List Nat} {listed : Array Bool} {a : Act} (hs : List Nat) (g : Nat) (hB : Region.headsB md l.toArray all hs listed = true)
  (h1 : hs.map (fun k => l.toArray[k]?) = (pickOps l hs).map some)
  (h : wpQuiet P l.toArray C (wpM P md l.toArray C Q all g (Region.setAll hs listed)) (pickOps l hs) a) : wpM P md l.toArray C Q all (hs.length + g) listed a := by
 simp only [Region.headsB, Bool.and_eq_true] at hB
 obtain ⟨⟨⟨⟨hsel, hcl⟩, hk⟩, hall⟩, hp⟩ := hB
 exact wpM_lex hsel hk hs _ listed a (fun i hi => ⟨by simpa using hi, List.all_eq_true.1 hall i hi⟩) h1 (HeadInv2.of_closedB hcl) (fun t ht => ht) hp h

/-- One that yields in whatever world. -/
theorem wpM_pure {Q : Exit → Act → World → Prop} {l : List Oper} {all : List Nat} {listed : Array Bool} {a : Act} {v : Value} (i f : Nat) (hs : Region.noSelect l.toArray = true) (hcl : Region.closedB md l.toArray listed = true) (hf : Region.free md l.toArray listed i = true)
  (hr : (Region.ready md l.toArray listed).contains i = true) (hall : all.contains i = true) (hi : l.toArray[i]? = some (l.getD i default)) (hQ : ∀ c a w, Q (.panic c) (a.put (l.getD i default).dst v) w → Q (.panic c) a w)
  (hw : Region.wanted (l.getD i default) (yielded l.toArray a.tmps) = true) (hy : ∀ w, (execOp a.eval (l.getD i default)).run P w = .ok (.value v) w)
  (h : wpM P md l.toArray C Q all f (listed.setIfInBounds i true) (a.put (l.getD i default).dst v)) : wpM P md l.toArray C Q all (f + 1) listed a :=
 wpM_first (hs := []) (listed0 := listed) hi (Region.noSelect_spec hs) hall f listed a (HeadInv2.of_closedB hcl) (fun _ h => h) (Region.free_spec hi hf) (by simpa using hr)
  (.inl ⟨hw, fun w _ => by unfold Oper.quietAt; rw [hy w]; exact ⟨rfl, rfl⟩⟩) (.inl ⟨.inl ⟨hw, hy⟩, hQ⟩) h

def Region.seqL (md : Region.Mode) (ops : Array Oper) : List Nat → Array Bool → Bool
 | [], listed => (Region.ready md ops listed).isEmpty
 | k :: r, listed => decide (Region.ready md ops listed = [k]) && Region.seqL md ops r (listed.setIfInBounds k true)

theorem wpAny_seq' {Q' : Exit → Act → World → Prop} : ∀ (ts : List Nat) (l : List Oper) (listed : Array Bool) (a : Act) (w : World), ts.map (fun k => ops[k]?) = l.map some →
  Region.seqL md ops ts listed = true → wpList P ops Q' l a w → wpAny P md ops Q' ts.length listed a w
 | [], l, _, _, _, hl, hB, h => by
  have : l = [] := by simpa using hl.symm
  subst this
  exact ⟨by simpa [Region.seqL] using hB, h⟩
 | k :: ts, l, listed, a, w, hl, hB, h => by
  match l, hl with
  | o :: l, hl' =>
   simp only [List.map_cons, List.cons.injEq] at hl'
   obtain ⟨h0, hl2⟩ := hl'
   simp only [Region.seqL, Bool.and_eq_true, decide_eq_true_eq] at hB
   refine ⟨fun h1 => (by rw [hB.1] at h1; cases h1), fun i hi => ?_⟩
   rw [hB.1] at hi
   have hik : i = k := by simpa using hi
   subst hik
   have hw : wpOp P ops Q' i (wpList P ops Q' l) a w := by unfold wpOp; simp only [h0]; exact h
   exact wpOp_mono (fun a' w' h' => wpAny_seq' ts l _ a' w' hl2 hB.2 h') hw

/-- The tail ts, in its one order. -/
theorem wpAny_tail {Q : Exit → Act → World → Prop} {l : List Oper} {listed : Array Bool} {a : Act} {w : World} (ts : List Nat) (hB : Region.seqL md l.toArray ts listed = true)
  (h1 : ts.map (fun k => l.toArray[k]?) = (pickOps l ts).map some) (h : wpList P l.toArray Q (pickOps l ts) a w) : wpAny P md l.toArray Q ts.length listed a w :=
 wpAny_seq' ts _ listed a w h1 hB h

end
end Go
namespace Go.Proofs.Ytdnkffplkleolaa
open Go.RowKit
set_option maxRecDepth 100000
set_option maxHeartbeats 4000000

theorem elemOn : Elem Try.prog 76 75 4 32 (.agg #[.int .i64 0, .int .i64 0, .int .i64 0, .int .i64 0]) := ⟨by kernel_rfl, by kernel_rfl, by decide, by decide⟩
/-- The stack in the middle of tree.Right: k twigs have been taken. -/
structure StSt (w wr : World) (v : Value) (n : Nat) (t : List Tw) (k : Nat) (R : List On) : Prop where
 run : runT (t.take k) [base n] = some R
 bot : ∃ Q b, R = Q ++ [b] ∧ (n : Int) - k ≤ b.left
 own : Own w wr 75 4 v R.length (R.reverse.flatMap onc)
 bd : ∀ o ∈ R, 0 ≤ o.left ∧ o.left ≤ 1000000
 len : R.length ≤ k + 1

theorem onc_rev (o : On) (r : List On) : (o :: r).reverse.flatMap onc = r.reverse.flatMap onc ++ onc o := by simp
theorem onc_rlen (r : List On) : (r.reverse.flatMap onc).length = r.length * 4 := by rw [fl_len onc_len]; simp

/-- The stack's top in memory. -/
structure TopAt (w wr : World) (v : Value) (o : On) (r : List On) (g cap : Nat) : Prop where
 v : v = .slice (some ⟨g, 0, none⟩) (r.length + 1) cap
 le : r.length + 1 ≤ cap
 cm : cap ≤ 9223372036854775807
 lo : w.heap.size ≤ g
 lt : g < wr.heap.size
 cell : ∀ j u, (onv o).toList[j]? = some u → wr.cell? ⟨g, r.length * 4 + j, none⟩ = some u
 frozen : ∀ j, wr.frozen? ⟨g, j, none⟩ = false
 pop : Own w wr 75 4 (.slice (some ⟨g, 0, none⟩) r.length cap) r.length (r.reverse.flatMap onc)
 own : Own w wr 75 4 (.slice (some ⟨g, 0, none⟩) (r.length + 1) cap) (r.length + 1) ((o :: r).reverse.flatMap onc)

theorem Own.top {w wr : World} {v : Value} {o : On} {r : List On} (h : Own w wr 75 4 v (o :: r).length ((o :: r).reverse.flatMap onc)) : ∃ g cap, TopAt w wr v o r g cap := by
 obtain ⟨h1, hb⟩ := h
 obtain ⟨g, cap, rfl, _, _⟩ := World.ownsRow.form h1 (by simp)
 have hl : (o :: r).length = r.length + 1 := rfl
 rw [hl] at h1
 have hlt := h1.lt g (by simp [Value.ownBlock])
 rcases h1.2 with ⟨h0, _⟩ | ⟨g', cap', cur, hv, h3, h4, h5, h6, h7, h8⟩
 ·cases h0
 ·cases hv
  refine ⟨g, cap, rfl, h5, by unfold maxLen at h6; omega, hlt.1, hlt.2, ?_, fun j => h1.frozenAt j, ⟨ownsRow_pop (last := onc o) (onc_rlen r) (by rw [← onc_rev]; exact h1), hb⟩, ⟨h1, hb⟩⟩
  intro j u hj
  have hj4 : j < 4 := by have := (List.getElem?_eq_some_iff.1 hj).1; simpa [onv] using this
  rw [h1.cellAt _ (by omega), onc_rev, List.getElem?_append_right (by rw [onc_rlen]; omega), onc_rlen, Nat.add_sub_cancel_left]
  exact hj

theorem onc_set (o : On) (r : List On) (a b : Int) : (((o :: r).reverse.flatMap onc).set (r.length * 4) (.int .i64 a)).set (r.length * 4 + 3) (.int .i64 b) = ((⟨a, o.sf, o.st, b⟩ :: r : List On).reverse.flatMap onc) := by
 rw [onc_rev, onc_rev, ← onc_rlen r]
 simp [onc, onv]

theorem TopAt.put {w wr : World} {v : Value} {o : On} {r : List On} {g cap : Nat} (h : TopAt w wr v o r g cap) (a b : Int) :
  Own w ((wr.setCell ⟨g, r.length * 4, none⟩ (.int .i64 a)).setCell ⟨g, r.length * 4 + 3, none⟩ (.int .i64 b)) 75 4 (.slice (some ⟨g, 0, none⟩) (r.length + 1) cap) (r.length + 1) ((⟨a, o.sf, o.st, b⟩ :: r : List On).reverse.flatMap onc) := by
 have h1 := h.own.1.stored (r.length * 4) (.int .i64 a)
 have h2 := h1.1.stored (r.length * 4 + 3) (.int .i64 b)
 rw [onc_set] at h2
 have hF := ((Fr.of_below (F := fun k => k = g) h.own.2 : Fr _ w wr).trans (Fr.setCell wr ⟨g, r.length * 4, none⟩ (.int .i64 a)) (fun _ _ h => h)).trans (Fr.setCell _ ⟨g, r.length * 4 + 3, none⟩ (.int .i64 b)) (fun _ _ h => h)
 exact ⟨h2.1, hF.below (Nat.le_refl _) (fun k hk e => by have := h.lo; omega)⟩

/-- In the middle of the inner loop. -/
structure InSt (w wr : World) (v : Value) (n : Nat) (k : Nat) (R R' : List On) (g1 : Nat) (x : Tw) : Prop where
 eq : R'.dropWhile On.done = R.dropWhile On.done
 bot : ∃ Q b, R' = Q ++ [b] ∧ (n : Int) - k ≤ b.left
 own : Own w wr 75 4 v R'.length (R'.reverse.flatMap onc)
 bd : ∀ o ∈ R', 0 ≤ o.left ∧ o.left ≤ 1000000
 box : hrow wr g1 (twv x) 43
 len : R'.length ≤ k + 1
def lenOf (v : Value) : Nat := match v with | .slice _ n _ => n | _ => 0

theorem TopAt.below {w wr w' : World} {v : Value} {o : On} {r : List On} {g cap : Nat} (h : TopAt w wr v o r g cap) (hb : Below wr.heap.size wr w') : TopAt w w' v o r g cap :=
 ⟨h.v, h.le, h.cm, h.lo, by have := h.lt; have := hb.size; omega, fun j u hj => (hb.cell (p := ⟨g, r.length * 4 + j, none⟩) h.lt).trans (h.cell j u hj), fun j => (hb.frozen (p := ⟨g, j, none⟩) h.lt).trans (h.frozen j), h.pop.below hb, h.own.below hb⟩
theorem TopAt.ne {w wr : World} {v : Value} {o : On} {r : List On} {g cap g1 : Nat} {cs : Array Value} {t : TypeId} (h : TopAt w wr v o r g cap) (hg : hrow wr g1 cs t) (ht : t ≠ 75) : g1 ≠ g := by
 rintro rfl
 rcases h.own.1.2 with ⟨h0, _⟩ | ⟨g', cap', cur, hv, _, h4, _⟩
 ·cases h0
 ·cases hv
  rw [hg.h] at h4
  simp only [Option.some.injEq, Obj.cells.injEq] at h4
  exact ht h4.2.1

/-- wpList_app1, the block's number in whatever form. -/
theorem wpList_app1g {P : Program} (w0 wr : World) {ops : Array Oper} {rest : List Oper} {o : Oper} {a : Act} {Q : Exit → Act → World → Prop} (hgd : o.guard = none) (s x : Operand) (t e : TypeId) {size bytes : Nat} {z : Value}
  (ho : o.op = .call { callee := .builtin .append, args := #[s, x], argTypes := #[t, t] }) (he : Elem P t e size bytes z) (gg : Nat) (hgg : gg = wr.heap.size)
  (v : Value) (n : Nat) (xs : List Value) (hs : a.eval s = v) (hO : Own w0 wr e size v n xs) (ys : Array Value) (hy : ys.size = 1 * size) (hx : a.eval x = .slice (some ⟨gg, 0, none⟩) 1 1) (h1 : ∀ u ∈ ys.toList, u.oneCell' = true)
  (hlen : (n + 1) * bytes ≤ 140737488355328) (hl2 : n + 1 ≤ maxLen)
  (h : ∀ v' w', Own w0 w' e size v' (n + 1) (xs ++ ys.toList) → wpList P ops Q rest (a.put o.dst v') w') : wpList P ops Q (o :: rest) a (wr.alloc (.cells ys e)) := by
 subst hgg
 exact wpList_app1 w0 wr hgd s x t e ho he v n xs hs hO ys hy hx h1 hlen hl2 h

theorem Sv.tail {w : World} {a : Addr} {n cap s : Nat} {xs ys : List Value} (h : Sv w (some a) (n + 1) cap s (xs ++ ys)) (hx : xs.length = s) : Sv w (some (a.add s)) n (cap - 1) s ys := by
 have hl := h.len
 rw [List.length_append, hx, Nat.succ_mul] at hl
 refine ⟨by omega, by have := h.le; omega, by have := h.cm; omega, (fun h => nomatch h), fun j hj => ⟨_, rfl, ?_⟩⟩
 obtain ⟨a', ha, hc⟩ := h.cell (s + j) (by rw [List.length_append]; omega)
 cases ha
 rw [add_add, hc, List.getElem?_append_right (by omega)]
 congr 1; omega

theorem InSt.pop {w wr w2 : World} {n k : Nat} {R r : List On} {o : On} {g1 g c : Nat} {x : Tw} {v : Value} (h : InSt w wr v n k R (o :: r) g1 x) (hT : TopAt w wr v o r g c) (hb : Below wr.heap.size wr w2) (hd : o.done = true) (hk : k < n) :
  InSt w w2 (.slice (some ⟨g, 0, none⟩) r.length c) n k R r g1 x := by
 refine ⟨?_, ?_, hT.pop.below hb, fun o ho => h.bd o (by simp [ho]), h.box.below hb, by have := h.len; simp only [List.length_cons] at this; omega⟩
 ·rw [← h.eq]; simp [List.dropWhile, hd]
 ·obtain ⟨Q, b, hQ, hb⟩ := h.bot
  cases Q with
  | nil =>
   simp only [List.nil_append, List.cons.injEq] at hQ
   obtain ⟨rfl, _⟩ := hQ
   simp [On.done] at hd
   omega
  | cons q Q =>
   simp only [List.cons_append, List.cons.injEq] at hQ
   exact ⟨Q, b, hQ.2, hb⟩

theorem InSt.drop {w wr : World} {n k : Nat} {R r : List On} {o : On} {g1 : Nat} {x : Tw} {v : Value} (h : InSt w wr v n k R (o :: r) g1 x) (hd : o.done = false) : R.dropWhile On.done = o :: r := by
 rw [← h.eq]; simp [List.dropWhile, hd]

theorem forest_none {t : List Tw} {k n : Nat} {R r : List On} {o : On} {x : Tw} (hn : t.length = n) (hrun : runT (t.take k) [base n] = some R) (hdr : t.drop k = x :: t.drop (k + 1)) (hR : R.dropWhile On.done = o :: r) (hx : takesB o.sf o.st o.nx x = false) : forestB t = false := by
 have h : runT t [base n] = none := by
  rw [← List.take_append_drop k t, runT_append, hrun, hdr]
  simp [runT, stp, hR, hx]
 unfold forestB
 rw [hn, h]

theorem StSt.next {w wr : World} {v : Value} {t : List Tw} {k n : Nat} {R r : List On} {o : On} {x : Tw} (hrun : runT (t.take k) [base n] = some R) (hts : t.take (k + 1) = t.take k ++ [x]) (hR : R.dropWhile On.done = o :: r) (hx : takesB o.sf o.st o.nx x = true)
  (hbot : ∃ Q b, o :: r = Q ++ [b] ∧ (n : Int) - k ≤ b.left) (hbd : ∀ o' ∈ o :: r, 0 ≤ o'.left ∧ o'.left ≤ 1000000) (hd : o.done = false) (hxk : x.kids ≤ 1000000) (hlen : (o :: r).length ≤ k + 1)
  (hown : Own w wr 75 4 v (r.length + 1 + 1) ((⟨x.kids, x.fr, x.to, x.fr⟩ :: ⟨o.left - 1, o.sf, o.st, x.to⟩ :: r : List On).reverse.flatMap onc)) :
  StSt w wr v n t (k + 1) (⟨x.kids, x.fr, x.to, x.fr⟩ :: ⟨o.left - 1, o.sf, o.st, x.to⟩ :: r) := by
 have h0 : 0 ≤ x.kids := by simp [takesB] at hx; omega
 have ho := hbd o (by simp)
 have hd' : o.left ≠ 0 := by simpa [On.done] using hd
 refine ⟨?_, ?_, hown, ?_, by simp only [List.length_cons] at hlen ⊢; omega⟩
 ·rw [hts, runT_append, hrun]; simp [runT, stp, hR, hx]
 ·obtain ⟨Q, b, hQ, hb⟩ := hbot
  cases Q with
  | nil =>
   simp only [List.nil_append, List.cons.injEq] at hQ
   obtain ⟨rfl, rfl⟩ := hQ
   exact ⟨[⟨x.kids, x.fr, x.to, x.fr⟩], _, rfl, by simp only []; omega⟩
  | cons q Q =>
   simp only [List.cons_append, List.cons.injEq] at hQ
   exact ⟨⟨x.kids, x.fr, x.to, x.fr⟩ :: ⟨o.left - 1, o.sf, o.st, x.to⟩ :: Q, b, by rw [hQ.2]; simp, by omega⟩
 ·intro o' ho'
  simp only [List.mem_cons] at ho'
  rcases ho' with rfl | rfl | ho'
  ·exact ⟨h0, hxk⟩
  ·simp only []; omega
  ·exact hbd o' (by simp [ho'])

theorem forest_any (w : World) (ao : Option Addr) (cap n : Nat) (t : List Tw) (hs : Sv w ao n cap 5 (t.flatMap twc)) (hn : n ≤ 1000000) (hk : ∀ x ∈ t, x.kids ≤ 1000000) :
  Calls Try.prog 9 #[.slice ao n cap] w fun r w' => r = .returned (.bool (forestB t)) ∧ Below w.heap.size w w' := by
 obtain ⟨h1, h2⟩ := hs.bound
 have hl := hs.elems_len twc_len (by omega)
 have HSl := Lib.hid hs; clear hs
 have HL := Lib.hid hl; clear hl
 have HK := Lib.hid hk; clear hk
 have HO := Lib.hid (Own.lit w 75 #[.int .i64 n, .int .i64 0, .int .i64 9223372036854775807, .int .i64 0] 1 4 (by decide) rfl)
 have HN := Lib.hid hn; clear hn
 go_enter Try.func9, Try.ntmps9
 go_wp2_with fail
 revert HO
 generalize w.alloc _ = wb
 generalize w.heap.size = g0
 intro HO
 go_loopw [3, 14] (fun v i wr => ∃ k R, k ≤ n ∧ i = .int .i64 k ∧ Hid (StSt w wr v n t k R)) (fun _ i _ => n - (intOf i).toNat)
 case atStart =>
  exact ⟨0, [base n], by omega, rfl, rfl, ⟨[], base n, rfl, by simp [base]⟩, HO.out, by simp [base]; have := HN.out; omega, by simp⟩
 case round =>
  obtain ⟨k, R, hk, rfl, hI⟩ := hrel
  clear HO
  by_cases hlt : k < n
  ·have hkz : k < t.length := by have := HL.out; omega
   obtain ⟨a, rfl, hc⟩ := (HSl.out.below (hI.out.own.2)).elem twc_len k hkz (by omega)
   have hts : t.take (k + 1) = t.take k ++ [t[k]] := List.take_succ_eq_append_getElem hkz
   have hkx := HK.out _ (List.getElem_mem hkz)
   have hdr : t.drop k = t[k] :: t.drop (k + 1) := List.drop_eq_getElem_cons hkz
   have HT := Lib.hid hts; have HX := Lib.hid hkx; have HD := Lib.hid hdr
   clear hts hkx hdr
   generalize t[k]'_ = x at *
   clear hkz
   obtain ⟨x1, x2, x3, x4, x5⟩ := x
   have h0k : (0 : Int) ≤ k := by omega
   have HC := Lib.hid (show ∀ j v, (#[.int .i64 x1, .int .i64 x2, .int .i64 x3, .int .i64 x4, .int .i64 x5] : Array Value).toList[j]? = some v → wr.cell? ((a.add (k * 5)).add j) = some v from hc)
   have K2 : Hid ((Try.prog.info? 43).map (·.size) = some (#[.int .i64 x1, .int .i64 x2, .int .i64 x3, .int .i64 x4, .int .i64 x5] : Array Value).size) := by unfold Hid; kernel_rfl
   clear hc
   have HI0 : Hid (InSt w (wr.alloc (.cells #[.int .i64 x1, .int .i64 x2, .int .i64 x3, .int .i64 x4, .int .i64 x5] 43)) u3 n k R R wr.heap.size ⟨x1, x2, x3, x4, x5⟩) :=
    ⟨rfl, hI.out.bot, hI.out.own.below ((Below.refl _ _).alloc (Nat.le_refl _) _), hI.out.bd, hrow.new _ _ _, hI.out.len⟩
   go_wp2_with (first
     | (refine wpList_load_part rfl 43 (.tmp 16) rfl (a.add (k * 5)) rfl #[.int .i64 x1, .int .i64 x2, .int .i64 x3, .int .i64 x4, .int .i64 x5] _ HC.out Try.underlying43 rfl K2.out ?_))
   clear HC K2
   have HRun := Lib.hid hI.out.run
   clear hI
   revert HI0
   generalize wr.alloc _ = wb
   generalize wr.heap.size = g1
   intro HI0
   go_loopw [3] (fun v wr' => ∃ R', Hid (InSt w wr' v n k R R' g1 ⟨x1, x2, x3, x4, x5⟩)) (fun v _ => lenOf v)
   case atStart => exact ⟨R, HI0⟩
   case round =>
    obtain ⟨R', hI⟩ := hrel
    cases R' with
    | nil => obtain ⟨Q, b, h, _⟩ := hI.out.bot; exact absurd h (by simp)
    | cons o r =>
     obtain ⟨g, c, hT⟩ := hI.out.own.top
     have HTp := Lib.hid hT
     obtain rfl := hT.v
     have hle := hT.le
     have hcm := hT.cm
     have hlr : r.length ≤ c := by omega
     have hin : (r.length : Int) < (r.length : Int) + 1 := by omega
     have hr0 : (0 : Int) ≤ r.length := by omega
     obtain ⟨o1, o2, o3, o4⟩ := o
     have c0 : wr.cell? ⟨g, r.length * 4, none⟩ = some (.int .i64 o1) := hT.cell 0 _ rfl
     have c1 : wr.cell? ⟨g, r.length * 4 + 1, none⟩ = some (.int .i64 o2) := hT.cell 1 _ rfl
     have c2 : wr.cell? ⟨g, r.length * 4 + 2, none⟩ = some (.int .i64 o3) := hT.cell 2 _ rfl
     have c3 : wr.cell? ⟨g, r.length * 4 + 3, none⟩ = some (.int .i64 o4) := hT.cell 3 _ rfl
     clear hT
     go_wp2_with fail
     refine (done_any _ o1 o2 o3 o4).mono ?_
     rintro e w2 ⟨rfl, hb2⟩
     have HB2 := Lib.hid hb2; clear hb2
     generalize hx : (o1 == 0) = y
     cases y
     ·go_wp2_with fail
      have HD2 := Lib.hid (show On.done ⟨o1, o2, o3, o4⟩ = false from hx)
      have HDr := Lib.hid (hI.out.drop HD2.out)
      have HBx := Lib.hid (hI.out.box.below HB2.out)
      have HBb := Lib.hid (show ∀ y : Later w2, Below wr.heap.size wr y.val from fun y => HB2.out.trans (y.ok.mono HB2.out.size))
      have hlt2 := HTp.out.lt
      clear c0 c1 c2 c3 hx
      have c0 : ∀ y : Later w2, y.val.cell? ⟨g, r.length * 4, none⟩ = some (.int .i64 o1) := fun y => ((HBb.out y).cell (p := ⟨g, r.length * 4, none⟩) hlt2).trans (HTp.out.cell 0 _ rfl)
      have c1 : ∀ y : Later w2, y.val.cell? ⟨g, r.length * 4 + 1, none⟩ = some (.int .i64 o2) := fun y => ((HBb.out y).cell (p := ⟨g, r.length * 4 + 1, none⟩) hlt2).trans (HTp.out.cell 1 _ rfl)
      have c2 : ∀ y : Later w2, y.val.cell? ⟨g, r.length * 4 + 2, none⟩ = some (.int .i64 o3) := fun y => ((HBb.out y).cell (p := ⟨g, r.length * 4 + 2, none⟩) hlt2).trans (HTp.out.cell 2 _ rfl)
      have c3 : ∀ y : Later w2, y.val.cell? ⟨g, r.length * 4 + 3, none⟩ = some (.int .i64 o4) := fun y => ((HBb.out y).cell (p := ⟨g, r.length * 4 + 3, none⟩) hlt2).trans (HTp.out.cell 3 _ rfl)
      have d0 : ∀ y : Later w2, y.val.cell? ⟨g1, 0, none⟩ = some (.int .i64 x1) := fun y => (HBx.out.below y.ok).cell 0
      have d1 : ∀ y : Later w2, y.val.cell? ⟨g1, 1, none⟩ = some (.int .i64 x2) := fun y => (HBx.out.below y.ok).cell 1
      have d2 : ∀ y : Later w2, y.val.cell? ⟨g1, 2, none⟩ = some (.int .i64 x3) := fun y => (HBx.out.below y.ok).cell 2
      have d3 : ∀ y : Later w2, y.val.cell? ⟨g1, 3, none⟩ = some (.int .i64 x4) := fun y => (HBx.out.below y.ok).cell 3
      have d4 : ∀ y : Later w2, y.val.cell? ⟨g1, 4, none⟩ = some (.int .i64 x5) := fun y => (HBx.out.below y.ok).cell 4
      have HTk := Lib.hid (fun y : Later w2 => takes_any y.val o1 o2 o3 o4 ⟨x1, x2, x3, x4, x5⟩)
      clear hlt2
      refine wp_region_later (by kernel_rfl) (by kernel_rfl) ?_
      repeat (go_big_quiet_step ((go_at_call 21; exact Calls.later (HTk.out _))))
      clear c0 c1 c2 c3 d0 d1 d2 d3 d4
      refine wpQuiet_nil ?_
      intro w5 hw5
      obtain ⟨y, rfl⟩ := hw5
      have HT6 := Lib.hid (HTp.out.below (HBb.out y))
      have HX6 := Lib.hid (HBx.out.below y.ok)
      clear HTk
      generalize y.val = w6 at *
      have HD6 := Lib.hid (HT6.out.own.2)
      generalize htk : takesB o2 o3 o4 ⟨x1, x2, x3, x4, x5⟩ = z
      cases z
      ·go_wp2_with fail
       go_ret
       exact ⟨ret_bool (forest_none HL.out HRun.out HD.out HDr.out htk).symm, HD6.out⟩
      ·have HNe := Lib.hid (HT6.out.ne HX6.out (by decide))
       have c0 : ∀ y : Later w6, y.val.cell? ⟨g, r.length * 4, none⟩ = some (.int .i64 o1) := fun y => (HT6.out.below y.ok).cell 0 _ rfl
       have f0 : ∀ y : Later w6, y.val.frozen? ⟨g, r.length * 4, none⟩ = false := fun y => (HT6.out.below y.ok).frozen _
       have f3 : ∀ y : Later w6, y.val.frozen? ⟨g, r.length * 4 + 3, none⟩ = false := fun y => (HT6.out.below y.ok).frozen _
       have d3 : ∀ y : Later w6, y.val.cell? ⟨g1, 3, none⟩ = some (.int .i64 x4) := fun y => (HX6.out.below y.ok).cell 3
       have hbo := hI.out.bd ⟨o1, o2, o3, o4⟩ (by simp)
       have hw0 : 0 ≤ o1 := hbo.1
       have hw1 : o1 ≤ 1000000 := hbo.2
       clear hbo
       have hwr : IntKind.i64.wrap (o1 - 1) = o1 - 1 := IntWalk.i64_in _ (by omega)
       go_wp2_with fail
       have c0' : w6.cell? ⟨g, r.length * 4, none⟩ = some (.int .i64 o1) := HT6.out.cell 0 _ rfl
       have c3' : w6.cell? ⟨g, r.length * 4 + 3, none⟩ = some (.int .i64 o4) := HT6.out.cell 3 _ rfl
       have f0' : w6.frozen? ⟨g, r.length * 4, none⟩ = false := HT6.out.frozen _
       have f3' : w6.frozen? ⟨g, r.length * 4 + 3, none⟩ = false := HT6.out.frozen _
       have d3' : w6.cell? ⟨g1, 3, none⟩ = some (.int .i64 x4) := HX6.out.cell 3
       have hne := HNe.out
       clear c0 f0 f3 d3
       go_region
       clear c0' c3' f0' f3' d3' hne
       have HQ := Lib.hid ((HT6.out.put (o1 - 1) x4).below ((Below.refl _ _).drew))
       have HX7 := Lib.hid ((hrow.fr HX6.out (((Fr.refl (fun k => k = g) w6).trans (Fr.setCell w6 ⟨g, r.length * 4, none⟩ (.int .i64 (o1 - 1))) (fun _ _ h => h)).trans (Fr.setCell _ ⟨g, r.length * 4 + 3, none⟩ (.int .i64 x4)) (fun _ _ h => h)) HNe.out).below ((Below.refl _ _).drew))
       revert HQ HX7
       generalize World.drew _ = w7
       intro HQ HX7
       have e2 := HX7.out.cell 2
       have e3 := HX7.out.cell 3
       have e4 := HX7.out.cell 4
       simp only [twv, List.getElem?_toArray, List.getElem?_cons_succ, List.getElem?_cons_zero] at e2 e3 e4
       have HLn := Lib.hid (show (r.length + 1 + 1) * 32 ≤ 140737488355328 ∧ r.length + 1 + 1 ≤ maxLen from by
        have h1 := hI.out.len; have h2 := HN.out; simp only [List.length_cons] at h1; unfold maxLen; omega)
       have HOne := Lib.hid (show ∀ u ∈ (#[.int .i64 x5, .int .i64 x3, .int .i64 x4, .int .i64 x3] : Array Value).toList, u.oneCell' = true from by simp [Value.oneCell'])
       go_wp2_with (first
        | (at_builtin; go_loud (refine wpList_app1g w _ rfl _ _ 76 75 rfl elemOn _ rfl (.slice (some ⟨g, 0, none⟩) (r.length + 1) c) (r.length + 1) _ rfl HQ.out #[.int .i64 x5, .int .i64 x3, .int .i64 x4, .int .i64 x3] rfl rfl HOne.out HLn.out.1 HLn.out.2 ?_; intro v' w8 hO8; have HO8 := Lib.hid hO8; clear hO8)))
       go_roundw
       case rel =>
        refine ⟨k + 1, _, by omega, by go_num, StSt.next HRun.out HT.out HDr.out htk hI.out.bot hI.out.bd HD2.out HX.out hI.out.len ?_⟩
        rw [onc_rev]
        exact HO8.out
       case measure => simp [intOf]; omega
     ·go_wp2_with fail
      go_roundw
      case rel =>
       exact ⟨r, InSt.pop hI.out HTp.out HB2.out (by simpa [On.done] using hx) hlt⟩
      case measure => simp [lenOf]
  ·have hkn : k = n := by omega
   subst hkn
   have hfull : t.take k = t := List.take_of_length_le (by have := HL.out; omega)
   have HRun := Lib.hid (show runT t [base t.length] = some R from by have := hI.out.run; rw [hfull, ← HL.out] at this; rw [HL.out] at this ⊢; exact this)
   clear hfull
   obtain ⟨Q, b, hQ, _⟩ := hI.out.bot
   have HOw := Lib.hid hI.out.own
   clear hI
   subst hQ
   have HF := Lib.hid (show forestB t = Q.all On.done from by unfold forestB; rw [HRun.out]; simp)
   obtain ⟨g, c, rfl, _, _⟩ := World.ownsRow.form HOw.out.1 (by simp)
   obtain ⟨ao', cap', hv, hsv⟩ := HOw.out.sv
   simp only [Value.slice.injEq] at hv
   obtain ⟨rfl, _, rfl⟩ := hv
   have hb := hsv.bound
   have hle : Q.length + 1 ≤ c := by have := hb.1; simpa using this
   have hcm := hb.2
   have HSv := Lib.hid hsv
   clear hsv hb
   have hlq : (Q ++ [b]).length = Q.length + 1 := by simp
   rw [hlq]
   clear hlq
   have hin1 : (1 : Int) ≤ (Q.length : Int) + 1 := by omega
   have hrev : List.flatMap onc (Q ++ [b]).reverse = onc b ++ Q.reverse.flatMap onc := by simp
   rw [hrev] at HSv
   clear hrev
   have HAll := Lib.hid (show Q.reverse.all On.done = forestB t from by rw [HF.out]; simp)
   have hlr : Q.reverse.length = Q.length := by simp
   have HB := Lib.hid HOw.out.2
   clear HF HOw HRun
   rcases Nat.lt_or_ge 1 c with hc1 | hc1
   ·have HSb := Lib.hid (show Sv wr (some ⟨g, 4, none⟩) Q.length (c - 1) 4 (Q.reverse.flatMap onc) from (by simpa using HSv.out : Sv wr (some ⟨g, 0, none⟩) (Q.length + 1) c 4 (onc b ++ Q.reverse.flatMap onc)).tail rfl)
    go_wp2_with (first
     | (go_at_call 22; refine (contains_any wr _ _ _ Q.reverse HSb.out).mono ?_; rintro e w2 ⟨rfl, hb2⟩; rw [HAll.out]; have HB2 := Lib.hid hb2; clear hb2))
    go_ret
    exact ⟨by simp, HB.out.trans (HB2.out.mono HB.out.size)⟩
   ·obtain rfl : c = 1 := by omega
    have hq0 : Q = [] := List.eq_nil_of_length_eq_zero (by omega)
    subst hq0
    have HSb := Lib.hid (show Sv wr (some ⟨g, 0, none⟩) 0 0 4 (([] : List On).flatMap onc) from ⟨rfl, Nat.le_refl _, by decide, (fun h => nomatch h), fun j hj => absurd hj (by simp)⟩)
    simp only [List.length_nil, List.reverse_nil] at *
    go_wp2_with (first
     | (go_at_call 22; refine (contains_any wr _ _ _ [] HSb.out).mono ?_; rintro e w2 ⟨rfl, hb2⟩; rw [HAll.out]; have HB2 := Lib.hid hb2; clear hb2))
    go_ret
    exact ⟨by simp, HB.out.trans (HB2.out.mono HB.out.size)⟩
end Go.Proofs.Ytdnkffplkleolaa
