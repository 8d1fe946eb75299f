/- As Later: but the operations that come first may be taken in an order of the prover's own, and the tail need not stand behind them in the text. -/
import Derived.Test.YtmpccinbeepbgaaLater
namespace Go
open Go.RowKit

section
variable {P : Program} {ops : Array Oper} {md : Region.Mode} {C : World → Prop}

/-- Of each operation, the bits of all that it waits for, at first hand or through others. -/
def Region.ancs (md : Region.Mode) : List Oper → Array Nat → Array Nat
  | [], acc => acc
  | o :: r, acc => Region.ancs md r (acc.push (o.after.toList.foldr (fun e s => if Region.binds md e then 2 ^ e.on ||| acc.getD e.on 0 ||| s else s) 0))

/-- All that j waits for at first hand has come up. -/
def Region.Direct (md : Region.Mode) (ops : Array Oper) (listed : Array Bool) (j : Nat) : Prop :=
  ∀ oj, ops[j]? = some oj → ∀ e ∈ oj.after, Region.binds md e = true → listed.getD e.on false = true

theorem fold_bits {acc : Array Nat} {j : Nat} : ∀ (es : List Edge), (es.foldr (fun e s => if Region.binds md e then 2 ^ e.on ||| acc.getD e.on 0 ||| s else s) 0).testBit j = true →
    ∃ e ∈ es, Region.binds md e = true ∧ (e.on = j ∨ (acc.getD e.on 0).testBit j = true)
  | [], h => by simp at h
  | e :: r, h => by
    simp only [List.foldr_cons] at h
    split at h
    · rename_i hb
      rw [Nat.testBit_or, Nat.testBit_or, Nat.testBit_two_pow] at h
      simp only [Bool.or_eq_true, decide_eq_true_eq] at h
      rcases h with (h | h) | h
      · exact ⟨e, by simp, hb, .inl h⟩
      · exact ⟨e, by simp, hb, .inr h⟩
      · obtain ⟨e', h1, h2⟩ := fold_bits r h
        exact ⟨e', by simp [h1], h2⟩
    · obtain ⟨e', h1, h2⟩ := fold_bits r h
      exact ⟨e', by simp [h1], h2⟩

theorem ancs_spec {listed : Array Bool} (hcl : ∀ j, listed.getD j false = true → Region.Direct md ops listed j) : ∀ (l : List Oper) (acc : Array Nat), (∀ k, l[k]? = ops[acc.size + k]?) →
    (∀ t, t < acc.size → Region.Direct md ops listed t → ∀ j, (acc.getD t 0).testBit j = true → listed.getD j false = true) →
    ∀ t, Region.Direct md ops listed t → ∀ j, ((Region.ancs md l acc).getD t 0).testBit j = true → listed.getD j false = true
  | [], acc, _, hacc => by
    intro t hd j hj
    simp only [Region.ancs] at hj
    rcases Nat.lt_or_ge t acc.size with h | h
    · exact hacc t h hd j hj
    · simp [Array.getD, Nat.not_lt.2 h] at hj
  | o :: r, acc, hl, hacc => by
    refine ancs_spec hcl r _ (fun k => ?_) ?_
    · have := hl (k + 1)
      simp only [List.getElem?_cons_succ] at this
      rw [this]; congr 1; simp; omega
    · intro t ht hd j hj
      simp only [Array.size_push] at ht
      rcases Nat.lt_or_ge t acc.size with h | h
      · refine hacc t h hd j ?_
        simpa [Array.getD, h, Nat.lt_succ_of_lt h, Array.getElem_push_lt h] using hj
      · have hte : t = acc.size := by omega
        subst hte
        have h0 : ops[acc.size]? = some o := by have := hl 0; simpa using this.symm
        have hj' : (o.after.toList.foldr (fun e s => if Region.binds md e then 2 ^ e.on ||| acc.getD e.on 0 ||| s else s) 0).testBit j = true := by
          simpa [Array.getD] using hj
        obtain ⟨e, he, hb, h1⟩ := fold_bits _ hj'
        have hon := hd o h0 e (by simpa using he) hb
        rcases h1 with h1 | h1
        · rw [← h1]; exact hon
        · rcases Nat.lt_or_ge e.on acc.size with h2 | h2
          · exact hacc _ h2 (hcl _ hon) j h1
          · simp [Array.getD, Nat.not_lt.2 h2] at h1

/-- While heads come up. -/
structure HeadInv2 (md : Region.Mode) (ops : Array Oper) (listed : Array Bool) : Prop where
  size : listed.size = ops.size
  closed : ∀ j, listed.getD j false = true → Region.Direct md ops listed j

def Region.closedB (md : Region.Mode) (ops : Array Oper) (listed : Array Bool) : Bool :=
  decide (listed.size = ops.size) && (List.range ops.size).all fun j => !listed.getD j false || ((ops[j]?).map (·.after.all fun e => !Region.binds md e || listed.getD e.on false)).getD true

theorem HeadInv2.of_closedB {listed : Array Bool} (h : Region.closedB md ops listed = true) : HeadInv2 md ops listed := by
  simp only [Region.closedB, Bool.and_eq_true, decide_eq_true_eq, List.all_eq_true] at h
  refine ⟨h.1, fun j hj oj ho e he hb => ?_⟩
  have hlt : j < ops.size := (Array.getElem?_eq_some_iff.1 ho).1
  have h2 := h.2 j (List.mem_range.2 hlt)
  simp only [hj, Bool.not_true, Bool.false_or, ho, Option.map_some, Option.getD_some, Array.all_eq_true_iff_forall_mem] at h2
  have h3 := h2 e he
  simpa [hb] using h3

/-- Whatever has not come up, and is none of all, waits for all of hs. -/
def Region.sink2 (md : Region.Mode) (ops : Array Oper) (all hs : List Nat) (listed : Array Bool) : Bool :=
  let b := Region.ancs md ops.toList #[]
  (List.range ops.size).all fun t => all.contains t || listed.getD t true || hs.all fun i => (b.getD t 0).testBit i

theorem HeadInv2.set {i : Nat} {listed : Array Bool} (inv : HeadInv2 md ops listed) (hi : i ∈ Region.ready md ops listed) : HeadInv2 md ops (listed.setIfInBounds i true) := by
  obtain ⟨_, oi, hoi, hall⟩ := mem_ready.1 hi
  refine ⟨by simp [inv.size], fun j hl oj hj e he hb => ?_⟩
  by_cases hij : i = j
  · subst hij
    have : oj = oi := Option.some.inj (hj.symm.trans hoi)
    subst this
    exact getD_set_true (hall e he hb)
  · rw [getD_set_ne false hij] at hl
    exact getD_set_true (inv.closed j hl oj hj e he hb)

theorem tail_waits2 {all hs : List Nat} {listed0 listed : Array Bool} (hk : Region.sink2 md ops all hs listed0 = true) (hmo : ∀ t, listed0.getD t true = true → listed.getD t true = true) (inv : HeadInv2 md ops listed) {i t : Nat} (hi : hs.contains i = true) (hun : listed.getD i true = false)
    (ht : t ∈ Region.ready md ops listed) : all.contains t = true := by
  obtain ⟨htu, ot, hot, hall⟩ := mem_ready.1 ht
  have htlt : t < ops.size := (Array.getElem?_eq_some_iff.1 hot).1
  have h1 := List.all_eq_true.1 hk t (List.mem_range.2 htlt)
  simp only [Bool.or_eq_true] at h1
  rcases h1 with (h1 | h1) | h1
  · exact h1
  · rw [hmo t h1] at htu; cases htu
  · have h2 := List.all_eq_true.1 h1 i (by simpa using hi)
    have := ancs_spec (md := md) (ops := ops) inv.closed ops.toList #[] (fun k => by simp) (fun t ht => by simp at ht) t (fun oj hoj e he hb => by
      have : oj = ot := Option.some.inj (hoj.symm.trans hot)
      subst this; exact hall e he hb) i h2
    rw [getD_both hun] at this
    cases this

theorem mono_set {listed0 listed : Array Bool} {i : Nat} (h : ∀ t, listed0.getD t true = true → listed.getD t true = true) : ∀ t, listed0.getD t true = true → (listed.setIfInBounds i true).getD t true = true := by
  intro t ht
  by_cases hit : i = t
  · subst hit
    rcases Nat.lt_or_ge i listed.size with h1 | h1
    · simp [h1]
    · simp [h1]
  · rw [getD_set_ne true hit]; exact h t ht

/-- Heads (of all) are quiet in the class; whatever else comes up is shown from every world of the class. -/
def wpM (P : Program) (md : Region.Mode) (ops : Array Oper) (C : World → Prop) (Q : Exit → Act → World → Prop) (all : List Nat) : Nat → Array Bool → Act → Prop
  | 0, listed, a => Region.ready md ops listed = [] ∧ ∀ w, C w → Q .normal a w
  | f + 1, listed, a =>
    (Region.ready md ops listed = [] → ∀ w, C w → Q .normal a w) ∧ ∀ i ∈ Region.ready md ops listed,
      (all.contains i = true ∧ qOp P ops C i (wpM P md ops C Q all f (listed.setIfInBounds i true)) a) ∨
      (all.contains i = false ∧ ∀ w, C w → wpOp P ops Q i (wpAny P md ops Q f (listed.setIfInBounds i true)) a w)

theorem wpAny_of_M {all : List Nat} {Q : Exit → Act → World → Prop} : ∀ (f : Nat) (listed : Array Bool) (a : Act) (w : World), C w → wpM P md ops C Q all f listed a → wpAny P md ops Q f listed a w
  | 0, _, _, _, hw, h => ⟨h.1, h.2 _ hw⟩
  | f + 1, listed, a, w, hw, h => ⟨fun h0 => h.1 h0 _ hw, fun i hi => by
      rcases h.2 i hi with h1 | h1
      · exact wpOp_of_qOp hw (fun a' w' hw' h' => wpAny_of_M f _ a' w' hw' h') h1.2
      · exact h1.2 w hw⟩

theorem wpM_rest {all : List Nat} {Q : Exit → Act → World → Prop} {f : Nat} {listed : Array Bool} {a : Act} (hd : all.all (fun i => listed.getD i true) = true) (h : ∀ w, C w → wpAny P md ops Q f listed a w) (hne : ∃ w, C w) : wpM P md ops C Q all f listed a := by
  have hno : ∀ i ∈ Region.ready md ops listed, all.contains i = false := fun i hi => by
    cases hc : all.contains i with
    | false => rfl
    | true =>
      have h2 := List.all_eq_true.1 hd i (by simpa using hc)
      rw [(mem_ready.1 hi).1] at h2; cases h2
  cases f with
  | zero => obtain ⟨w, hw⟩ := hne; exact ⟨(h w hw).1, fun w hw => (h w hw).2⟩
  | succ f => exact ⟨fun h0 w hw => (h w hw).1 h0, fun i hi => .inr ⟨hno i hi, fun w hw => (h w hw).2 i hi⟩⟩

theorem wpM_first {all hs : List Nat} {listed0 : Array Bool} {Q : Exit → Act → World → Prop} {i : Nat} {oi : Oper} {v : Value} (hi : ops[i]? = some oi) (hsel : ∀ (j : Nat) (o : Oper) cs b, ops[j]? = some o → o.op ≠ .select cs b)
    (hin : all.contains i = true) :
    ∀ (f : Nat) (listed : Array Bool) (a : Act), HeadInv2 md ops listed → (∀ t, listed0.getD t true = true → listed.getD t true = true) →
      (∀ j oj, ops[j]? = some oj → j ≠ i → listed.getD j true = false → (∀ e ∈ oj.after, Region.binds md e = true → e.on ≠ i) → oi.apart ops oj = true) →
      i ∈ Region.ready md ops listed → YieldsIn P ops C oi v a → ((Yields P ops oi v a ∧ ∀ c a w, Q (.panic c) (a.put oi.dst v) w → Q (.panic c) a w) ∨ (hs.contains i = true ∧ Region.sink2 md ops all hs listed0 = true)) →
      wpM P md ops C Q all f (listed.setIfInBounds i true) (a.put oi.dst v) → wpM P md ops C Q all (f + 1) listed a := by
  intro f
  induction f with
  | zero =>
    intro listed a inv hmo _ hr hy hp H
    refine ⟨fun h => (by rw [h] at hr; cases hr), fun j hj => ?_⟩
    by_cases hji : j = i
    · subst hji; exact .inl ⟨hin, hy.qOp hi H⟩
    · have := ready_mono hj hji
      rw [H.1] at this; cases this
  | succ f ih =>
    intro listed a inv hmo hfree hr hy hp H
    have hun := (mem_ready.1 hr).1
    refine ⟨fun h => (by rw [h] at hr; cases hr), fun j hj => ?_⟩
    by_cases hji : j = i
    · subst hji; exact .inl ⟨hin, hy.qOp hi H⟩
    · have h1 := H.2 j (ready_mono hj hji)
      obtain ⟨hjun, oj, hoj, hall⟩ := mem_ready.1 hj
      have hnot : ∀ e ∈ oj.after, Region.binds md e = true → e.on ≠ i := fun e he hb heq => by
        have h1 := hall e he hb
        rw [heq, getD_both hun] at h1
        cases h1
      have hap := hfree j oj hoj hji hjun hnot
      have hfree' : ∀ k ok, ops[k]? = some ok → k ≠ i → (listed.setIfInBounds j true).getD k true = false →
          (∀ e ∈ ok.after, Region.binds md e = true → e.on ≠ i) → oi.apart ops ok = true := fun k ok hk hki hun hno => by
        refine hfree k ok hk hki ?_ hno
        by_cases hjk : j = k
        · subst hjk; exact hjun
        · rw [getD_set_ne true hjk] at hun; exact hun
      rcases h1 with ⟨hc, h1⟩ | ⟨hc, h1⟩
      · have h2 := qOp_put hoj hap (fun cs b => hsel i oi cs b hi) (fun cs b => hsel j oj cs b hoj) hy h1
        have keep : ∀ (a : Act), ((Yields P ops oi v a ∧ ∀ c a w, Q (.panic c) (a.put oi.dst v) w → Q (.panic c) a w) ∨ (hs.contains i = true ∧ Region.sink2 md ops all hs listed0 = true)) → ∀ u, ((Yields P ops oi v (a.put oj.dst u) ∧ ∀ c a w, Q (.panic c) (a.put oi.dst v) w → Q (.panic c) a w) ∨ (hs.contains i = true ∧ Region.sink2 md ops all hs listed0 = true)) := fun a h u => by
          obtain ⟨_, _, h3⟩ := Oper.apart_spec hap
          exact Or.imp (fun hy => ⟨hy.1.of_same (execOp_put oi (fun cs b => hsel i oi cs b hi) a oj.dst u h3) (wanted_put oi a oj.dst u h3), hy.2⟩) id h
        refine .inl ⟨hc, ?_⟩
        obtain ⟨u, hu, hK⟩ := yieldsIn_of_qOp hoj h2
        refine hu.qOp hoj ?_
        have h4 := ih (listed.setIfInBounds j true) (a.put oj.dst u) (inv.set hj) (mono_set hmo) hfree' (ready_mono hr (Ne.symm hji)) hK.1 (keep a hp u) (by rw [Array.setIfInBounds_comm _ _ hji]; exact hK.2)
        exact h4
      · rcases hp with hp | hp
        · refine .inr ⟨hc, fun w hw => ?_⟩
          have h2 := wpOp_put hoj hap (fun cs b => hsel i oi cs b hi) (fun cs b => hsel j oj cs b hoj) hp.2 hp.1 (h1 w hw)
          refine wpOp_mono (fun a' w' h3 => wpAny_first hi hsel hp.2 f (listed.setIfInBounds j true) a' w' hfree' (ready_mono hr (Ne.symm hji)) h3.1 ?_) h2
          rw [Array.setIfInBounds_comm _ _ hji]
          exact h3.2
        · have := tail_waits2 hp.2 hmo inv hp.1 hun hj
          rw [hc] at this; cases this

def Region.setAll : List Nat → Array Bool → Array Bool
  | [], listed => listed
  | k :: r, listed => Region.setAll r (listed.setIfInBounds k true)

def Region.permHead (md : Region.Mode) (ops : Array Oper) : List Nat → Array Bool → Bool
  | [], _ => true
  | k :: r, listed => (Region.ready md ops listed).contains k && Region.free md ops listed k && Region.permHead md ops r (listed.setIfInBounds k true)

def Region.headsB (md : Region.Mode) (ops : Array Oper) (all hs : List Nat) (listed : Array Bool) : Bool :=
  Region.noSelect ops && Region.closedB md ops listed && Region.sink2 md ops all hs listed && (hs.all fun i => all.contains i) && Region.permHead md ops hs listed

theorem wpM_lex {all hs : List Nat} {listed0 : Array Bool} {Q : Exit → Act → World → Prop} {g : Nat} (hsel : Region.noSelect ops = true) (hk : Region.sink2 md ops all hs listed0 = true) :
    ∀ (is : List Nat) (l : List Oper) (listed : Array Bool) (a : Act), (∀ i ∈ is, hs.contains i = true ∧ all.contains i = true) → is.map (fun k => ops[k]?) = l.map some → HeadInv2 md ops listed → (∀ t, listed0.getD t true = true → listed.getD t true = true) →
    Region.permHead md ops is listed = true → wpQuiet P ops C (wpM P md ops C Q all g (Region.setAll is listed)) l a →
    wpM P md ops C Q all (is.length + g) listed a
  | [], l, listed, a, _, hl, _, _, _, h => by
    have : l = [] := by simpa using hl.symm
    subst this
    rw [show ([] : List Nat).length + g = g by simp]; exact h
  | k :: is, l, listed, a, hin, hl, inv, hmo, hB, h => by
    match l, hl with
    | o :: l, hl' =>
      simp only [List.map_cons, List.cons.injEq] at hl'
      obtain ⟨h0, hl2⟩ := hl'
      simp only [Region.permHead, Bool.and_eq_true] at hB
      obtain ⟨⟨hr, hf⟩, hB'⟩ := hB
      have hr' : k ∈ Region.ready md ops listed := by simpa using hr
      have hst : qOp P ops C k (wpQuiet P ops C (wpM P md ops C Q all g (Region.setAll is (listed.setIfInBounds k true))) l) a := by unfold qOp; simp only [h0]; exact h
      obtain ⟨v, hy, hK⟩ := yieldsIn_of_qOp h0 hst
      rw [show (k :: is).length + g = (is.length + g) + 1 by simp; omega]
      exact wpM_first (listed0 := listed0) h0 (Region.noSelect_spec hsel) (hin k (by simp)).2 (is.length + g) listed a inv hmo (Region.free_spec h0 hf) hr' hy (.inr ⟨(hin k (by simp)).1, hk⟩)
        (wpM_lex hsel hk is l _ _ (fun i hi => hin i (by simp [hi])) hl2 (inv.set hr') (mono_set hmo) hB' hK)

def pickOps (l : List Oper) : List Nat → List Oper
  | [] => []
  | i :: is => l.getD i default :: pickOps l is

/-- The beginning: from the world behind the draw. -/
theorem wp_region_M {id : Nat} {Q : Exit → Act → World → Prop} {a : Act} {w : World} {l : List Oper} (all : List Nat) (hm : P.follows .mixedOrders = true) (hC : C w.drew)
    (h : wpM P .any l.toArray C Q all l.toArray.size (Array.replicate l.toArray.size false) a) : (Code.region id l.toArray true).wp P Q a w :=
  wp_region_any hm (wpAny_of_M _ _ _ w.drew hC h)

/-- The heads hs, quiet in the class. -/
theorem wpM_heads {Q : Exit → Act → World → Prop} {l : List Oper} {all : List Nat} {listed : Array Bool} {a : Act} (hs : List Nat) (g : Nat) (hB : Region.headsB md l.toArray all hs listed = true)
    (h1 : hs.map (fun k => l.toArray[k]?) = (pickOps l hs).map some)
    (h : wpQuiet P l.toArray C (wpM P md l.toArray C Q all g (Region.setAll hs listed)) (pickOps l hs) a) : wpM P md l.toArray C Q all (hs.length + g) listed a := by
  simp only [Region.headsB, Bool.and_eq_true] at hB
  obtain ⟨⟨⟨⟨hsel, hcl⟩, hk⟩, hall⟩, hp⟩ := hB
  exact wpM_lex hsel hk hs _ listed a (fun i hi => ⟨by simpa using hi, List.all_eq_true.1 hall i hi⟩) h1 (HeadInv2.of_closedB hcl) (fun t ht => ht) hp h

/-- One that yields in whatever world. -/
theorem wpM_pure {Q : Exit → Act → World → Prop} {l : List Oper} {all : List Nat} {listed : Array Bool} {a : Act} {v : Value} (i f : Nat) (hs : Region.noSelect l.toArray = true) (hcl : Region.closedB md l.toArray listed = true) (hf : Region.free md l.toArray listed i = true)
    (hr : (Region.ready md l.toArray listed).contains i = true) (hall : all.contains i = true) (hi : l.toArray[i]? = some (l.getD i default)) (hQ : ∀ c a w, Q (.panic c) (a.put (l.getD i default).dst v) w → Q (.panic c) a w)
    (hw : Region.wanted (l.getD i default) (yielded l.toArray a.tmps) = true) (hy : ∀ w, (execOp a.eval (l.getD i default)).run P w = .ok (.value v) w)
    (h : wpM P md l.toArray C Q all f (listed.setIfInBounds i true) (a.put (l.getD i default).dst v)) : wpM P md l.toArray C Q all (f + 1) listed a :=
  wpM_first (hs := []) (listed0 := listed) hi (Region.noSelect_spec hs) hall f listed a (HeadInv2.of_closedB hcl) (fun _ h => h) (Region.free_spec hi hf) (by simpa using hr)
    (.inl ⟨hw, fun w _ => by unfold Oper.quietAt; rw [hy w]; exact ⟨rfl, rfl⟩⟩) (.inl ⟨.inl ⟨hw, hy⟩, hQ⟩) h

def Region.seqL (md : Region.Mode) (ops : Array Oper) : List Nat → Array Bool → Bool
  | [], listed => (Region.ready md ops listed).isEmpty
  | k :: r, listed => decide (Region.ready md ops listed = [k]) && Region.seqL md ops r (listed.setIfInBounds k true)

theorem wpAny_seq' {Q' : Exit → Act → World → Prop} : ∀ (ts : List Nat) (l : List Oper) (listed : Array Bool) (a : Act) (w : World), ts.map (fun k => ops[k]?) = l.map some →
    Region.seqL md ops ts listed = true → wpList P ops Q' l a w → wpAny P md ops Q' ts.length listed a w
  | [], l, _, _, _, hl, hB, h => by
    have : l = [] := by simpa using hl.symm
    subst this
    exact ⟨by simpa [Region.seqL] using hB, h⟩
  | k :: ts, l, listed, a, w, hl, hB, h => by
    match l, hl with
    | o :: l, hl' =>
      simp only [List.map_cons, List.cons.injEq] at hl'
      obtain ⟨h0, hl2⟩ := hl'
      simp only [Region.seqL, Bool.and_eq_true, decide_eq_true_eq] at hB
      refine ⟨fun h1 => (by rw [hB.1] at h1; cases h1), fun i hi => ?_⟩
      rw [hB.1] at hi
      have hik : i = k := by simpa using hi
      subst hik
      have hw : wpOp P ops Q' i (wpList P ops Q' l) a w := by unfold wpOp; simp only [h0]; exact h
      exact wpOp_mono (fun a' w' h' => wpAny_seq' ts l _ a' w' hl2 hB.2 h') hw

/-- The tail ts, in its one order. -/
theorem wpAny_tail {Q : Exit → Act → World → Prop} {l : List Oper} {listed : Array Bool} {a : Act} {w : World} (ts : List Nat) (hB : Region.seqL md l.toArray ts listed = true)
    (h1 : ts.map (fun k => l.toArray[k]?) = (pickOps l ts).map some) (h : wpList P l.toArray Q (pickOps l ts) a w) : wpAny P md l.toArray Q ts.length listed a w :=
  wpAny_seq' ts _ listed a w h1 hB h

end
end Go
