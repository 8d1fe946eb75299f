/- Walks: tree.Right. -/
import Derived.Test.YtmpccinbeepbgaaCA
import Derived.Test.YtmpccinbeepbgaaPerm
import Derived.Deep.Cut
import Derived.Deep.CutBlock
import Derived.BigRegion
namespace Go.Proofs.Ytmpccinbeepbgaa
open Go.RowKit

theorem elemOn : Elem Try.prog 94 93 4 32 (.agg #[.int .i64 0, .int .i64 0, .int .i64 0, .int .i64 0]) := ⟨by kernel_rfl, by kernel_rfl, by decide, by decide⟩
def twc (x : Tw) : List Value := (twv x).toList
theorem twc_len (x : Tw) : (twc x).length = 5 := rfl

/-- The stack in the middle of tree.Right: k twigs have been taken. -/
structure StSt (w wr : World) (v : Value) (n : Nat) (t : List Tw) (k : Nat) (R : List On) : Prop where
  run : runT (t.take k) [base n] = some R
  bot : ∃ Q b, R = Q ++ [b] ∧ (n : Int) - k ≤ b.left
  own : Own w wr 93 4 v R.length (R.reverse.flatMap onc)
  bd : ∀ o ∈ R, 0 ≤ o.left ∧ o.left ≤ 1000000
  len : R.length ≤ k + 1

theorem onc_rev (o : On) (r : List On) : (o :: r).reverse.flatMap onc = r.reverse.flatMap onc ++ onc o := by simp
theorem onc_rlen (r : List On) : (r.reverse.flatMap onc).length = r.length * 4 := by rw [fl_len onc_len]; simp

/-- The stack's top in memory. -/
structure TopAt (w wr : World) (v : Value) (o : On) (r : List On) (g cap : Nat) : Prop where
  v : v = .slice (some ⟨g, 0, none⟩) (r.length + 1) cap
  le : r.length + 1 ≤ cap
  cm : cap ≤ 9223372036854775807
  lo : w.heap.size ≤ g
  lt : g < wr.heap.size
  cell : ∀ j u, (onv o).toList[j]? = some u → wr.cell? ⟨g, r.length * 4 + j, none⟩ = some u
  frozen : ∀ j, wr.frozen? ⟨g, j, none⟩ = false
  pop : Own w wr 93 4 (.slice (some ⟨g, 0, none⟩) r.length cap) r.length (r.reverse.flatMap onc)
  own : Own w wr 93 4 (.slice (some ⟨g, 0, none⟩) (r.length + 1) cap) (r.length + 1) ((o :: r).reverse.flatMap onc)

theorem Own.top {w wr : World} {v : Value} {o : On} {r : List On} (h : Own w wr 93 4 v (o :: r).length ((o :: r).reverse.flatMap onc)) : ∃ g cap, TopAt w wr v o r g cap := by
  obtain ⟨h1, hb⟩ := h
  obtain ⟨g, cap, rfl, _, _⟩ := World.ownsRow.form h1 (by simp)
  have hl : (o :: r).length = r.length + 1 := rfl
  rw [hl] at h1
  have hlt := h1.lt g (by simp [Value.ownBlock])
  rcases h1.2 with ⟨h0, _⟩ | ⟨g', cap', cur, hv, h3, h4, h5, h6, h7, h8⟩
  · cases h0
  · cases hv
    refine ⟨g, cap, rfl, h5, by unfold maxLen at h6; omega, hlt.1, hlt.2, ?_, fun j => h1.frozenAt j, ⟨ownsRow_pop (last := onc o) (onc_rlen r) (by rw [← onc_rev]; exact h1), hb⟩, ⟨h1, hb⟩⟩
    intro j u hj
    have hj4 : j < 4 := by have := (List.getElem?_eq_some_iff.1 hj).1; simpa [onv] using this
    rw [h1.cellAt _ (by omega), onc_rev, List.getElem?_append_right (by rw [onc_rlen]; omega), onc_rlen, Nat.add_sub_cancel_left]
    exact hj

theorem onc_set (o : On) (r : List On) (a b : Int) : (((o :: r).reverse.flatMap onc).set (r.length * 4) (.int .i64 a)).set (r.length * 4 + 3) (.int .i64 b) = ((⟨a, o.sf, o.st, b⟩ :: r : List On).reverse.flatMap onc) := by
  rw [onc_rev, onc_rev, ← onc_rlen r]
  simp [onc, onv]

theorem TopAt.put {w wr : World} {v : Value} {o : On} {r : List On} {g cap : Nat} (h : TopAt w wr v o r g cap) (a b : Int) :
    Own w ((wr.setCell ⟨g, r.length * 4, none⟩ (.int .i64 a)).setCell ⟨g, r.length * 4 + 3, none⟩ (.int .i64 b)) 93 4 (.slice (some ⟨g, 0, none⟩) (r.length + 1) cap) (r.length + 1) ((⟨a, o.sf, o.st, b⟩ :: r : List On).reverse.flatMap onc) := by
  have h1 := h.own.1.stored (r.length * 4) (.int .i64 a)
  have h2 := h1.1.stored (r.length * 4 + 3) (.int .i64 b)
  rw [onc_set] at h2
  have hF := ((Fr.of_below (F := fun k => k = g) h.own.2 : Fr _ w wr).trans (Fr.setCell wr ⟨g, r.length * 4, none⟩ (.int .i64 a)) (fun _ _ h => h)).trans (Fr.setCell _ ⟨g, r.length * 4 + 3, none⟩ (.int .i64 b)) (fun _ _ h => h)
  exact ⟨h2.1, hF.below (Nat.le_refl _) (fun k hk e => by have := h.lo; omega)⟩

/-- In the middle of the inner loop. -/
structure InSt (w wr : World) (v : Value) (n : Nat) (k : Nat) (R R' : List On) (g1 : Nat) (x : Tw) : Prop where
  eq : R'.dropWhile On.done = R.dropWhile On.done
  bot : ∃ Q b, R' = Q ++ [b] ∧ (n : Int) - k ≤ b.left
  own : Own w wr 93 4 v R'.length (R'.reverse.flatMap onc)
  bd : ∀ o ∈ R', 0 ≤ o.left ∧ o.left ≤ 1000000
  box : hrow wr g1 (twv x) 57
  len : R'.length ≤ k + 1
def lenOf (v : Value) : Nat := match v with | .slice _ n _ => n | _ => 0

theorem TopAt.below {w wr w' : World} {v : Value} {o : On} {r : List On} {g cap : Nat} (h : TopAt w wr v o r g cap) (hb : Below wr.heap.size wr w') : TopAt w w' v o r g cap :=
  ⟨h.v, h.le, h.cm, h.lo, by have := h.lt; have := hb.size; omega, fun j u hj => (hb.cell (p := ⟨g, r.length * 4 + j, none⟩) h.lt).trans (h.cell j u hj), fun j => (hb.frozen (p := ⟨g, j, none⟩) h.lt).trans (h.frozen j), h.pop.below hb, h.own.below hb⟩
theorem TopAt.ne {w wr : World} {v : Value} {o : On} {r : List On} {g cap g1 : Nat} {cs : Array Value} {t : TypeId} (h : TopAt w wr v o r g cap) (hg : hrow wr g1 cs t) (ht : t ≠ 93) : g1 ≠ g := by
  rintro rfl
  rcases h.own.1.2 with ⟨h0, _⟩ | ⟨g', cap', cur, hv, _, h4, _⟩
  · cases h0
  · cases hv
    rw [hg.h] at h4
    simp only [Option.some.injEq, Obj.cells.injEq] at h4
    exact ht h4.2.1

/-- wpList_app1, the block's number in whatever form. -/
theorem wpList_app1g {P : Program} (w0 wr : World) {ops : Array Oper} {rest : List Oper} {o : Oper} {a : Act} {Q : Exit → Act → World → Prop} (hgd : o.guard = none) (s x : Operand) (t e : TypeId) {size bytes : Nat} {z : Value}
    (ho : o.op = .call { callee := .builtin .append, args := #[s, x], argTypes := #[t, t] }) (he : Elem P t e size bytes z) (gg : Nat) (hgg : gg = wr.heap.size)
    (v : Value) (n : Nat) (xs : List Value) (hs : a.eval s = v) (hO : Own w0 wr e size v n xs) (ys : Array Value) (hy : ys.size = 1 * size) (hx : a.eval x = .slice (some ⟨gg, 0, none⟩) 1 1) (h1 : ∀ u ∈ ys.toList, u.oneCell' = true)
    (hlen : (n + 1) * bytes ≤ 140737488355328) (hl2 : n + 1 ≤ maxLen)
    (h : ∀ v' w', Own w0 w' e size v' (n + 1) (xs ++ ys.toList) → wpList P ops Q rest (a.put o.dst v') w') : wpList P ops Q (o :: rest) a (wr.alloc (.cells ys e)) := by
  subst hgg
  exact wpList_app1 w0 wr hgd s x t e ho he v n xs hs hO ys hy hx h1 hlen hl2 h

theorem Sv.tail {w : World} {a : Addr} {n cap s : Nat} {xs ys : List Value} (h : Sv w (some a) (n + 1) cap s (xs ++ ys)) (hx : xs.length = s) : Sv w (some (a.add s)) n (cap - 1) s ys := by
  have hl := h.len
  rw [List.length_append, hx, Nat.succ_mul] at hl
  refine ⟨by omega, by have := h.le; omega, by have := h.cm; omega, (fun h => nomatch h), fun j hj => ⟨_, rfl, ?_⟩⟩
  obtain ⟨a', ha, hc⟩ := h.cell (s + j) (by rw [List.length_append]; omega)
  cases ha
  rw [add_add, hc, List.getElem?_append_right (by omega)]
  congr 1; omega

theorem InSt.pop {w wr w2 : World} {n k : Nat} {R r : List On} {o : On} {g1 g c : Nat} {x : Tw} {v : Value} (h : InSt w wr v n k R (o :: r) g1 x) (hT : TopAt w wr v o r g c) (hb : Below wr.heap.size wr w2) (hd : o.done = true) (hk : k < n) :
    InSt w w2 (.slice (some ⟨g, 0, none⟩) r.length c) n k R r g1 x := by
  refine ⟨?_, ?_, hT.pop.below hb, fun o ho => h.bd o (by simp [ho]), h.box.below hb, by have := h.len; simp only [List.length_cons] at this; omega⟩
  · rw [← h.eq]; simp [List.dropWhile, hd]
  · obtain ⟨Q, b, hQ, hb⟩ := h.bot
    cases Q with
    | nil =>
      simp only [List.nil_append, List.cons.injEq] at hQ
      obtain ⟨rfl, _⟩ := hQ
      simp [On.done] at hd
      omega
    | cons q Q =>
      simp only [List.cons_append, List.cons.injEq] at hQ
      exact ⟨Q, b, hQ.2, hb⟩

theorem InSt.drop {w wr : World} {n k : Nat} {R r : List On} {o : On} {g1 : Nat} {x : Tw} {v : Value} (h : InSt w wr v n k R (o :: r) g1 x) (hd : o.done = false) : R.dropWhile On.done = o :: r := by
  rw [← h.eq]; simp [List.dropWhile, hd]

theorem forest_none {t : List Tw} {k n : Nat} {R r : List On} {o : On} {x : Tw} (hn : t.length = n) (hrun : runT (t.take k) [base n] = some R) (hdr : t.drop k = x :: t.drop (k + 1)) (hR : R.dropWhile On.done = o :: r) (hx : takesB o.sf o.st o.nx x = false) : forestB t = false := by
  have h : runT t [base n] = none := by
    rw [← List.take_append_drop k t, runT_append, hrun, hdr]
    simp [runT, stp, hR, hx]
  unfold forestB
  rw [hn, h]

theorem StSt.next {w wr : World} {v : Value} {t : List Tw} {k n : Nat} {R r : List On} {o : On} {x : Tw} (hrun : runT (t.take k) [base n] = some R) (hts : t.take (k + 1) = t.take k ++ [x]) (hR : R.dropWhile On.done = o :: r) (hx : takesB o.sf o.st o.nx x = true)
    (hbot : ∃ Q b, o :: r = Q ++ [b] ∧ (n : Int) - k ≤ b.left) (hbd : ∀ o' ∈ o :: r, 0 ≤ o'.left ∧ o'.left ≤ 1000000) (hd : o.done = false) (hxk : x.kids ≤ 1000000) (hlen : (o :: r).length ≤ k + 1)
    (hown : Own w wr 93 4 v (r.length + 1 + 1) ((⟨x.kids, x.fr, x.to, x.fr⟩ :: ⟨o.left - 1, o.sf, o.st, x.to⟩ :: r : List On).reverse.flatMap onc)) :
    StSt w wr v n t (k + 1) (⟨x.kids, x.fr, x.to, x.fr⟩ :: ⟨o.left - 1, o.sf, o.st, x.to⟩ :: r) := by
  have h0 : 0 ≤ x.kids := by simp [takesB] at hx; omega
  have ho := hbd o (by simp)
  have hd' : o.left ≠ 0 := by simpa [On.done] using hd
  refine ⟨?_, ?_, hown, ?_, by simp only [List.length_cons] at hlen ⊢; omega⟩
  · rw [hts, runT_append, hrun]; simp [runT, stp, hR, hx]
  · obtain ⟨Q, b, hQ, hb⟩ := hbot
    cases Q with
    | nil =>
      simp only [List.nil_append, List.cons.injEq] at hQ
      obtain ⟨rfl, rfl⟩ := hQ
      exact ⟨[⟨x.kids, x.fr, x.to, x.fr⟩], _, rfl, by simp only []; omega⟩
    | cons q Q =>
      simp only [List.cons_append, List.cons.injEq] at hQ
      exact ⟨⟨x.kids, x.fr, x.to, x.fr⟩ :: ⟨o.left - 1, o.sf, o.st, x.to⟩ :: Q, b, by rw [hQ.2]; simp, by omega⟩
  · intro o' ho'
    simp only [List.mem_cons] at ho'
    rcases ho' with rfl | rfl | ho'
    · exact ⟨h0, hxk⟩
    · simp only []; omega
    · exact hbd o' (by simp [ho'])

set_option maxRecDepth 100000 in
set_option maxHeartbeats 4000000 in
theorem forest_any (w : World) (ao : Option Addr) (cap n : Nat) (t : List Tw) (hs : Sv w ao n cap 5 (t.flatMap twc)) (hn : n ≤ 1000000) (hk : ∀ x ∈ t, x.kids ≤ 1000000) :
    Calls Try.prog 23 #[.slice ao n cap] w fun r w' => r = .returned (.bool (forestB t)) ∧ Below w.heap.size w w' := by
  obtain ⟨h1, h2⟩ := hs.bound
  have hl := hs.elems_len twc_len (by omega)
  have HSl := Lib.hid hs; clear hs
  have HL := Lib.hid hl; clear hl
  have HK := Lib.hid hk; clear hk
  have HO := Lib.hid (Own.lit w 93 #[.int .i64 n, .int .i64 0, .int .i64 9223372036854775807, .int .i64 0] 1 4 (by decide) rfl)
  have HN := Lib.hid hn; clear hn
  go_enter Try.func23, Try.ntmps23
  go_wp2_with fail
  revert HO
  generalize w.alloc _ = wb
  generalize w.heap.size = g0
  intro HO
  go_loopw [3, 14] (fun v i wr => ∃ k R, k ≤ n ∧ i = .int .i64 k ∧ Hid (StSt w wr v n t k R)) (fun _ i _ => n - (intOf i).toNat)
  case atStart =>
    exact ⟨0, [base n], by omega, rfl, rfl, ⟨[], base n, rfl, by simp [base]⟩, HO.out, by simp [base]; have := HN.out; omega, by simp⟩
  case round =>
    obtain ⟨k, R, hk, rfl, hI⟩ := hrel
    clear HO
    by_cases hlt : k < n
    · have hkz : k < t.length := by have := HL.out; omega
      obtain ⟨a, rfl, hc⟩ := (HSl.out.below (hI.out.own.2)).elem twc_len k hkz (by omega)
      have hts : t.take (k + 1) = t.take k ++ [t[k]] := List.take_succ_eq_append_getElem hkz
      have hkx := HK.out _ (List.getElem_mem hkz)
      have hdr : t.drop k = t[k] :: t.drop (k + 1) := List.drop_eq_getElem_cons hkz
      have HT := Lib.hid hts; have HX := Lib.hid hkx; have HD := Lib.hid hdr
      clear hts hkx hdr
      generalize t[k]'_ = x at *
      clear hkz
      obtain ⟨x1, x2, x3, x4, x5⟩ := x
      have h0k : (0 : Int) ≤ k := by omega
      have HC := Lib.hid (show ∀ j v, (#[.int .i64 x1, .int .i64 x2, .int .i64 x3, .int .i64 x4, .int .i64 x5] : Array Value).toList[j]? = some v → wr.cell? ((a.add (k * 5)).add j) = some v from hc)
      have K2 : Hid ((Try.prog.info? 57).map (·.size) = some (#[.int .i64 x1, .int .i64 x2, .int .i64 x3, .int .i64 x4, .int .i64 x5] : Array Value).size) := by unfold Hid; kernel_rfl
      clear hc
      have HI0 : Hid (InSt w (wr.alloc (.cells #[.int .i64 x1, .int .i64 x2, .int .i64 x3, .int .i64 x4, .int .i64 x5] 57)) u3 n k R R wr.heap.size ⟨x1, x2, x3, x4, x5⟩) :=
        ⟨rfl, hI.out.bot, hI.out.own.below ((Below.refl _ _).alloc (Nat.le_refl _) _), hI.out.bd, hrow.new _ _ _, hI.out.len⟩
      go_wp2_with (first
          | (refine wpList_load_part rfl 57 (.tmp 16) rfl (a.add (k * 5)) rfl #[.int .i64 x1, .int .i64 x2, .int .i64 x3, .int .i64 x4, .int .i64 x5] _ HC.out Try.underlying57 rfl K2.out ?_))
      clear HC K2
      have HRun := Lib.hid hI.out.run
      clear hI
      revert HI0
      generalize wr.alloc _ = wb
      generalize wr.heap.size = g1
      intro HI0
      go_loopw [3] (fun v wr' => ∃ R', Hid (InSt w wr' v n k R R' g1 ⟨x1, x2, x3, x4, x5⟩)) (fun v _ => lenOf v)
      case atStart => exact ⟨R, HI0⟩
      case round =>
        obtain ⟨R', hI⟩ := hrel
        cases R' with
        | nil => obtain ⟨Q, b, h, _⟩ := hI.out.bot; exact absurd h (by simp)
        | cons o r =>
          obtain ⟨g, c, hT⟩ := hI.out.own.top
          have HTp := Lib.hid hT
          obtain rfl := hT.v
          have hle := hT.le
          have hcm := hT.cm
          have hlr : r.length ≤ c := by omega
          have hin : (r.length : Int) < (r.length : Int) + 1 := by omega
          have hr0 : (0 : Int) ≤ r.length := by omega
          obtain ⟨o1, o2, o3, o4⟩ := o
          have c0 : wr.cell? ⟨g, r.length * 4, none⟩ = some (.int .i64 o1) := hT.cell 0 _ rfl
          have c1 : wr.cell? ⟨g, r.length * 4 + 1, none⟩ = some (.int .i64 o2) := hT.cell 1 _ rfl
          have c2 : wr.cell? ⟨g, r.length * 4 + 2, none⟩ = some (.int .i64 o3) := hT.cell 2 _ rfl
          have c3 : wr.cell? ⟨g, r.length * 4 + 3, none⟩ = some (.int .i64 o4) := hT.cell 3 _ rfl
          clear hT
          go_wp2_with fail
          refine (done_any _ o1 o2 o3 o4).mono ?_
          rintro e w2 ⟨rfl, hb2⟩
          have HB2 := Lib.hid hb2; clear hb2
          generalize hx : (o1 == 0) = y
          cases y
          · go_wp2_with fail
            have HD2 := Lib.hid (show On.done ⟨o1, o2, o3, o4⟩ = false from hx)
            have HDr := Lib.hid (hI.out.drop HD2.out)
            have HBx := Lib.hid (hI.out.box.below HB2.out)
            have HBb := Lib.hid (show ∀ y : Later w2, Below wr.heap.size wr y.val from fun y => HB2.out.trans (y.ok.mono HB2.out.size))
            have hlt2 := HTp.out.lt
            clear c0 c1 c2 c3 hx
            have c0 : ∀ y : Later w2, y.val.cell? ⟨g, r.length * 4, none⟩ = some (.int .i64 o1) := fun y => ((HBb.out y).cell (p := ⟨g, r.length * 4, none⟩) hlt2).trans (HTp.out.cell 0 _ rfl)
            have c1 : ∀ y : Later w2, y.val.cell? ⟨g, r.length * 4 + 1, none⟩ = some (.int .i64 o2) := fun y => ((HBb.out y).cell (p := ⟨g, r.length * 4 + 1, none⟩) hlt2).trans (HTp.out.cell 1 _ rfl)
            have c2 : ∀ y : Later w2, y.val.cell? ⟨g, r.length * 4 + 2, none⟩ = some (.int .i64 o3) := fun y => ((HBb.out y).cell (p := ⟨g, r.length * 4 + 2, none⟩) hlt2).trans (HTp.out.cell 2 _ rfl)
            have c3 : ∀ y : Later w2, y.val.cell? ⟨g, r.length * 4 + 3, none⟩ = some (.int .i64 o4) := fun y => ((HBb.out y).cell (p := ⟨g, r.length * 4 + 3, none⟩) hlt2).trans (HTp.out.cell 3 _ rfl)
            have d0 : ∀ y : Later w2, y.val.cell? ⟨g1, 0, none⟩ = some (.int .i64 x1) := fun y => (HBx.out.below y.ok).cell 0
            have d1 : ∀ y : Later w2, y.val.cell? ⟨g1, 1, none⟩ = some (.int .i64 x2) := fun y => (HBx.out.below y.ok).cell 1
            have d2 : ∀ y : Later w2, y.val.cell? ⟨g1, 2, none⟩ = some (.int .i64 x3) := fun y => (HBx.out.below y.ok).cell 2
            have d3 : ∀ y : Later w2, y.val.cell? ⟨g1, 3, none⟩ = some (.int .i64 x4) := fun y => (HBx.out.below y.ok).cell 3
            have d4 : ∀ y : Later w2, y.val.cell? ⟨g1, 4, none⟩ = some (.int .i64 x5) := fun y => (HBx.out.below y.ok).cell 4
            have HTk := Lib.hid (fun y : Later w2 => takes_any y.val o1 o2 o3 o4 ⟨x1, x2, x3, x4, x5⟩)
            clear hlt2
            refine wp_region_later (by kernel_rfl) (by kernel_rfl) ?_
            repeat (go_big_quiet_step ((go_at_call 38; exact Calls.later (HTk.out _))))
            clear c0 c1 c2 c3 d0 d1 d2 d3 d4
            refine wpQuiet_nil ?_
            intro w5 hw5
            obtain ⟨y, rfl⟩ := hw5
            have HT6 := Lib.hid (HTp.out.below (HBb.out y))
            have HX6 := Lib.hid (HBx.out.below y.ok)
            clear HTk
            generalize y.val = w6 at *
            have HD6 := Lib.hid (HT6.out.own.2)
            generalize htk : takesB o2 o3 o4 ⟨x1, x2, x3, x4, x5⟩ = z
            cases z
            · go_wp2_with fail
              go_ret
              exact ⟨ret_bool (forest_none HL.out HRun.out HD.out HDr.out htk).symm, HD6.out⟩
            · have HNe := Lib.hid (HT6.out.ne HX6.out (by decide))
              have c0 : ∀ y : Later w6, y.val.cell? ⟨g, r.length * 4, none⟩ = some (.int .i64 o1) := fun y => (HT6.out.below y.ok).cell 0 _ rfl
              have f0 : ∀ y : Later w6, y.val.frozen? ⟨g, r.length * 4, none⟩ = false := fun y => (HT6.out.below y.ok).frozen _
              have f3 : ∀ y : Later w6, y.val.frozen? ⟨g, r.length * 4 + 3, none⟩ = false := fun y => (HT6.out.below y.ok).frozen _
              have d3 : ∀ y : Later w6, y.val.cell? ⟨g1, 3, none⟩ = some (.int .i64 x4) := fun y => (HX6.out.below y.ok).cell 3
              have hbo := hI.out.bd ⟨o1, o2, o3, o4⟩ (by simp)
              have hw0 : 0 ≤ o1 := hbo.1
              have hw1 : o1 ≤ 1000000 := hbo.2
              clear hbo
              have hwr : IntKind.i64.wrap (o1 - 1) = o1 - 1 := IntWalk.i64_in _ (by omega)
              go_wp2_with fail
              have c0' : w6.cell? ⟨g, r.length * 4, none⟩ = some (.int .i64 o1) := HT6.out.cell 0 _ rfl
              have c3' : w6.cell? ⟨g, r.length * 4 + 3, none⟩ = some (.int .i64 o4) := HT6.out.cell 3 _ rfl
              have f0' : w6.frozen? ⟨g, r.length * 4, none⟩ = false := HT6.out.frozen _
              have f3' : w6.frozen? ⟨g, r.length * 4 + 3, none⟩ = false := HT6.out.frozen _
              have d3' : w6.cell? ⟨g1, 3, none⟩ = some (.int .i64 x4) := HX6.out.cell 3
              have hne := HNe.out
              clear c0 f0 f3 d3
              go_region
              clear c0' c3' f0' f3' d3' hne
              have HQ := Lib.hid ((HT6.out.put (o1 - 1) x4).below ((Below.refl _ _).drew))
              have HX7 := Lib.hid ((hrow.fr HX6.out (((Fr.refl (fun k => k = g) w6).trans (Fr.setCell w6 ⟨g, r.length * 4, none⟩ (.int .i64 (o1 - 1))) (fun _ _ h => h)).trans (Fr.setCell _ ⟨g, r.length * 4 + 3, none⟩ (.int .i64 x4)) (fun _ _ h => h)) HNe.out).below ((Below.refl _ _).drew))
              revert HQ HX7
              generalize World.drew _ = w7
              intro HQ HX7
              have e2 := HX7.out.cell 2
              have e3 := HX7.out.cell 3
              have e4 := HX7.out.cell 4
              simp only [twv, List.getElem?_toArray, List.getElem?_cons_succ, List.getElem?_cons_zero] at e2 e3 e4
              have HLn := Lib.hid (show (r.length + 1 + 1) * 32 ≤ 140737488355328 ∧ r.length + 1 + 1 ≤ maxLen from by
                have h1 := hI.out.len; have h2 := HN.out; simp only [List.length_cons] at h1; unfold maxLen; omega)
              have HOne := Lib.hid (show ∀ u ∈ (#[.int .i64 x5, .int .i64 x3, .int .i64 x4, .int .i64 x3] : Array Value).toList, u.oneCell' = true from by simp [Value.oneCell'])
              go_wp2_with (first
                | (at_builtin; go_loud (refine wpList_app1g w _ rfl _ _ 94 93 rfl elemOn _ rfl (.slice (some ⟨g, 0, none⟩) (r.length + 1) c) (r.length + 1) _ rfl HQ.out #[.int .i64 x5, .int .i64 x3, .int .i64 x4, .int .i64 x3] rfl rfl HOne.out HLn.out.1 HLn.out.2 ?_; intro v' w8 hO8; have HO8 := Lib.hid hO8; clear hO8)))
              go_roundw
              case rel =>
                refine ⟨k + 1, _, by omega, by go_num, StSt.next HRun.out HT.out HDr.out htk hI.out.bot hI.out.bd HD2.out HX.out hI.out.len ?_⟩
                rw [onc_rev]
                exact HO8.out
              case measure => simp [intOf]; omega
          · go_wp2_with fail
            go_roundw
            case rel =>
              exact ⟨r, InSt.pop hI.out HTp.out HB2.out (by simpa [On.done] using hx) hlt⟩
            case measure => simp [lenOf]
    · have hkn : k = n := by omega
      subst hkn
      have hfull : t.take k = t := List.take_of_length_le (by have := HL.out; omega)
      have HRun := Lib.hid (show runT t [base t.length] = some R from by have := hI.out.run; rw [hfull, ← HL.out] at this; rw [HL.out] at this ⊢; exact this)
      clear hfull
      obtain ⟨Q, b, hQ, _⟩ := hI.out.bot
      have HOw := Lib.hid hI.out.own
      clear hI
      subst hQ
      have HF := Lib.hid (show forestB t = Q.all On.done from by unfold forestB; rw [HRun.out]; simp)
      obtain ⟨g, c, rfl, _, _⟩ := World.ownsRow.form HOw.out.1 (by simp)
      obtain ⟨ao', cap', hv, hsv⟩ := HOw.out.sv
      simp only [Value.slice.injEq] at hv
      obtain ⟨rfl, _, rfl⟩ := hv
      have hb := hsv.bound
      have hle : Q.length + 1 ≤ c := by have := hb.1; simpa using this
      have hcm := hb.2
      have HSv := Lib.hid hsv
      clear hsv hb
      have hlq : (Q ++ [b]).length = Q.length + 1 := by simp
      rw [hlq]
      clear hlq
      have hin1 : (1 : Int) ≤ (Q.length : Int) + 1 := by omega
      have hrev : List.flatMap onc (Q ++ [b]).reverse = onc b ++ Q.reverse.flatMap onc := by simp
      rw [hrev] at HSv
      clear hrev
      have HAll := Lib.hid (show Q.reverse.all On.done = forestB t from by rw [HF.out]; simp)
      have hlr : Q.reverse.length = Q.length := by simp
      have HB := Lib.hid HOw.out.2
      clear HF HOw HRun
      rcases Nat.lt_or_ge 1 c with hc1 | hc1
      · have HSb := Lib.hid (show Sv wr (some ⟨g, 4, none⟩) Q.length (c - 1) 4 (Q.reverse.flatMap onc) from (by simpa using HSv.out : Sv wr (some ⟨g, 0, none⟩) (Q.length + 1) c 4 (onc b ++ Q.reverse.flatMap onc)).tail rfl)
        go_wp2_with (first
          | (go_at_call 39; refine (contains_any wr _ _ _ Q.reverse HSb.out).mono ?_; rintro e w2 ⟨rfl, hb2⟩; rw [HAll.out]; have HB2 := Lib.hid hb2; clear hb2))
        go_ret
        exact ⟨by simp, HB.out.trans (HB2.out.mono HB.out.size)⟩
      · obtain rfl : c = 1 := by omega
        have hq0 : Q = [] := List.eq_nil_of_length_eq_zero (by omega)
        subst hq0
        have HSb := Lib.hid (show Sv wr (some ⟨g, 0, none⟩) 0 0 4 (([] : List On).flatMap onc) from ⟨rfl, Nat.le_refl _, by decide, (fun h => nomatch h), fun j hj => absurd hj (by simp)⟩)
        simp only [List.length_nil, List.reverse_nil] at *
        go_wp2_with (first
          | (go_at_call 39; refine (contains_any wr _ _ _ [] HSb.out).mono ?_; rintro e w2 ⟨rfl, hb2⟩; rw [HAll.out]; have HB2 := Lib.hid hb2; clear hb2))
        go_ret
        exact ⟨by simp, HB.out.trans (HB2.out.mono HB.out.size)⟩
end Go.Proofs.Ytmpccinbeepbgaa
