/- Walk: CountFronts. -/
import Derived.Test.YtbndpmfekglnkaaW20
import Derived.Test.YtbndpmfekglnkaaFronts
namespace Go.Proofs.Ytbndpmfekglnkaa
open Go.RowKit

theorem add_block (a : Addr) (n : Nat) : (a.add n).block = a.block := by unfold Addr.add; split <;> rfl

/-- A log at p whose own rows lie in the blocks from lo on, ahead of hi. -/
def LogMid (w : World) (p : Nat) (m : Mt) (tr : List Int) (lo hi : Nat) : Prop :=
  ∃ ov tv, LogAt w p m tr ov tv ∧ ∀ k, (ov.ownBlock = some k ∨ tv.ownBlock = some k) → lo ≤ k ∧ k < hi

theorem LogMid.lt {w : World} {p : Nat} {m : Mt} {tr : List Int} {lo hi : Nat} (h : LogMid w p m tr lo hi) : p < w.heap.size := let ⟨_, _, h, _⟩ := h; h.lt
theorem LogMid.later {w w' : World} {p : Nat} {m : Mt} {tr : List Int} {lo hi : Nat} (h : LogMid w p m tr lo hi) (hb : Below w.heap.size w w') : LogMid w' p m tr lo hi :=
  let ⟨ov, tv, h, hk⟩ := h; ⟨ov, tv, h.later hb, hk⟩
theorem LogMid.fr {w w' : World} {p : Nat} {m : Mt} {tr : List Int} {lo hi : Nat} (h : LogMid w p m tr lo hi) {F : Nat → Prop} (hf : Fr F w w') (hp : ¬ F p) (hF : ∀ k, lo ≤ k → k < hi → ¬ F k) : LogMid w' p m tr lo hi := by
  obtain ⟨ov, tv, h, hk⟩ := h
  exact ⟨ov, tv, ⟨(hf.block _ h.lt hp).trans h.blk, owns_fr h.own hf (fun k e => hF k (hk k (.inl e)).1 (hk k (.inl e)).2), owns_fr h.trc hf (fun k e => hF k (hk k (.inr e)).1 (hk k (.inr e)).2)⟩, hk⟩

theorem LogMid.new (w : World) (lo hi : Nat) : LogMid (w.alloc (.cells (Mt.zero.cells (.slice none 0 0) (.bool true) (.slice none 0 0)) 55)) w.heap.size Mt.zero [] lo hi :=
  ⟨_, _, new_log w, fun k hk => by rcases hk with h | h <;> cases h⟩

theorem ownsRow_lt {w : World} {base : Nat} {e : TypeId} {size : Nat} {v : Value} {n : Nat} {xs : List Value} (h : w.ownsRow base e size v n xs) : ∀ k, v.ownBlock = some k → k < w.heap.size := by
  intro k hk
  rcases h.2 with ⟨rfl, _⟩ | ⟨g, cap, cur, rfl, _, hh, _⟩
  · cases hk
  · simp [Value.ownBlock] at hk
    subst hk
    exact lt_of_block hh

theorem addU (w : World) (p : Nat) (m : Mt) (tr : List Int) (lo hi : Nat) (n0 : Nat) (h : LogMid w p m tr lo hi) (hk0 : m.ok n0) (ao : Option Addr) (cap n : Nat) (zs : List Int) (hn : n = zs.length) (hs : Sl w ao cap zs)
    (hap : Apart (fun k => k = p ∨ (lo ≤ k ∧ k < hi)) ao zs.length) (hlo : lo ≤ w.heap.size) (hbig : n0 + 2 * zs.length ≤ 800000) (htr : tr.length + zs.length ≤ 800000) :
    Calls Try.prog 17 #[.pointer (some ⟨p, 0, none⟩), .slice ao n cap] w fun r w' => r = .returned (.tuple #[.int .i64 (addM m zs 0).1, .int .i64 (addM m zs 0).2.1]) ∧
      LogMid w' p (addM m zs 0).2.2 (tr ++ zs.take (addM m zs 0).1) lo w'.heap.size ∧ Fr (fun k => k = p ∨ lo ≤ k) w w' := by
  subst hn
  obtain ⟨ov, tv, h, hk⟩ := h
  refine (add_any w p m tr ov tv n0 h hk0 ao cap zs hs ?_ hbig htr).mono ?_
  · intro h0 a ha hF
    refine hap h0 a ha ?_
    rcases hF with h | h | h
    · exact .inl h
    · exact .inr (hk _ (.inl h))
    · exact .inr (hk _ (.inr h))
  · rintro e w' ⟨he, ov', tv', hl, hf, ho, ht⟩
    refine ⟨he, ⟨ov', tv', hl, fun k hk' => ?_⟩, ?_⟩
    · rcases hk' with h' | h'
      · exact ⟨by rcases ho k h' with h'' | h''; exact (hk k (.inl h'')).1; omega, ownsRow_lt hl.own k h'⟩
      · exact ⟨by rcases ht k h' with h'' | h''; exact (hk k (.inr h'')).1; omega, ownsRow_lt hl.trc k h'⟩
    · refine ⟨hf.os, hf.tape, hf.output, hf.size, fun k hk' hF => hf.block k hk' ?_⟩
      rintro (h' | h' | h')
      · exact hF (.inl h')
      · exact hF (.inr (hk k (.inl h')).1)
      · exact hF (.inr (hk k (.inr h')).1)

theorem countsU (w : World) (p : Nat) (m : Mt) (tr : List Int) (lo hi n : Nat) (h : LogMid w p m tr lo hi) (hk : m.ok n) (hn : n ≤ 1000000) :
    Calls Try.prog 18 #[.pointer (some ⟨p, 0, none⟩)] w fun r w' => r = .returned (.agg m.cn.vals) ∧ Below w.heap.size w w' :=
  let ⟨ov, tv, h, _⟩ := h; countsL_any w p m tr ov tv n h hk hn

theorem traceU (w : World) (p : Nat) (m : Mt) (tr : List Int) (lo hi : Nat) (h : LogMid w p m tr lo hi) (hbig : tr.length ≤ 1000000) :
    Calls Try.prog 19 #[.pointer (some ⟨p, 0, none⟩)] w fun r w' => ∃ ao cap, r = .returned (.slice ao tr.length cap) ∧ Below w.heap.size w w' :=
  let ⟨ov, tv, h, _⟩ := h; traceN_any w p m tr ov tv h hbig

set_option maxRecDepth 100000 in
set_option maxHeartbeats 2000000 in
theorem fronts_long (ao : Option Addr) (cap : Nat) (zs : List Int) (w : World) (hs : Sl w ao cap zs) (hlong : 150 < zs.length) :
    Calls Try.prog 6 #[.slice ao zs.length cap] w fun r w' => r = .returned (.bool true) ∧ Below w.heap.size w w' := by
  obtain ⟨h1, h2⟩ := hs.bound
  clear hs
  go_enter Try.func6, Try.ntmps6
  go_wp2_with (go_at_call 9; refine (awake_any _).mono ?_; rintro e w' ⟨rfl, hb⟩)
  go_ret
  exact ⟨rfl, by assumption⟩

theorem addOne {zs : List Int} {n : Nat} {e : Int} {M : Nat → Mt} (F : Fro zs n e M) (hbig : zs.length ≤ 1000) (w : World) (p lo hi k : Nat) (h : LogMid w p (M k) (zs.take k) lo hi) (hk : k < n) (c : Nat) (hp : p < hi) (hlo : lo ≤ w.heap.size) (hc : hi ≤ c)
    (hs : Sl w (some ⟨c, 0, none⟩) 1 [zs.getD k 0]) :
    Calls Try.prog 17 #[.pointer (some ⟨p, 0, none⟩), .slice (some ⟨c, 0, none⟩) 1 1] w fun r w' => r = .returned (.tuple #[.int .i64 1, .int .i64 0]) ∧
      LogMid w' p (M (k + 1)) (zs.take (k + 1)) lo w'.heap.size ∧ Fr (fun k => k = p ∨ lo ≤ k) w w' := by
  have hn := F.n_le
  have hl : (zs.take k).length ≤ k := List.length_take_le _ _
  have := addU w p (M k) (zs.take k) lo hi _ h (F.ok k) (some ⟨c, 0, none⟩) 1 1 [zs.getD k 0] rfl hs (by intro _ a ha hF; cases ha; simp only at hF; omega) hlo (by simp; omega) (by simp; omega)
  rw [F.go k hk] at this
  rw [take_snoc zs k (by omega)]
  exact this

theorem addNone {zs : List Int} {n : Nat} {e : Int} {M : Nat → Mt} (F : Fro zs n e M) (hbig : zs.length ≤ 1000) (w : World) (p lo hi : Nat) (h : LogMid w p (M n) (zs.take n) lo hi) (hk : n < zs.length) (c : Nat) (hp : p < hi) (hlo : lo ≤ w.heap.size) (hc : hi ≤ c)
    (hs : Sl w (some ⟨c, 0, none⟩) 1 [zs.getD n 0]) :
    Calls Try.prog 17 #[.pointer (some ⟨p, 0, none⟩), .slice (some ⟨c, 0, none⟩) 1 1] w fun r w' => r = .returned (.tuple #[.int .i64 0, .int .i64 e]) ∧
      LogMid w' p (M n) (zs.take n) lo w'.heap.size ∧ Fr (fun k => k = p ∨ lo ≤ k) w w' := by
  have hl : (zs.take n).length ≤ n := List.length_take_le _ _
  have := addU w p (M n) (zs.take n) lo hi _ h (F.ok n) (some ⟨c, 0, none⟩) 1 1 [zs.getD n 0] rfl hs (by intro _ a ha hF; cases ha; simp only at hF; omega) hlo (by simp; omega) (by simp; omega)
  rw [F.stop hk] at this
  simpa using this

/-- What the law's loop keeps: the logs a, b of the heap of size s; a's rows lie ahead of s2, b's behind. -/
structure FI (w wr : World) (s s2 : Nat) (M : Nat → Mt) (zs : List Int) (n j : Nat) : Prop where
  below : Below w.heap.size w wr
  sz : s + 2 ≤ s2 ∧ s2 ≤ wr.heap.size ∧ w.heap.size ≤ s
  a : LogMid wr s (M n) (zs.take n) (s + 2) s2
  b : LogMid wr (s + 1) (M j) (zs.take j) s2 wr.heap.size

theorem FI.later {w wr w' : World} {s s2 : Nat} {M : Nat → Mt} {zs : List Int} {n j : Nat} (h : FI w wr s s2 M zs n j) (hb : Below wr.heap.size wr w') : FI w w' s s2 M zs n j :=
  have hs := hb.size
  have h3 := h.sz
  ⟨h.below.trans (hb.mono h.below.size), by omega, h.a.later hb, by
    obtain ⟨ov, tv, hl, hk⟩ := h.b
    exact ⟨ov, tv, hl.later hb, fun k hk' => ⟨(hk k hk').1, by have := (hk k hk').2; omega⟩⟩⟩

set_option maxRecDepth 100000 in
set_option maxHeartbeats 4000000 in
theorem fronts_short (ao : Option Addr) (cap : Nat) (zs : List Int) (w : World) (hs : Sl w ao cap zs) (hshort : zs.length ≤ 150) :
    Calls Try.prog 6 #[.slice ao zs.length cap] w fun r w' => r = .returned (.bool true) ∧ Below w.heap.size w w' := by
  obtain ⟨h1, h2⟩ := hs.bound
  have hbig : zs.length ≤ 100000 := by omega
  obtain ⟨n, e, F⟩ := fro zs
  generalize mAt zs = M at F
  have HF := Lib.hid F; clear F
  have hn := HF.out.n_le
  have HSl := Lib.hid hs; clear hs
  have HAll := Lib.hid (show ofM zs = ((ofM zs).1, e) from Prod.ext rfl HF.out.ofall)
  have HPa := Lib.hid (fun w h => HAll.out ▸ ofP_any ao cap zs w h hbig)
  generalize (ofM zs).1 = cA at *
  clear HAll
  have HAd := Lib.hid (fun w p lo hi h hs hap hlo => HF.out.all ▸ addU w p Mt.zero [] lo hi 0 h Mt.ok_zero ao cap zs.length zs rfl hs hap hlo (by omega) (by simp; omega))
  simp only [List.nil_append] at HAd
  have hne : (e == 0) = decide (n = zs.length) := by
    rw [Bool.eq_iff_iff, beq_iff_eq, decide_eq_true_iff]; exact HF.out.e0
  have hnn : ((n : Int) == zs.length) = decide (n = zs.length) := by
    rw [Bool.eq_iff_iff, beq_iff_eq, decide_eq_true_iff]; omega
  go_enter Try.func6, Try.ntmps6
  go_upto_region 6 with (first
    | (go_at_call 9; refine (awake_any _).mono ?_; rintro e w1 ⟨rfl, hb1⟩; have HB1 := Lib.hid hb1; clear hb1)
    | (go_at_call 16; refine (new_any _).mono ?_; rintro e w2 ⟨rfl, rfl⟩))
  have ha := (LogMid.new w1 (w1.heap.size + 2) (w1.heap.size + 2)).later ((Below.refl _ _).alloc (Nat.le_refl _) (.cells (Mt.zero.cells (.slice none 0 0) (.bool true) (.slice none 0 0)) 55))
  have hb := fun lo hi => LogMid.new (w1.alloc (.cells (Mt.zero.cells (.slice none 0 0) (.bool true) (.slice none 0 0)) 55)) lo hi
  have hbel : Below w.heap.size w ((w1.alloc (.cells (Mt.zero.cells (.slice none 0 0) (.bool true) (.slice none 0 0)) 55)).alloc (.cells (Mt.zero.cells (.slice none 0 0) (.bool true) (.slice none 0 0)) 55)) :=
    (HB1.out.alloc HB1.out.size _).alloc (by have := HB1.out.size; simp; omega) _
  have hsz : ((w1.alloc (.cells (Mt.zero.cells (.slice none 0 0) (.bool true) (.slice none 0 0)) 55)).alloc (.cells (Mt.zero.cells (.slice none 0 0) (.bool true) (.slice none 0 0)) 55)).heap.size = w1.heap.size + 2 := by simp
  simp only [World.size_alloc] at hb
  have HA := Lib.hid ha; have HB := Lib.hid hb; have HBel := Lib.hid hbel; have HSz := Lib.hid hsz; have HW1 := Lib.hid HB1.out.size
  clear ha hb hbel hsz HB1
  revert HA HB HBel HSz HW1
  generalize (w1.alloc (.cells (Mt.zero.cells (.slice none 0 0) (.bool true) (.slice none 0 0)) 55)).alloc (.cells (Mt.zero.cells (.slice none 0 0) (.bool true) (.slice none 0 0)) 55) = wn
  generalize w1.heap.size = s
  intro HA HB HBel HSz HW1
  go_upto_region 7 with (go_at_call 17; refine (HAd.out wn s (s + 2) (s + 2) HA.out (HSl.out.below HBel.out) (by intro h0 a ha hF; have := HSl.out.2.2.2 0 h0; obtain ⟨a', h1, h2⟩ := this; rw [ha] at h1; cases h1; have := World.block_lt_of_cell? w _ h2; rw [add_block] at this; have := HW1.out; omega) (by rw [HSz.out]; omega)).mono ?_; rintro e' w3 ⟨rfl, hla, hf⟩; have HLa := Lib.hid hla; have HFa := Lib.hid hf; clear hla hf)
  have hI : FI w w3 s w3.heap.size M zs n 0 := by
    have h1 := HSz.out; have h2 := HW1.out; have h3 := HFa.out.size
    refine ⟨HBel.out.trans (HFa.out.below (by omega) (by intro k hk; omega)), by omega, HLa.out, ?_⟩
    have := (HB.out w3.heap.size w3.heap.size).fr HFa.out (by omega) (by intro k hk; omega)
    rw [HF.out.m0]; exact this
  have HI := Lib.hid hI
  clear hI HA HB HBel HSz HW1 HLa HFa HAd
  revert HI
  generalize w3.heap.size = s2
  intro HI
  clear hnn
  have hnn : ((n : Int) == zs.length) = decide (n = zs.length) := by
    rw [Bool.eq_iff_iff, beq_iff_eq, decide_eq_true_iff]; omega
  have h0n : ¬ (n : Int) < 0 := by omega
  go_wp2_with fail
  go_loopw [7] (fun i wr => ∃ k : Nat, k ≤ zs.length ∧ i = .int .i64 k ∧ Hid (FI w wr s s2 M zs n (min k n))) (fun i _ => zs.length - (intOf i).toNat)
  case atStart => exact ⟨0, by omega, rfl, by rw [Nat.zero_min]; exact HI.out⟩
  case round =>
    obtain ⟨k, hk, rfl, hJ⟩ := hrel
    clear HI
    have hSlr := HSl.out.below hJ.out.below
    by_cases hlt : k < zs.length
    · rcases Nat.lt_trichotomy k n with hkn | hkn | hkn
      · have hm : min k n = k := by omega
        rw [hm] at hJ
        have HP1 := Lib.hid (fun w h => by have := ofP_any ao cap (zs.take k) w h (by simp; omega); rw [HF.out.of_ok k (by omega), List.length_take, Nat.min_eq_left hk] at this; exact this)
        have HSlr := Lib.hid (hSlr.take k)
        clear hSlr
        have hd1 : decide (k ≤ n) = true := by simp; omega
        have hd2 : decide (k < n) = true := by simp; omega
        have hd3 : ((k : Int) == n) = false := by rw [beq_eq_false_iff_ne]; omega
        have hd4 : decide (n < k) = false := by simp; omega
        have HCn := Lib.hid (fun w lo hi h => countsU w (s + 1) (M k) (zs.take k) lo hi _ h (HF.out.ok k) (by omega))
        generalize (M k).cn = c at *
        go_upto_region 16 with (go_at_call 11; refine (HP1.out _ HSlr.out).mono ?_; rintro e' w4 ⟨rfl, hb4⟩; have HB4 := Lib.hid hb4; clear hb4; simp only [Cn.vals])
        have hJ2 := Lib.hid ((hJ.out.later HB4.out).later ((Below.refl _ _).alloc (Nat.le_refl _) (.cells #[.int .i64 c.calls, .int .i64 c.bodies, .int .i64 c.grows, .int .i64 c.seeds, .int .i64 c.hits, .int .i64 c.puts, .int .i64 c.drops, .int .i64 c.ends, .int .i64 c.live, .int .i64 c.peak, .int .i64 c.opn, .int .i64 c.deep, .int .i64 c.most] 26)))
        have hC := heap_alloc_new w4 (.cells #[.int .i64 c.calls, .int .i64 c.bodies, .int .i64 c.grows, .int .i64 c.seeds, .int .i64 c.hits, .int .i64 c.puts, .int .i64 c.drops, .int .i64 c.ends, .int .i64 c.live, .int .i64 c.peak, .int .i64 c.opn, .int .i64 c.deep, .int .i64 c.most] 26)
        have HB5 := Lib.hid ((Below.refl wr.heap.size wr).trans (HB4.out.alloc HB4.out.size (.cells #[.int .i64 c.calls, .int .i64 c.bodies, .int .i64 c.grows, .int .i64 c.seeds, .int .i64 c.hits, .int .i64 c.puts, .int .i64 c.drops, .int .i64 c.ends, .int .i64 c.live, .int .i64 c.peak, .int .i64 c.opn, .int .i64 c.deep, .int .i64 c.most] 26)))
        have HC := Lib.hid hC
        have HS5 := Lib.hid (HSl.out.below hJ2.out.below)
        clear hJ hC HB4 HSlr HP1
        revert hJ2 HB5 HC HS5
        generalize w4.heap.size = g
        generalize w4.alloc (.cells #[.int .i64 c.calls, .int .i64 c.bodies, .int .i64 c.grows, .int .i64 c.seeds, .int .i64 c.hits, .int .i64 c.puts, .int .i64 c.drops, .int .i64 c.ends, .int .i64 c.live, .int .i64 c.peak, .int .i64 c.opn, .int .i64 c.deep, .int .i64 c.most] 26) = wb
        intro hJ2 HB5 HC HS5
        have hcx : ∀ (x : Later wb) o, x.val.cell? ⟨g, o, none⟩ = _ := fun x o => cell_of_row _ _ o _ _ _ ((x.ok.block _ (lt_of_block HC.out)).trans HC.out)
        have HCx : Hid (∀ (x : Later wb), Calls Try.prog 18 #[.pointer (some ⟨s + 1, 0, none⟩)] x.val fun r w' => r = .returned (.agg #[.int .i64 c.calls, .int .i64 c.bodies, .int .i64 c.grows, .int .i64 c.seeds, .int .i64 c.hits, .int .i64 c.puts, .int .i64 c.drops, .int .i64 c.ends, .int .i64 c.live, .int .i64 c.peak, .int .i64 c.opn, .int .i64 c.deep, .int .i64 c.most]) ∧ Below x.val.heap.size x.val w') := fun x => HCn.out _ _ _ (hJ2.out.later x.ok).b
        refine wp_region_later (by kernel_rfl) (by kernel_rfl) ?_
        repeat (go_big_quiet_step (first
          | (go_at_call 18; exact Calls.later (HCx.out _))))
        refine wpQuiet_nil ?_
        intro w5 hw5
        obtain ⟨x, rfl⟩ := hw5
        have HJ3 := Lib.hid (hJ2.out.later x.ok)
        have hS6 := HS5.out.below x.ok
        clear hcx HCx HC hJ2 HS5 HB5 HCn
        generalize x.val = wy at *
        clear x
        obtain ⟨a, rfl, hcell⟩ := hS6.2.2.2 k hlt
        have HOne := Lib.hid (addOne HF.out (by omega) (wy.alloc (.cells #[.int .i64 (zs.getD k 0)] 36)) (s + 1) s2 wy.heap.size k (HJ3.out.b.later ((Below.refl _ _).alloc (Nat.le_refl _) _)) hkn wy.heap.size (by have := HJ3.out.sz; omega) (by have := HJ3.out.sz; simp; omega) (Nat.le_refl _) (Sl.lit wy 36 [zs.getD k 0] (by simp)))
        clear hS6
        generalize zs.getD k 0 = y at *
        go_wp2_with (first
          | (go_at_call 17; refine (HOne.out).mono ?_; rintro e' w6 ⟨rfl, hl6, hf6⟩; have HL6 := Lib.hid hl6; have HF6 := Lib.hid hf6; clear hl6 hf6 HOne))
        go_roundw
        case rel =>
          refine ⟨k + 1, by omega, by go_num, ?_⟩
          have hfr := HF6.out
          have hsz := hfr.size
          simp only [World.size_alloc] at hsz
          have h3 := HJ3.out.sz
          have hfy := (Fr.of_below (F := fun k => k = s + 1 ∨ s2 ≤ k) ((Below.refl wy.heap.size wy).alloc (Nat.le_refl _) (.cells #[.int .i64 y] 36))).trans hfr (fun _ _ h => h)
          rw [show min (k + 1) n = k + 1 from by omega]
          refine ⟨HJ3.out.below.trans (hfy.below HJ3.out.below.size (by intro i hi; omega)), by omega, HJ3.out.a.fr hfy (by omega) (by intro i h1 h2; omega), ?_⟩
          exact HL6.out
        case measure => simp [intOf]; omega
      · obtain rfl : n = k := hkn.symm
        have hm : min n n = n := by omega
        rw [hm] at hJ
        have HP1 := Lib.hid (fun w h => by have := ofP_any ao cap (zs.take n) w h (by simp; omega); rw [HF.out.of_ok n (by omega), List.length_take, Nat.min_eq_left hk] at this; exact this)
        have HSlr := Lib.hid (hSlr.take n)
        clear hSlr
        have he0 : (e == 0) = false := by rw [hne]; simp; omega
        clear hne hnn
        have hd1 : decide (n ≤ n) = true := by simp
        have hd2 : decide (n < n) = false := by simp
        have hd3 : ((n : Int) == n) = true := by simp
        have hd4 : decide (n < n) = false := by simp
        have HCn := Lib.hid (fun w lo hi h => countsU w (s + 1) (M n) (zs.take n) lo hi _ h (HF.out.ok n) (by omega))
        generalize (M n).cn = c at *
        go_upto_region 16 with (go_at_call 11; refine (HP1.out _ HSlr.out).mono ?_; rintro e' w4 ⟨rfl, hb4⟩; have HB4 := Lib.hid hb4; clear hb4; simp only [Cn.vals])
        have hJ2 := Lib.hid ((hJ.out.later HB4.out).later ((Below.refl _ _).alloc (Nat.le_refl _) (.cells #[.int .i64 c.calls, .int .i64 c.bodies, .int .i64 c.grows, .int .i64 c.seeds, .int .i64 c.hits, .int .i64 c.puts, .int .i64 c.drops, .int .i64 c.ends, .int .i64 c.live, .int .i64 c.peak, .int .i64 c.opn, .int .i64 c.deep, .int .i64 c.most] 26)))
        have hC := heap_alloc_new w4 (.cells #[.int .i64 c.calls, .int .i64 c.bodies, .int .i64 c.grows, .int .i64 c.seeds, .int .i64 c.hits, .int .i64 c.puts, .int .i64 c.drops, .int .i64 c.ends, .int .i64 c.live, .int .i64 c.peak, .int .i64 c.opn, .int .i64 c.deep, .int .i64 c.most] 26)
        have HB5 := Lib.hid ((Below.refl wr.heap.size wr).trans (HB4.out.alloc HB4.out.size (.cells #[.int .i64 c.calls, .int .i64 c.bodies, .int .i64 c.grows, .int .i64 c.seeds, .int .i64 c.hits, .int .i64 c.puts, .int .i64 c.drops, .int .i64 c.ends, .int .i64 c.live, .int .i64 c.peak, .int .i64 c.opn, .int .i64 c.deep, .int .i64 c.most] 26)))
        have HC := Lib.hid hC
        have HS5 := Lib.hid (HSl.out.below hJ2.out.below)
        clear hJ hC HB4 HSlr HP1
        revert hJ2 HB5 HC HS5
        generalize w4.heap.size = g
        generalize w4.alloc (.cells #[.int .i64 c.calls, .int .i64 c.bodies, .int .i64 c.grows, .int .i64 c.seeds, .int .i64 c.hits, .int .i64 c.puts, .int .i64 c.drops, .int .i64 c.ends, .int .i64 c.live, .int .i64 c.peak, .int .i64 c.opn, .int .i64 c.deep, .int .i64 c.most] 26) = wb
        intro hJ2 HB5 HC HS5
        have hcx : ∀ (x : Later wb) o, x.val.cell? ⟨g, o, none⟩ = _ := fun x o => cell_of_row _ _ o _ _ _ ((x.ok.block _ (lt_of_block HC.out)).trans HC.out)
        have HCx : Hid (∀ (x : Later wb), Calls Try.prog 18 #[.pointer (some ⟨s + 1, 0, none⟩)] x.val fun r w' => r = .returned (.agg #[.int .i64 c.calls, .int .i64 c.bodies, .int .i64 c.grows, .int .i64 c.seeds, .int .i64 c.hits, .int .i64 c.puts, .int .i64 c.drops, .int .i64 c.ends, .int .i64 c.live, .int .i64 c.peak, .int .i64 c.opn, .int .i64 c.deep, .int .i64 c.most]) ∧ Below x.val.heap.size x.val w') := fun x => HCn.out _ _ _ (hJ2.out.later x.ok).b
        refine wp_region_later (by kernel_rfl) (by kernel_rfl) ?_
        repeat (go_big_quiet_step (first
          | (go_at_call 18; exact Calls.later (HCx.out _))))
        refine wpQuiet_nil ?_
        intro w5 hw5
        obtain ⟨x, rfl⟩ := hw5
        have HJ3 := Lib.hid (hJ2.out.later x.ok)
        have hS6 := HS5.out.below x.ok
        clear hcx HCx HC hJ2 HS5 HB5 HCn
        generalize x.val = wy at *
        clear x
        obtain ⟨a, rfl, hcell⟩ := hS6.2.2.2 n hlt
        have HOne := Lib.hid (addNone HF.out (by omega) (wy.alloc (.cells #[.int .i64 (zs.getD n 0)] 36)) (s + 1) s2 wy.heap.size (HJ3.out.b.later ((Below.refl _ _).alloc (Nat.le_refl _) _)) hlt wy.heap.size (by have := HJ3.out.sz; omega) (by have := HJ3.out.sz; simp; omega) (Nat.le_refl _) (Sl.lit wy 36 [zs.getD n 0] (by simp)))
        clear hS6
        generalize zs.getD n 0 = y at *
        go_wp2_with (first
          | (go_at_call 17; refine (HOne.out).mono ?_; rintro e' w6 ⟨rfl, hl6, hf6⟩; have HL6 := Lib.hid hl6; have HF6 := Lib.hid hf6; clear hl6 hf6 HOne))
        go_roundw
        case rel =>
          refine ⟨n + 1, by omega, by go_num, ?_⟩
          have hfr := HF6.out
          have hsz := hfr.size
          simp only [World.size_alloc] at hsz
          have h3 := HJ3.out.sz
          have hfy := (Fr.of_below (F := fun k => k = s + 1 ∨ s2 ≤ k) ((Below.refl wy.heap.size wy).alloc (Nat.le_refl _) (.cells #[.int .i64 y] 36))).trans hfr (fun _ _ h => h)
          rw [show min (n + 1) n = n from by omega]
          refine ⟨HJ3.out.below.trans (hfy.below HJ3.out.below.size (by intro i hi; omega)), by omega, HJ3.out.a.fr hfy (by omega) (by intro i h1 h2; omega), ?_⟩
          exact HL6.out
        case measure => simp [intOf]; omega
      · have hm : min k n = n := by omega
        rw [hm] at hJ
        have HP1 := Lib.hid (fun w h => by have := ofP_any ao cap (zs.take k) w h (by simp; omega); rw [List.length_take, Nat.min_eq_left hk] at this; exact this)
        have hf0 : ((ofM (zs.take k)).2 == 0) = false := by rw [beq_eq_false_iff_ne]; exact HF.out.of_bad k hkn hk
        generalize ofM (zs.take k) = R at *
        obtain ⟨c, f⟩ := R
        simp only [] at HP1 hf0
        have HSlr := Lib.hid (hSlr.take k)
        clear hSlr hne hnn
        have hd1 : decide (k ≤ n) = false := by simp; omega
        have hd4 : decide (n < k) = true := by simp; omega
        go_wp2_with (go_at_call 11; refine (HP1.out _ HSlr.out).mono ?_; rintro e' w4 ⟨rfl, hb4⟩; have HB4 := Lib.hid hb4; clear hb4; simp only [Cn.vals])
        go_roundw
        case rel =>
          refine ⟨k + 1, by omega, by go_num, ?_⟩
          rw [show min (k + 1) n = n from by omega]
          exact (hJ.out.later HB4.out).later ((Below.refl _ _).alloc (Nat.le_refl _) _)
        case measure => simp [intOf]; omega
    · have hke : k = zs.length := by omega
      subst hke
      have hm : min zs.length n = n := by omega
      rw [hm] at hJ
      have hln : (zs.take n).length = n := by simp; omega
      have HTr := Lib.hid (fun w p lo hi h => hln ▸ traceU w p (M n) (zs.take n) lo hi h (by simp; omega))
      have HCn := Lib.hid (fun w p lo hi h => countsU w p (M n) (zs.take n) lo hi _ h (HF.out.ok n) (by omega))
      clear hln
      generalize (M n).cn = c at *
      have HSlr := Lib.hid hSlr
      have HBl := Lib.hid (Below.refl wr.heap.size wr)
      clear hSlr hne hnn
      go_wp2_with (first
        | (go_at_call 19; ((with_reducible refine (HTr.out _ _ _ _ (hJ.out.later HBl.out).a).mono ?_); rintro e' w6 ⟨ao6, cap6, rfl, hb6⟩; replace HBl := Lib.hid (HBl.out.trans (hb6.mono HBl.out.size)); clear hb6))
        | (go_at_call 19; ((with_reducible refine (HTr.out _ _ _ _ (hJ.out.later HBl.out).b).mono ?_); rintro e' w6 ⟨ao6, cap6, rfl, hb6⟩; replace HBl := Lib.hid (HBl.out.trans (hb6.mono HBl.out.size)); clear hb6))
        | (go_at_call 18; ((with_reducible refine (HCn.out _ _ _ _ (hJ.out.later HBl.out).a).mono ?_); rintro e' w6 ⟨rfl, hb6⟩; replace HBl := Lib.hid (HBl.out.trans (hb6.mono HBl.out.size)); clear hb6))
        | (go_at_call 18; ((with_reducible refine (HCn.out _ _ _ _ (hJ.out.later HBl.out).b).mono ?_); rintro e' w6 ⟨rfl, hb6⟩; replace HBl := Lib.hid (HBl.out.trans (hb6.mono HBl.out.size)); clear hb6; simp only [Cn.vals]))
        | (go_at_call 11; ((with_reducible refine (HPa.out _ (HSlr.out.below HBl.out)).mono ?_); rintro e' w6 ⟨rfl, hb6⟩; replace HBl := Lib.hid (HBl.out.trans (hb6.mono HBl.out.size)); clear hb6; simp only [Cn.vals])))
      go_ret
      exact ⟨rfl, hJ.out.below.trans ((HBl.out.alloc HBl.out.size _).mono hJ.out.below.size)⟩

theorem fronts_any (ao : Option Addr) (cap : Nat) (zs : List Int) (w : World) (hs : Sl w ao cap zs) :
    Calls Try.prog 6 #[.slice ao zs.length cap] w fun r w' => r = .returned (.bool true) ∧ Below w.heap.size w w' := by
  by_cases h : zs.length ≤ 150
  · exact fronts_short ao cap zs w hs h
  · exact fronts_long ao cap zs w hs (by omega)
end Go.Proofs.Ytbndpmfekglnkaa
