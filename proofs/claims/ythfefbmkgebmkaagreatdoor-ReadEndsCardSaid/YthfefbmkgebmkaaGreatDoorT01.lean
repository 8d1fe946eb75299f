/- Walks and plain laws: Qa Qb Qc. -/
import Derived.Test.YthfefbmkgebmkaaGreatDoorM08
import Derived.Test.YthfefbmkgebmkaaGreatDoorM10
import Derived.Test.YthfefbmkgebmkaaGreatDoorM15
import Derived.WalkLawsBesides
namespace Go.Proofs.YthfefbmkgebmkaaGreatDoor
open Go.RowKit

mutual
/-- A part that lies in cells, its kids in a row of blocks F. -/
def PvW (w : World) (F : Nat → Prop) : Pt → Array Value → Prop
 | .mk k cl t lv a nm ks, cs => ∃ (ao : Option Addr) (cap : Nat) (vs : List (Array Value)), cs = ptC k cl t lv a nm ao ks.length cap ∧ Sv w ao ks.length cap 12 (vs.flatMap Array.toList) ∧ (∀ x, ao = some x → ks ≠ [] → F x.block) ∧ PvsW w F ks vs
def PvsW (w : World) (F : Nat → Prop) : List Pt → List (Array Value) → Prop
 | [], vs => vs = []
 | p :: ps, vs => ∃ v r, vs = v :: r ∧ PvW w F p v ∧ PvsW w F ps r
end
mutual
theorem PvW.fr {w w' : World} {F G H : Nat → Prop} (hf : Fr G w w') (hn : ∀ k, F k → ¬ G k) (hi : ∀ k, F k → H k) : ∀ (p : Pt) (cs : Array Value), PvW w F p cs → PvW w' H p cs
 | .mk k cl t lv a nm ks, cs, h => by
  unfold PvW at h ⊢
  obtain ⟨ao, cap, vs, h2, h3, h4, h5⟩ := h
  exact ⟨ao, cap, vs, h2, h3.fr hf (fun x hx hk => hn _ (h4 x hx (by rintro rfl; simp at hk))), fun x hx hk => hi _ (h4 x hx hk), PvsW.fr hf hn hi ks vs h5⟩
theorem PvsW.fr {w w' : World} {F G H : Nat → Prop} (hf : Fr G w w') (hn : ∀ k, F k → ¬ G k) (hi : ∀ k, F k → H k) : ∀ (ps : List Pt) (vs : List (Array Value)), PvsW w F ps vs → PvsW w' H ps vs
 | [], vs, h => by unfold PvsW at h ⊢; exact h
 | p :: ps, vs, h => by
  unfold PvsW at h ⊢
  obtain ⟨b, r, h1, h2, h3⟩ := h
  exact ⟨b, r, h1, PvW.fr hf hn hi p b h2, PvsW.fr hf hn hi ps r h3⟩
end
theorem PvW.below {w w' : World} {F : Nat → Prop} {p : Pt} {cs : Array Value} (h : PvW w F p cs) (hb : Below w.heap.size w w') : PvW w' F p cs := PvW.fr (G := fun _ => False) (Fr.of_below hb) (fun _ _ e => e) (fun _ e => e) p cs h
theorem PvsW.below {w w' : World} {F : Nat → Prop} {ps : List Pt} {vs : List (Array Value)} (h : PvsW w F ps vs) (hb : Below w.heap.size w w') : PvsW w' F ps vs := PvsW.fr (G := fun _ => False) (Fr.of_below hb) (fun _ _ e => e) (fun _ e => e) ps vs h
theorem PvW.size {w : World} {F : Nat → Prop} : ∀ {p : Pt} {cs : Array Value}, PvW w F p cs → cs.size = 12
 | .mk .., cs, h => by unfold PvW at h; obtain ⟨ao, cap, vs, rfl, _⟩ := h; rfl
theorem PvW.one {w : World} {F : Nat → Prop} : ∀ {p : Pt} {cs : Array Value}, PvW w F p cs → ∀ u ∈ cs.toList, u.oneCell' = true
 | .mk .., cs, h => by
  unfold PvW at h; obtain ⟨ao, cap, vs, rfl, _⟩ := h
  intro u hu
  simp only [ptC, List.mem_cons, List.not_mem_nil, or_false] at hu
  rcases hu with rfl | rfl | rfl | rfl | rfl | rfl | rfl | rfl | rfl | rfl | rfl | rfl <;> rfl
theorem PvsW.len {w : World} {F : Nat → Prop} : ∀ {ps : List Pt} {vs : List (Array Value)}, PvsW w F ps vs → vs.length = ps.length
 | [], vs, h => by unfold PvsW at h; subst h; rfl
 | p :: ps, vs, h => by
  unfold PvsW at h
  obtain ⟨b, r, rfl, _, h3⟩ := h
  simp [PvsW.len h3]
theorem PvsW.snoc {w : World} {F : Nat → Prop} : ∀ {ps : List Pt} {vs : List (Array Value)} {p : Pt} {v : Array Value}, PvsW w F ps vs → PvW w F p v → PvsW w F (ps ++ [p]) (vs ++ [v])
 | [], vs, p, b, h, hp => by
  unfold PvsW at h; subst h
  show PvsW w F [p] [b]
  unfold PvsW
  exact ⟨b, [], rfl, hp, by unfold PvsW; rfl⟩
 | q :: ps, vs, p, b, h, hp => by
  unfold PvsW at h
  obtain ⟨c, r, rfl, h2, h3⟩ := h
  show PvsW w F (q :: (ps ++ [p])) (c :: (r ++ [b]))
  unfold PvsW
  exact ⟨c, _, rfl, h2, PvsW.snoc h3 hp⟩
theorem PvsW.at {w : World} {F : Nat → Prop} : ∀ {ps : List Pt} {vs : List (Array Value)}, PvsW w F ps vs → ∀ (i : Nat) (h : i < ps.length), ∃ v, vs[i]? = some v ∧ PvW w F ps[i] v
 | [], _, _, i, h => by simp at h
 | p :: ps, vs, hp, i, h => by
  unfold PvsW at hp
  obtain ⟨b, r, rfl, h1, h2⟩ := hp
  cases i with
  | zero => exact ⟨b, rfl, h1⟩
  | succ i =>
   obtain ⟨c, hc, hq⟩ := PvsW.at h2 i (by simpa using h)
   exact ⟨c, by simpa using hc, hq⟩
/-- The document's reader: the words, where it is, how deep, why it cannot go on. -/
structure RqW (L : List Wd) (B gr i : Nat) (d : Int) (e a : Nat) (w : World) : Prop where
 row : ∃ ao cap, hrow w gr #[.slice ao L.length cap, .int .i64 i, .int .i64 d, .int .i64 e, .int .i64 a] 117 ∧ Sv w ao L.length cap 9 (L.flatMap fun x => (wdD x).toList) ∧ ∀ a, ao = some a → a.block < gr
 lt : gr < B
 le : B ≤ w.heap.size
theorem RqW.below {L : List Wd} {B gr i : Nat} {d : Int} {e a : Nat} {w w' : World} (h : RqW L B gr i d e a w) (hb : Below w.heap.size w w') : RqW L B gr i d e a w' := by
 obtain ⟨⟨ao, cap, h1, h2, h3⟩, h4, h5⟩ := h
 exact ⟨⟨ao, cap, h1.below hb, h2.below hb, h3⟩, h4, Nat.le_trans h5 hb.size⟩
theorem RqW.fr {L : List Wd} {B gr i : Nat} {d : Int} {e a : Nat} {w w' : World} {G : Nat → Prop} (h : RqW L B gr i d e a w) (hf : Fr G w w') (hG : ∀ k, G k → B ≤ k) : RqW L B gr i d e a w' := by
 obtain ⟨⟨ao, cap, h1, h2, h3⟩, h4, h5⟩ := h
 exact ⟨⟨ao, cap, h1.fr hf (fun e => by have := hG _ e; omega), h2.fr hf (fun a ha _ e => by have := hG _ e; have := h3 a ha; omega), h3⟩, h4, Nat.le_trans h5 hf.size⟩
theorem RqW.base {L : List Wd} {B B' gr i : Nat} {d : Int} {e a : Nat} {w : World} (h : RqW L B gr i d e a w) (h1 : gr < B') (h2 : B' ≤ w.heap.size) : RqW L B' gr i d e a w := ⟨h.row, h1, h2⟩
/-- A cell of the reader is written. -/
theorem RqW.set {L : List Wd} {B gr i i' : Nat} {d d' : Int} {e a e' a' : Nat} {w : World} (h : RqW L B gr i d e a w) (o : Nat) (v : Value)
  (hv : ∀ x : Value, (#[x, .int .i64 i, .int .i64 d, .int .i64 e, .int .i64 a] : Array Value).setIfInBounds o v = #[x, .int .i64 i', .int .i64 d', .int .i64 e', .int .i64 a']) : RqW L B gr i' d' e' a' (w.setCell ⟨gr, o, none⟩ v) ∧ Fr (fun k => k = gr) w (w.setCell ⟨gr, o, none⟩ v) := by
 obtain ⟨⟨ao, cap, h1, h2, h3⟩, h4, h5⟩ := h
 have hf : Fr (fun k => k = gr) w (w.setCell ⟨gr, o, none⟩ v) := Fr.setCell w ⟨gr, o, none⟩ v
 refine ⟨⟨⟨ao, cap, ?_, h2.fr hf (fun x hx _ e => by have := h3 x hx; omega), h3⟩, h4, by have := hf.size; omega⟩, hf⟩
 have := h1.setCell o v
 rwa [hv] at this
end Go.Proofs.YthfefbmkgebmkaaGreatDoor
namespace Go.Proofs.YthfefbmkgebmkaaGreatDoor
open Go.RowKit
set_option maxRecDepth 100000
set_option maxHeartbeats 8000000

theorem rq_sz9 : (Tryz.prog.info? 119).map (·.size) = some 9 := by decide +kernel
theorem rpart_later {wx : World} {p : Addr} {x0 x1 x2 x3 x4 x5 x6 x7 x8 : Value} (h : ∀ j v, (#[x0, x1, x2, x3, x4, x5, x6, x7, x8] : Array Value).toList[j]? = some v → wx.cell? (p.add j) = some v) :
  (∀ x : Later wx, (loadVar 119 p).run Tryz.prog x.val = .ok (.agg #[x0, x1, x2, x3, x4, x5, x6, x7, x8]) x.val) := by
 have H : ∀ (x : Later wx) j v, (#[x0, x1, x2, x3, x4, x5, x6, x7, x8] : Array Value).toList[j]? = some v → x.val.cell? (p.add j) = some v := fun x j v hj => (x.ok.cell (World.block_lt_of_cell? wx _ (h j v hj))).trans (h j v hj)
 exact fun x => run_loadVar_part x.val p _ _ _ (H x) Tryz.underlying119 rfl rq_sz9
/-- The reader's cells and its word. -/
theorem RqW.at {L : List Wd} {B gr i : Nat} {d : Int} {e a : Nat} {w : World} (h : RqW L B gr i d e a w) (hi : i < L.length) :
    ∃ ao cap p, hrow w gr #[.slice ao L.length cap, .int .i64 i, .int .i64 d, .int .i64 e, .int .i64 a] 117 ∧ ao = some p ∧ (∀ j v, (wdD (wdAt L i)).toList[j]? = some v → w.cell? ((p.add (i * 9)).add j) = some v) ∧ p.block ≠ gr := by
  obtain ⟨⟨ao, cap, h1, h2, h3⟩, h4, h5⟩ := h
  obtain ⟨p, ha, hc⟩ := Sv.at wdD_len h2 (by decide) i hi
  refine ⟨ao, cap, p, h1, ha, ?_, Nat.ne_of_lt (h3 p ha)⟩
  rw [wdAt_in hi]
  exact hc
theorem qhere_any (L : List Wd) (B gr i : Nat) (d : Int) (e a : Nat) (w : World) (h : RqW L B gr i d e a w) (hi : i < L.length) (t : List UInt8) :
    Calls Tryz.prog 76 #[ptr gr, .string (tx t)] w fun r w' => r = .returned (.bool (decide (e = 0) && hereW L i t)) ∧ Below w.heap.size w w' := by
  obtain ⟨ao, cap, p, hr, rfl, hc, hna⟩ := h.at hi
  have hiI : (i : Int) < L.length := by omega
  have htb := tx_beq (wdAt L i).tx t
  unfold ptr hereW
  unfold wdD wdA at hc
  generalize wdAt L i = x at *
  have HC := Lib.hid hc; have HR := Lib.hid hr; have HTB := Lib.hid htb
  clear hc hr h hi htb hna
  go_enter Tryz.func76, Tryz.ntmps76
  go_upto_region 1 with (fail)
  have c0 : ∀ x : Later w, x.val.cell? ⟨gr, 0, none⟩ = some (.slice (some p) L.length cap) := fun x => (HR.out.below x.ok).cell 0
  have c1 : ∀ x : Later w, x.val.cell? ⟨gr, 1, none⟩ = some (.int .i64 i) := fun x => (HR.out.below x.ok).cell 1
  have HP := Lib.hid (later_all (rpart_later (wx := w) HC.out))
  refine wp_region_noPanic ?_
  refine wp_region_T (fun z => ∃ x : Later w, z = x.val) [0, 1, 2, 3, 4, 5, 6, 7, 8, 9, 10] 11 1 rfl (by kernel_rfl) ?_
  refine wpAnyT_reads (f := 1) [0, 1, 2, 3, 4, 5, 6, 7, 8, 9] (by kernel_rfl) (by kernel_rfl) ⟨⟨w.drew, (Below.refl _ _).drew⟩, rfl⟩ (fun _ _ _ _ h => h) ?_
  simp only [pickOps, List.getD_cons_zero, List.getD_cons_succ]
  repeat (first
    | (refine wpRead_load rfl 119 (.tmp 14) rfl (p.add (i * 9)) rfl _ HP.out ?_; simp only [Act.put, List.setIfInBounds_toArray, List.set_cons_zero, List.set_cons_succ])
    | (refine wpRead_cons (v := ?_) rfl ?_ ?_; rotate_left; (· (intro z hz; obtain ⟨y, rfl⟩ := hz; have f0 := c0 y; have f1 := c1 y; go_simp; try with_reducible rfl)); simp only [Act.put, List.setIfInBounds_toArray, List.set_cons_zero, List.set_cons_succ]))
  refine wpRead_nil ?_
  refine wpAnyT_one 10 (by kernel_rfl) (by kernel_rfl) rfl ?_
  simp only [List.getD_cons_zero, List.getD_cons_succ]
  go_wp2_with fail
  refine ⟨⟨⟨_, ((Below.refl w.heap.size w).drew).alloc (Nat.le_refl _) _⟩, rfl⟩, ?_⟩
  refine wpAnyT_tail [11] (by kernel_rfl) (by kernel_rfl) (by kernel_rfl) ?_
  simp only [pickOps, List.getD_cons_zero, List.getD_cons_succ]
  go_wp2_with fail
  refine noPanic_normal ?_
  go_upto_region 2 with (fail)
  have HB6 := Lib.hid (((Below.refl w.heap.size w).alloc (Nat.le_refl _) (.cells #[.int .i64 x.kind, .int .i64 x.at_, .int .i64 x.nx, .string (tx x.tx), .int .i64 x.lv, .int .u64 (clsW x.cl 0), .int .u64 (clsW x.cl 1), .int .u64 (clsW x.cl 2), .int .u64 (clsW x.cl 3)] 119)).drew)
  have HW := Lib.hid (show hrow (w.alloc (.cells #[.int .i64 x.kind, .int .i64 x.at_, .int .i64 x.nx, .string (tx x.tx), .int .i64 x.lv, .int .u64 (clsW x.cl 0), .int .u64 (clsW x.cl 1), .int .u64 (clsW x.cl 2), .int .u64 (clsW x.cl 3)] 119)).drew w.heap.size #[.int .i64 x.kind, .int .i64 x.at_, .int .i64 x.nx, .string (tx x.tx), .int .i64 x.lv, .int .u64 (clsW x.cl 0), .int .u64 (clsW x.cl 1), .int .u64 (clsW x.cl 2), .int .u64 (clsW x.cl 3)] 119 from hrow.new w _ _)
  have HR6 := Lib.hid (HR.out.below HB6.out)
  clear c0 c1 HP HC HR
  generalize (w.alloc (.cells #[.int .i64 x.kind, .int .i64 x.at_, .int .i64 x.nx, .string (tx x.tx), .int .i64 x.lv, .int .u64 (clsW x.cl 0), .int .u64 (clsW x.cl 1), .int .u64 (clsW x.cl 2), .int .u64 (clsW x.cl 3)] 119)).drew = w6 at *
  obtain ⟨g5, hg5⟩ : ∃ g, w.heap.size = g := ⟨_, rfl⟩
  rw [hg5] at HW ⊢
  clear hg5
  have r3 : w6.cell? ⟨gr, 3, none⟩ = some (.int .i64 e) := HR6.out.cell 3
  have k0 : w6.cell? ⟨g5, 0, none⟩ = some (.int .i64 x.kind) := HW.out.cell 0
  have k3 : w6.cell? ⟨g5, 3, none⟩ = some (.string (tx x.tx)) := HW.out.cell 3
  by_cases he : e = 0
  · subst he
    by_cases hk : x.kind = 5
    · have hk5 : ((x.kind : Int) == 5) = true := by simp; omega
      by_cases ht : x.tx = t
      · have hq : ((tx x.tx).toList == (tx t).toList) = true := by rw [HTB.out]; simpa using ht
        have HK := Lib.hid hk; have HT := Lib.hid ht
        clear hk ht
        go_wp2_with fail
        go_ret
        exact ⟨by rw [HK.out, HT.out]; simp, HB6.out⟩
      · have hq : ((tx x.tx).toList == (tx t).toList) = false := by rw [HTB.out]; simpa using ht
        have HK := Lib.hid hk; have HT := Lib.hid ht
        clear hk ht
        go_wp2_with fail
        go_ret
        exact ⟨by have := HT.out; simp [this], HB6.out⟩
    · have hk5 : ((x.kind : Int) == 5) = false := by simp; omega
      have HK := Lib.hid hk
      clear hk
      go_wp2_with fail
      go_ret
      exact ⟨by have := HK.out; simp [this], HB6.out⟩
  · have he0 : ((e : Int) == 0) = false := by simp; omega
    have HE := Lib.hid he
    clear he
    go_wp2_with fail
    go_ret
    exact ⟨by have := HE.out; simp [this], HB6.out⟩
/-- It cannot go on: the error is kept, with the place of its word; the first one stays. -/
theorem qfail_any (L : List Wd) (B gr i : Nat) (d : Int) (e a : Nat) (w : World) (h : RqW L B gr i d e a w) (hi : i < L.length) (E : Nat) :
    Calls Tryz.prog 53 #[ptr gr, .int .i64 E] w fun r w' => r = .returned (.tuple #[]) ∧ RqW L B gr i d (if e = 0 then E else e) (if e = 0 then (wdAt L i).at_ else a) w' ∧ Fr (fun k => k = gr) w w' := by
  have HH := Lib.hid h
  obtain ⟨ao, cap, p, hr, rfl, hc, hna⟩ := h.at hi
  have hiI : (i : Int) < L.length := by omega
  unfold ptr
  unfold wdD wdA at hc
  generalize hx : wdAt L i = x at *
  have HC := Lib.hid hc; have HR := Lib.hid hr; have HX := Lib.hid hx
  clear hc hr h hi hx hna
  go_enter Tryz.func53, Tryz.ntmps53
  have r3 : w.cell? ⟨gr, 3, none⟩ = some (.int .i64 e) := HR.out.cell 3
  by_cases he : e = 0
  · subst he
    go_upto_region 1 with (fail)
    clear r3
    have c0 : ∀ x : Later w, x.val.cell? ⟨gr, 0, none⟩ = some (.slice (some p) L.length cap) := fun x => (HR.out.below x.ok).cell 0
    have c1 : ∀ x : Later w, x.val.cell? ⟨gr, 1, none⟩ = some (.int .i64 i) := fun x => (HR.out.below x.ok).cell 1
    have n1 : ∀ y : Later w, y.val.cell? ⟨(p.add (i * 9)).block, (p.add (i * 9)).off + 1, none⟩ = some (.int .i64 x.at_) := fun y => by
      have := HC.out 1 _ rfl
      rw [add_off _ _ _ (by decide)] at this
      exact (y.ok.cell (World.block_lt_of_cell? w _ this)).trans this
    refine wp_region_later_tail 16 (by kernel_rfl) (by kernel_rfl) ?_
    simp only [List.take_succ_cons, List.take_zero, List.drop_succ_cons, List.drop_zero]
    repeat (go_big_quiet_step (fail))
    refine wpQuiet_nil ?_
    intro w5 hw5
    obtain ⟨y, rfl⟩ := hw5
    have HR5 := Lib.hid (HR.out.below y.ok)
    have HB5 := Lib.hid y.ok
    have HH5 := Lib.hid (HH.out.below y.ok)
    clear c0 c1 n1 HC HR HH
    generalize y.val = w5 at *
    clear y
    have r3 : w5.cell? ⟨gr, 3, none⟩ = some (.int .i64 0) := HR5.out.cell 3
    have r4 : w5.cell? ⟨gr, 4, none⟩ = some (.int .i64 a) := HR5.out.cell 4
    have z3 := HR5.out.frozen 3; have z4 := HR5.out.frozen 4
    go_wp2_with fail
    go_end0
    obtain ⟨h3, hf3⟩ := HH5.out.set (i' := i) (d' := d) (e' := E) (a' := a) 3 (.int .i64 E) (fun x => rfl)
    obtain ⟨h4, hf4⟩ := h3.set (i' := i) (d' := d) (e' := E) (a' := x.at_) 4 (.int .i64 x.at_) (fun x => rfl)
    exact ⟨rfl, h4, ((Fr.of_below (F := fun k => k = gr) HB5.out).trans hf3 (fun _ _ h => h)).trans hf4 (fun _ _ h => h)⟩
  · have he0 : ((e : Int) == 0) = false := by simp; omega
    rw [if_neg he, if_neg he]
    clear he
    go_wp2_with fail
    go_end0
    exact ⟨rfl, HH.out, Fr.refl _ _⟩
end Go.Proofs.YthfefbmkgebmkaaGreatDoor
namespace Go.Proofs.YthfefbmkgebmkaaGreatDoor
open Go.RowKit
set_option maxRecDepth 100000
set_option maxHeartbeats 16000000

/-- Behind the asking for a sign that has to come. -/
def QwP (L : List Wd) (B gr i : Nat) (d : Int) (e a : Nat) (t : List UInt8) (w : World) (r : Ending) (w' : World) : Prop :=
 r = .returned (.tuple #[]) ∧ (∃ i' e' a', RqW L B gr i' d e' a' w' ∧ (e = 0 → hereW L i t = true → i' = i + 1 ∧ e' = 0 ∧ a' = a) ∧ (e = 0 → hereW L i t = false → i' = i ∧ e' = 7 ∧ a' = (wdAt L i).at_) ∧ (e ≠ 0 → i' = i ∧ e' = e ∧ a' = a)) ∧ Fr (fun k => k = gr) w w'
theorem qwant_any (L : List Wd) (B gr i : Nat) (d : Int) (e a : Nat) (w : World) (h : RqW L B gr i d e a w) (hi : i < L.length) (hL : L.length ≤ 100000) (t : List UInt8) :
  Calls Tryz.prog 54 #[ptr gr, .string (tx t)] w fun r w' => QwP L B gr i d e a t w r w' := by
 have HH := Lib.hid (qhere_any L B gr i d e a w h hi t)
 have HF := Lib.hid (fun x (hx : Below w.heap.size w x) => qfail_any L B gr i d e a x (h.below hx) hi 7)
 have HI := Lib.hid h
 have hLI : (i : Int) + 1 ≤ 100000 := by omega
 clear h hi hL
 unfold ptr QwP at *
 generalize hq : (decide (e = 0) && hereW L i t) = q at HH
 have HQ := Lib.hid hq; clear hq
 go_enter Tryz.func54, Tryz.ntmps54
 go_wp2_with fail
 refine HH.out.mono ?_
 rintro r w1 ⟨rfl, hb⟩
 have HB := Lib.hid hb
 have HI1 := Lib.hid (HI.out.below hb)
 clear hb HH
 cases q with
 | true =>
  have c1 : w1.cell? ⟨gr, 1, none⟩ = some (.int .i64 i) := by obtain ⟨ao, cap, h1, _, _⟩ := HI1.out.row; exact h1.cell 1
  have f1 : w1.frozen? ⟨gr, 1, none⟩ = false := by obtain ⟨ao, cap, h1, _, _⟩ := HI1.out.row; exact h1.frozen 1
  go_wp2_with fail
  refine bodyPost_ret (results_none rfl _ _ _) rfl ?_
  obtain ⟨h3, hf3⟩ := HI1.out.set (i' := i + 1) (d' := d) (e' := e) (a' := a) 1 (.int .i64 ((i : Int) + 1)) (fun x => by simp)
  have hq := HQ.out
  simp only [Bool.and_eq_true, decide_eq_true_eq] at hq
  refine ⟨rfl, ⟨_, _, _, h3, fun h0 _ => ⟨rfl, h0, rfl⟩, fun _ h0 => Bool.noConfusion (hq.2.symm.trans h0), fun h0 => absurd hq.1 h0⟩, (Fr.of_below (F := fun k => k = gr) HB.out).trans hf3 (fun _ _ h => h)⟩
 | false =>
  have HF1 := Lib.hid (HF.out w1 HB.out)
  clear HF
  go_wp2_with fail
  refine HF1.out.mono ?_
  rintro r w2 ⟨rfl, h1, h2⟩
  have H1 := Lib.hid h1; have H2 := Lib.hid h2
  clear h1 h2 HF1
  go_wp2_with fail
  go_end0
  have hq := HQ.out
  refine ⟨rfl, ⟨_, _, _, H1.out, fun h0 h3 => ?_, fun h0 _ => ⟨rfl, by rw [if_pos h0], by rw [if_pos h0]⟩, fun h0 => ⟨rfl, by rw [if_neg h0], by rw [if_neg h0]⟩⟩, (Fr.of_below (F := fun k => k = gr) HB.out).trans H2.out (fun _ _ h => h)⟩
  rw [h0, h3] at hq; simp at hq
theorem qbegins_any (L : List Wd) (B gr i : Nat) (d : Int) (e a : Nat) (w : World) (h : RqW L B gr i d e a w) (hi : i < L.length) :
  Calls Tryz.prog 91 #[ptr gr] w fun r w' => r = .returned (.bool (decide (e = 0) && bgW L i)) ∧ Below w.heap.size w w' := by
 have HHe := Lib.hid (fun t x (hx : Below w.heap.size w x) => qhere_any L B gr i d e a x (h.below hx) hi t)
 obtain ⟨ao, cap, p, hr, rfl, hc, hna⟩ := h.at hi
 have hiI : (i : Int) < L.length := by omega
 obtain ⟨b1, hb1⟩ : ∃ b, hereW L i [46] = b := ⟨_, rfl⟩
 obtain ⟨b2, hb2⟩ : ∃ b, hereW L i [40] = b := ⟨_, rfl⟩
 obtain ⟨b3, hb3⟩ : ∃ b, hereW L i [33] = b := ⟨_, rfl⟩
 obtain ⟨b4, hb4⟩ : ∃ b, hereW L i [38] = b := ⟨_, rfl⟩
 have H1 := Lib.hid (HHe.out [46]); have H2 := Lib.hid (HHe.out [40]); have H3 := Lib.hid (HHe.out [33]); have H4 := Lib.hid (HHe.out [38])
 rw [hb1] at H1
 rw [hb2] at H2
 rw [hb3] at H3
 rw [hb4] at H4
 unfold bgW
 rw [hb1, hb2, hb3, hb4]
 unfold ptr at *
 unfold wdD wdA at hc
 generalize wdAt L i = x at *
 have HC := Lib.hid hc; have HR := Lib.hid hr
 clear hc hr h hi hna HHe hb1 hb2 hb3 hb4
 go_enter Tryz.func91, Tryz.ntmps91
 go_upto_region 1 with (fail)
 have c0 : ∀ x : Later w, x.val.cell? ⟨gr, 0, none⟩ = some (.slice (some p) L.length cap) := fun x => (HR.out.below x.ok).cell 0
 have c1 : ∀ x : Later w, x.val.cell? ⟨gr, 1, none⟩ = some (.int .i64 i) := fun x => (HR.out.below x.ok).cell 1
 have HP := Lib.hid (later_all (rpart_later (wx := w) HC.out))
 refine wp_region_noPanic ?_
 refine wp_region_T (fun z => ∃ x : Later w, z = x.val) [0, 1, 2, 3, 4, 5, 6, 7, 8, 9, 10] 11 1 rfl (by kernel_rfl) ?_
 refine wpAnyT_reads (f := 1) [0, 1, 2, 3, 4, 5, 6, 7, 8, 9] (by kernel_rfl) (by kernel_rfl) ⟨⟨w.drew, (Below.refl _ _).drew⟩, rfl⟩ (fun _ _ _ _ h => h) ?_
 simp only [pickOps, List.getD_cons_zero, List.getD_cons_succ]
 repeat (first
  | (refine wpRead_load rfl 119 (.tmp 12) rfl (p.add (i * 9)) rfl _ HP.out ?_; simp only [Act.put, List.setIfInBounds_toArray, List.set_cons_zero, List.set_cons_succ])
  | (refine wpRead_cons (v := ?_) rfl ?_ ?_; rotate_left; (· (intro z hz; obtain ⟨y, rfl⟩ := hz; have f0 := c0 y; have f1 := c1 y; go_simp; try with_reducible rfl)); simp only [Act.put, List.setIfInBounds_toArray, List.set_cons_zero, List.set_cons_succ]))
 refine wpRead_nil ?_
 refine wpAnyT_one 10 (by kernel_rfl) (by kernel_rfl) rfl ?_
 simp only [List.getD_cons_zero, List.getD_cons_succ]
 go_wp2_with fail
 refine ⟨⟨⟨_, ((Below.refl w.heap.size w).drew).alloc (Nat.le_refl _) _⟩, rfl⟩, ?_⟩
 refine wpAnyT_tail [11] (by kernel_rfl) (by kernel_rfl) (by kernel_rfl) ?_
 simp only [pickOps, List.getD_cons_zero, List.getD_cons_succ]
 go_wp2_with fail
 refine noPanic_normal ?_
 go_upto_region 2 with (fail)
 have HB6 := Lib.hid (((Below.refl w.heap.size w).alloc (Nat.le_refl _) (.cells #[.int .i64 x.kind, .int .i64 x.at_, .int .i64 x.nx, .string (tx x.tx), .int .i64 x.lv, .int .u64 (clsW x.cl 0), .int .u64 (clsW x.cl 1), .int .u64 (clsW x.cl 2), .int .u64 (clsW x.cl 3)] 119)).drew)
 have HW := Lib.hid (show hrow (w.alloc (.cells #[.int .i64 x.kind, .int .i64 x.at_, .int .i64 x.nx, .string (tx x.tx), .int .i64 x.lv, .int .u64 (clsW x.cl 0), .int .u64 (clsW x.cl 1), .int .u64 (clsW x.cl 2), .int .u64 (clsW x.cl 3)] 119)).drew w.heap.size #[.int .i64 x.kind, .int .i64 x.at_, .int .i64 x.nx, .string (tx x.tx), .int .i64 x.lv, .int .u64 (clsW x.cl 0), .int .u64 (clsW x.cl 1), .int .u64 (clsW x.cl 2), .int .u64 (clsW x.cl 3)] 119 from hrow.new w _ _)
 have HR6 := Lib.hid (HR.out.below HB6.out)
 clear c0 c1 HP HC HR
 generalize (w.alloc (.cells #[.int .i64 x.kind, .int .i64 x.at_, .int .i64 x.nx, .string (tx x.tx), .int .i64 x.lv, .int .u64 (clsW x.cl 0), .int .u64 (clsW x.cl 1), .int .u64 (clsW x.cl 2), .int .u64 (clsW x.cl 3)] 119)).drew = w6 at *
 obtain ⟨g5, hg5⟩ : ∃ g, w.heap.size = g := ⟨_, rfl⟩
 rw [hg5] at HW ⊢
 clear hg5
 have r3 : w6.cell? ⟨gr, 3, none⟩ = some (.int .i64 e) := HR6.out.cell 3
 have k0 : w6.cell? ⟨g5, 0, none⟩ = some (.int .i64 x.kind) := HW.out.cell 0
 by_cases he : e = 0
 ·subst he
  by_cases hk2 : x.kind = 2
  ·have q2 : ((x.kind : Int) == 2) = true := by simp; omega
   have HK := Lib.hid hk2
   clear hk2
   go_wp2_with fail
   go_ret
   exact ⟨by have := HK.out; simp [this], HB6.out⟩
  have q2 : ((x.kind : Int) == 2) = false := by simp; omega
  by_cases hk3 : x.kind = 3
  ·have q3 : ((x.kind : Int) == 3) = true := by simp; omega
   have HK := Lib.hid hk3
   clear hk2 hk3
   go_wp2_with fail
   go_ret
   exact ⟨by have := HK.out; simp [this], HB6.out⟩
  have q3 : ((x.kind : Int) == 3) = false := by simp; omega
  by_cases hk4 : x.kind = 4
  ·have q4 : ((x.kind : Int) == 4) = true := by simp; omega
   have HK := Lib.hid hk4
   clear hk2 hk3 hk4
   go_wp2_with fail
   go_ret
   exact ⟨by have := HK.out; simp [this], HB6.out⟩
  have q4 : ((x.kind : Int) == 4) = false := by simp; omega
  have HK := Lib.hid (⟨hk2, hk3, hk4⟩ : x.kind ≠ 2 ∧ x.kind ≠ 3 ∧ x.kind ≠ 4)
  clear hk2 hk3 hk4
  have G1 := Lib.hid (H1.out w6 HB6.out)
  go_wp2_with fail
  refine G1.out.mono ?_
  rintro r v1 ⟨rfl, hb⟩
  have HBv1 := Lib.hid (HB6.out.trans (hb.mono (HB6.out).size))
  clear hb G1
  cases b1 with
  | true =>
   go_wp2_with fail
   go_ret
   exact ⟨by simp, HBv1.out⟩
  | false =>
   have G2 := Lib.hid (H2.out v1 HBv1.out)
   go_wp2_with fail
   refine G2.out.mono ?_
   rintro r v2 ⟨rfl, hb⟩
   have HBv2 := Lib.hid (HBv1.out.trans (hb.mono (HBv1.out).size))
   clear hb G2
   cases b2 with
   | true =>
    go_wp2_with fail
    go_ret
    exact ⟨by simp, HBv2.out⟩
   | false =>
    have G3 := Lib.hid (H3.out v2 HBv2.out)
    go_wp2_with fail
    refine G3.out.mono ?_
    rintro r v3 ⟨rfl, hb⟩
    have HBv3 := Lib.hid (HBv2.out.trans (hb.mono (HBv2.out).size))
    clear hb G3
    cases b3 with
    | true =>
     go_wp2_with fail
     go_ret
     exact ⟨by simp, HBv3.out⟩
    | false =>
     have G4 := Lib.hid (H4.out v3 HBv3.out)
     go_wp2_with fail
     refine G4.out.mono ?_
     rintro r v4 ⟨rfl, hb⟩
     have HBv4 := Lib.hid (HBv3.out.trans (hb.mono (HBv3.out).size))
     clear hb G4
     cases b4 with
     | true =>
      go_wp2_with fail
      go_ret
      exact ⟨by simp, HBv4.out⟩
     | false =>
      go_wp2_with fail
      go_ret
      exact ⟨by obtain ⟨h2, h3, h4⟩ := HK.out; simp [h2, h3, h4], HBv4.out⟩
 ·have he0 : ((e : Int) == 0) = false := by simp; omega
  have HE := Lib.hid he
  clear he
  go_wp2_with fail
  go_ret
  exact ⟨by have := HE.out; simp [this], HB6.out⟩
end Go.Proofs.YthfefbmkgebmkaaGreatDoor
