/- Walks: words: all words of a text. -/
import Derived.Test.YtnfkcdnkmcifbaaDoorVd
namespace Go.Proofs.YtnfkcdnkmcifbaaDoor
open Go.RowKit Go.Shelf
attribute [local go_sem] Oper.semAt_some
set_option maxRecDepth 100000
set_option maxHeartbeats 1000000

theorem loadVar_plain {P : Program} {w : World} {t : TypeId} {a : Addr} {v : Value} (ht : (isAgg t).run P w = .ok false w) (h : w.cell? a = some v) : (loadVar t a).run P w = .ok v w := by
 simp [loadVar, ht, h, go_sem]
/-- Three results that lie in cells. -/
theorem results_c3 {P : Program} {fn : Func} {p q r : Tmp} {tp tq tr : TypeId} (h : fn.results = #[.cell p tp, .cell q tq, .cell r tr]) (tmps : Array Value) (w : World) (a b c : Addr) (u v z : Value)
  (hp : tmps.getD p undef = .pointer (some a)) (hq : tmps.getD q undef = .pointer (some b)) (hr : tmps.getD r undef = .pointer (some c))
  (h1 : (loadVar tp a).run P w = .ok u w) (h2 : (loadVar tq b).run P w = .ok v w) (h3 : (loadVar tr c).run P w = .ok z w) :
  (results fn tmps).run P w = .ok (.tuple #[u, v, z]) w := by
 have hp' : tmps[p]?.getD undef = .pointer (some a) := by simpa using hp
 have hq' : tmps[q]?.getD undef = .pointer (some b) := by simpa using hq
 have hr' : tmps[r]?.getD undef = .pointer (some c) := by simpa using hr
 simp [results, h, hp', hq', hr', asAddr, h1, h2, h3]
theorem owns_heap {W W' : World} {b b' e size n : Nat} {v : Value} {xs : List Value} (h : W.ownsRow b e size v n xs) (hbb : b' ≤ b) (hk : ∀ k cs t fr, b ≤ k → W.heap[k]? = some (.cells cs t fr) → W'.heap[k]? = W.heap[k]?) : W'.ownsRow b' e size v n xs := by
 refine ⟨h.1, ?_⟩
 rcases h.2 with h | ⟨g, cap, cur, h1, h2, h3, h4⟩
 ·exact .inl h
 ·exact .inr ⟨g, cap, cur, h1, Nat.le_trans hbb h2, (hk g _ _ _ h2 h3).trans h3, h4⟩
/-- What words.All tells. -/
def AllP (l : List UInt8) (w : World) (e : Ending) (w' : World) : Prop := match (wordsOf l).2 with
 | none => ∃ v, e = .returned (.tuple #[v, .int .i64 0, .int .i64 0]) ∧ Own w w' 33 9 v (wordsOf l).1.length ((wordsOf l).1.flatMap fun x => (wdD x).toList)
 | some p => e = .returned (.tuple #[.slice none 0 0, .int .i64 p, .int .i64 7]) ∧ Below w.heap.size w w'
theorem yields_of (l : List UInt8) : yieldsOf l = (wordsOf l).1.map (·, true) ++ (match (wordsOf l).2 with | some e => [(badW e, false)] | none => []) := yields_words l _ _
theorem AllI.done {w W : World} {l : List UInt8} (h : AllI w (yieldsOf l) W) : (wordsOf l).2 = none ∧ ∃ v, Boxed W w.heap.size 23 v ∧ W.ownsRow (w.heap.size + 4) 33 9 v (wordsOf l).1.length ((wordsOf l).1.flatMap fun x => (wdD x).toList) ∧ hrow W (w.heap.size + 1) #[.int .i64 0] 3 ∧ hrow W (w.heap.size + 2) #[.int .i64 0] 24 ∧ Below w.heap.size w W := by
 obtain ⟨⟨v, b1, b2⟩, a1, e1, hp, hb, _⟩ := h
 rw [yields_of] at b2 hp
 cases hq : (wordsOf l).2 with
 | some p =>
  rw [hq] at hp
  exact absurd (hp (badW p, false) (by simp)) (by simp)
 | none =>
  rw [hq] at b2
  simp only [List.append_nil, List.length_map, List.flatMap_map] at b2
  exact ⟨rfl, v, b1, b2, a1, e1, hb⟩
theorem AllX.stop {w W : World} {l : List UInt8} {pre : List (Wd × Bool)} (h : AllX w pre W) (hp : pre <+: yieldsOf l) : ∃ p, (wordsOf l).2 = some p ∧ hrow W w.heap.size #[.slice none 0 0] 23 ∧ hrow W (w.heap.size + 1) #[.int .i64 p] 3 ∧ hrow W (w.heap.size + 2) #[.int .i64 7] 24 ∧ Below w.heap.size w W := by
 obtain ⟨ws, d, rfl, h1, h2, h3, h4⟩ := h
 have hm : (d, false) ∈ yieldsOf l := hp.subset (by simp)
 rw [yields_of] at hm
 cases hq : (wordsOf l).2 with
 | none => rw [hq] at hm; simp at hm
 | some p =>
  rw [hq] at hm
  simp at hm
  subst hm
  exact ⟨p, rfl, h1, h2, h3, h4⟩
theorem all_any (s : ByteArray) (w : World) (hs : s.size ≤ 16384) : Calls Tryd.prog 6 #[.string s] w fun e w' => AllP s.data.toList w e w' := by
 refine (callsIn_wide (n := 3)).1 ?_
 refine callsIn_of_wp_marks Tryd.func6 rfl trivial ?_ rfl
 simp only [Tryd.ntmps6, List.size_toArray, List.length_cons, List.length_nil, Nat.reduceAdd, Nat.reduceSub, Array.replicate_succ, Array.replicate_zero, List.push_toArray, List.append_toArray, List.nil_append, List.cons_append]
 have hsI : ¬ (16384 : Int) < s.size := by omega
 gi_wp2
 refine ⟨trivial, (callsIn_wide.2 (each_any s _)).mono ?_⟩
 rintro e x ⟨rfl, rfl⟩
 have hcs := (hrow.new (((w.alloc (.cells #[.slice none 0 0] 23)).alloc (.cells #[.int .i64 0] 3)).alloc (.cells #[.int .i64 0] 24)) #[.string s] 9).cell 0
 have hbx := (hrow.new w #[.slice none 0 0] 23)
 have HCS := Lib.hid hcs; have HBX := Lib.hid hbx; have HS := Lib.hid hs; clear hcs hbx hs hsI
 gi_wp2
 refine wpIn_rangeFunc_ownH rfl (by omega) (gf := 20) (lb := #[.pointer (some ⟨w.heap.size + 3, 0, none⟩)]) rfl trivial (enters_of Tryd.func20 (by kernel_rfl) rfl)
  (each1_stops s (by have := HS.out; omega) w.heap.size (w.heap.size + 3) (w.heap.size + 4) _ (fun k => k = w.heap.size + 3) rfl _ (all0c w s) (by simp) ⟨none, 0, 0, all0b w s, fun a h => by cases h⟩ (by omega) (by omega))
  kpW_t (fun W l o o' _ h hc _ => kpW_b W l o o' h hc) (Below.refl _ _) (fun _ => rfl)
  (fun pre W => AllI w pre W) (fun c pre W => c = .ret ∧ AllX w pre W) (AllI.own w _ (by simp; omega)) (AllX.own w _ (by simp; omega)) (all0 w s)
  (fun x a' W => ∃ Bx, w.heap.size + 4 ≤ Bx ∧ hrow W Bx (wdD x.1) 33 ∧ a' = { tmps := #[.string s, undef, .pointer (some ⟨w.heap.size, 0, none⟩), .pointer (some ⟨w.heap.size + 1, 0, none⟩), .pointer (some ⟨w.heap.size + 2, 0, none⟩), .pointer (some ⟨Bx, 0, none⟩), .bool x.2, .string s, .int .i64 s.size, .bool false, .string s, .func (.func 20) #[] #[.pointer (some ⟨w.heap.size + 3, 0, none⟩)], .agg (wdD x.1), .bool x.2, undef, undef, undef, undef, undef, undef, undef, undef, undef], defers := [] }) (fun x a' _ W W' row ⟨Bx, h1, h2, h3⟩ hg hr => ⟨Bx, h1, h2.own hg hr, h3⟩) ?assign ?body ?done ?stop
 case assign =>
  intro l pre x W K hi hK
  have HK := Lib.hid hK; have HI := Lib.hid hi; clear hK hi
  dsimp only [enW]
  unfold wdD wdA at *
  gi_wp2
  exact HK.out _ _ ((KeepsOthers.alloc _ _).from _) (kpW_below ((Below.refl _ W).alloc (Nat.le_refl _) _)) (HI.out.below ((Below.refl _ W).alloc (Nat.le_refl _) _)) ⟨W.heap.size, HI.out.size, hrow.new _ _ _, rfl⟩
 case body =>
  rintro l pre ⟨d, q⟩ a' W hl ⟨r, hr⟩ hI ⟨Bx, hB, hW, rfl⟩ hlen
  obtain ⟨c0, c1, c2, c3, c4, c5, c6, c7, c8⟩ := hrow.c9 (show hrow W Bx #[.int .i64 d.kind, .int .i64 d.at_, .int .i64 d.nx, .string (tx d.tx), .int .i64 d.lv, .int .u64 (clsW d.cl 0), .int .u64 (clsW d.cl 1), .int .u64 (clsW d.cl 2), .int .u64 (clsW d.cl 3)] 33 from hW)
  have HI := Lib.hid hI; have HW := Lib.hid hW; have HL := Lib.hid hl
  clear hI hW hl hr
  cases q with
  | false =>
   obtain ⟨⟨v, b1, b2⟩, a1, e1, hpre, hbl, hsz⟩ := HI.out
   have k0 := b1.cell
   have k1 := a1.cell 0
   have k2 := e1.cell 0
   have f0 := hrow.frozen b1 0
   have f1 := a1.frozen 0
   have f2 := e1.frozen 0
   clear b1 b2 a1 e1 hpre hbl hsz
   gi_wp2
   have HX := Lib.hid (AllI.bad HI.out d)
   gi_region
   all_goals
    gi_wp2
    exact ⟨((((KeepsOthers.setCell _ _ _).trans (KeepsOthers.setCell _ _ _)).trans (KeepsOthers.setCell _ _ _)).trans (KeepsOthers.drew _)).from _, rfl, HX.out⟩
  | true =>
   obtain ⟨⟨v, b1, b2⟩, a1, e1, hpre, hbl, hsz⟩ := HI.out
   have k0 := b1.cell
   have f0 := hrow.frozen b1 0
   have HV := Lib.hid b2
   have HB1 := Lib.hid b1
   have HPL := Lib.hid (show pre.length ≤ 16385 by have h1 := yields_len s.data.toList (s.data.toList.length + 1) 0; have h2 := HS.out; have h3 := ba_len s; unfold yieldsOf at hlen; omega)
   have HSZ := Lib.hid hsz
   have HNH := Lib.hid (show ¬ (fun k => k = w.heap.size + 3) w.heap.size from fun h => by simp at h)
   have HOC := Lib.hid (show ∀ u ∈ (#[.int .i64 d.kind, .int .i64 d.at_, .int .i64 d.nx, .string (tx d.tx), .int .i64 d.lv, .int .u64 (clsW d.cl 0), .int .u64 (clsW d.cl 1), .int .u64 (clsW d.cl 2), .int .u64 (clsW d.cl 3)] : Array Value).toList, u.oneCell' = true by simp [Value.oneCell'])
   clear b1 b2 a1 e1 hpre hbl hsz hlen
   gi_wp2_with (gi_at_builtin; refine append_word rfl _ _ rfl (w.heap.size + 4) W pre.length _ v HV.out HSZ.out #[.int .i64 d.kind, .int .i64 d.at_, .int .i64 d.nx, .string (tx d.tx), .int .i64 d.lv, .int .u64 (clsW d.cl 0), .int .u64 (clsW d.cl 1), .int .u64 (clsW d.cl 2), .int .u64 (clsW d.cl 3)] rfl HOC.out HPL.out rfl rfl ?_; intro g c w1 hown' hgrow hat; obtain ⟨k1, k2, k3, k4⟩ := AllI.more (H := fun k => k = w.heap.size + 3) HNH.out HI.out HB1.out HV.out hown' hgrow hat; have kc := k1.cell; have kf := hrow.frozen k1 0; have K2 := Lib.hid k2; have K3 := Lib.hid k3; have K4 := Lib.hid k4; clear k1 k2 k3 k4 hown' hgrow hat)
   exact ⟨K2.out.from _, K3.out, K4.out⟩
 case done =>
  rintro D ys W hD rfl hI hK
  obtain ⟨hq, v, b1, b2, a1, e1, hb⟩ := hI.done
  obtain ⟨ao, cap, rfl, _⟩ := Sv.of_owns b2
  have HQ := Lib.hid hq; have HV := Lib.hid b2; have HB := Lib.hid hb
  have k0 := b1.cell
  have k1 := a1.cell 0
  have k2 := e1.cell 0
  have f0 := hrow.frozen b1 0
  have f1 := a1.frozen 0
  have f2 := e1.frozen 0
  clear hq b2 hb hI
  have HD := Lib.hid (show w.heap.size + 4 ≤ D by simpa using hD)
  have X0 := Lib.hid (show hrow W w.heap.size #[.slice ao (wordsOf s.data.toList).1.length cap] 23 from b1)
  have X1 := Lib.hid a1
  have X2 := Lib.hid e1
  clear b1 a1 e1 hD
  gi_wp2
  obtain ⟨W2, hW2⟩ : ∃ W2, ((W.setCell ⟨w.heap.size, 0, none⟩ (.slice ao (wordsOf s.data.toList).1.length cap)).setCell ⟨w.heap.size + 1, 0, none⟩ (.int .i64 0)).setCell ⟨w.heap.size + 1 + 1, 0, none⟩ (.int .i64 0) = W2 := ⟨_, rfl⟩
  have hb2 : ∀ k, k ≠ w.heap.size → k ≠ w.heap.size + 1 → k ≠ w.heap.size + 2 → W2.heap[k]? = W.heap[k]? := fun k h0 h1 h2 => by
   rw [← hW2]; exact (Below.heap_setCell _ _ _ k h2).trans ((Below.heap_setCell _ _ _ k h1).trans (Below.heap_setCell _ _ _ k h0))
  have hBl : Below w.heap.size w W2 := by
   rw [← hW2]; exact ((HB.out.setCell (p := ⟨w.heap.size, 0, none⟩) (Nat.le_refl _) _).setCell (p := ⟨w.heap.size + 1, 0, none⟩) (by simp) _).setCell (p := ⟨w.heap.size + 1 + 1, 0, none⟩) (by simp; omega) _
  have y0 : hrow W2 w.heap.size #[.slice ao (wordsOf s.data.toList).1.length cap] 23 := by
   rw [← hW2]; exact ((hrow.setCell X0.out 0 _).fr (Fr.setCell _ ⟨w.heap.size + 1, 0, none⟩ (.int .i64 0)) (by simp)).fr (Fr.setCell _ ⟨w.heap.size + 1 + 1, 0, none⟩ (.int .i64 0)) (by simp; omega)
  have y1 : hrow W2 (w.heap.size + 1) #[.int .i64 0] 3 := by
   rw [← hW2]; exact (hrow.setCell (X1.out.fr (Fr.setCell _ ⟨w.heap.size, 0, none⟩ _) (by simp)) 0 (.int .i64 0)).fr (Fr.setCell _ ⟨w.heap.size + 1 + 1, 0, none⟩ (.int .i64 0)) (by simp)
  have y2 : hrow W2 (w.heap.size + 2) #[.int .i64 0] 24 := by
   rw [← hW2]; exact hrow.setCell ((X2.out.fr (Fr.setCell _ ⟨w.heap.size, 0, none⟩ _) (by simp)).fr (Fr.setCell _ ⟨w.heap.size + 1, 0, none⟩ (.int .i64 0)) (by simp)) 0 (.int .i64 0)
  have hK2 : W2.heap[D]? = some (.deferred (some [])) := (hb2 D (by have := HD.out; omega) (by have := HD.out; omega) (by have := HD.out; omega)).trans hK
  rw [hW2]
  refine ⟨by simp, .inl ⟨_, _, rfl, run_takeDeferred hK2, ?_⟩⟩
  have hne : ∀ k, k < w.heap.size + 4 → k ≠ D := fun k h e => by have := HD.out; omega
  have b1' := hrow.cell ((World.putObj_heap_other (o := .deferred none) (hne (w.heap.size) (by omega))).trans y0) 0
  have a1' := hrow.cell ((World.putObj_heap_other (o := .deferred none) (hne (w.heap.size + 1) (by omega))).trans y1) 0
  have e1' := hrow.cell ((World.putObj_heap_other (o := .deferred none) (hne (w.heap.size + 2) (by omega))).trans y2) 0
  refine ⟨_, results_c3 rfl _ _ _ _ _ _ _ _ rfl rfl rfl (loadVar_plain (by simp) b1') (loadVar_plain (by simp) a1') (loadVar_plain (by simp) e1'), ?_⟩
  unfold AllP
  rw [HQ.out]
  refine ⟨_, rfl, owns_heap HV.out (by omega) (fun k cs t fr hk hc => ?_), hBl.trans (belowK_b (w := w) (Nat.le_refl _) W2 D _ _ (by have := HD.out; omega) hK2 rfl rfl)⟩
  have hkD : k ≠ D := fun e => by subst e; rw [hK] at hc; cases hc
  exact (World.putObj_heap_other hkD).trans (hb2 k (by omega) (by omega) (by omega))
 case stop =>
  rintro D c pre W hD hp ⟨rfl, hX⟩ hK
  obtain ⟨p, hq, b1, a1, e1, hb⟩ := hX.stop hp
  have HQ := Lib.hid hq; have HB := Lib.hid hb
  clear hq hb hX hp
  gi_wp2
  refine ⟨by simp, .inl ⟨_, _, rfl, run_takeDeferred hK, ?_⟩⟩
  have hne : ∀ k, k < w.heap.size + 4 → k ≠ D := fun k h e => by simp at hD; omega
  have b1' := hrow.cell ((World.putObj_heap_other (o := .deferred none) (hne (w.heap.size) (by omega))).trans b1) 0
  have a1' := hrow.cell ((World.putObj_heap_other (o := .deferred none) (hne (w.heap.size + 1) (by omega))).trans a1) 0
  have e1' := hrow.cell ((World.putObj_heap_other (o := .deferred none) (hne (w.heap.size + 2) (by omega))).trans e1) 0
  refine ⟨_, results_c3 rfl _ _ _ _ _ _ _ _ rfl rfl rfl (loadVar_plain (by simp) b1') (loadVar_plain (by simp) a1') (loadVar_plain (by simp) e1'), ?_⟩
  unfold AllP
  rw [HQ.out]
  exact ⟨rfl, HB.out.trans (belowK_b (w := w) (Nat.le_refl _) W D _ _ (by simp at hD; omega) hK rfl rfl)⟩
end Go.Proofs.YtnfkcdnkmcifbaaDoor
