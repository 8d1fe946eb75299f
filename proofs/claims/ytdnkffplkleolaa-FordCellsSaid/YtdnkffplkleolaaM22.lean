/- Walks and plain laws: Ta Tb Tc. -/
import Derived.Test.YtdnkffplkleolaaM16
import Derived.Test.YtdnkffplkleolaaM21
import Derived.StillTailTactics
import Derived.Lib.AppendZerosOnto
namespace Go.Proofs.Ytdnkffplkleolaa
open Go.RowKit Go.ChangeMaps

def ked (c : Ce) : Value := .agg #[.int .i64 c.rule, .int .i64 c.place]
def clv (c : Ce) (ao : Option Addr) (cap : Nat) : Value := .agg #[.bool c.done, .bool c.res.is, .int .i64 c.res.en, .int .i64 c.res.far, .slice ao c.res.tree.length cap]
def gcs (r : Rs) (ao : Option Addr) (cap : Nat) : Array Value := #[.bool r.is, .int .i64 r.en, .int .i64 r.far, .slice ao r.tree.length cap]
def gtv (r : Rs) (ao : Option Addr) (cap : Nat) : Value := .agg (gcs r ao cap)
/-- The entries are the cells, in their order. -/
structure EntW (es : Array MapEntry) (KS : List (Ce × (Option Addr × Nat))) : Prop where
 len : es.size = KS.length
 get : ∀ i (h : i < KS.length), ∃ q, es[i]? = some q ∧ q.key = ked (KS[i]'h).1 ∧ q.val = clv (KS[i]'h).1 (KS[i]'h).2.1 (KS[i]'h).2.2
structure TW (K : Env) (m : Nat) (w : World) (s : St) (es : Array MapEntry) (clock : Nat) (KS : List (Ce × (Option Addr × Nat))) : Prop where
 obj : hrow w K.g #[.map (some m), .bool s.round, .slice K.ro K.rn K.rc, .slice K.no K.nn K.nc, .slice K.wo K.wn K.wc] 73
 map : w.heap[m]? = some (.map es clock)
 low : Below K.base.heap.size K.base w
 hm : K.base.heap.size ≤ m
 eq : KS.map (·.1) = s.cells
 ent : EntW es KS
 trees : ∀ c ∈ KS, TrW w c.2.1 c.2.2 c.1.res.tree
/-- All but the match's own object and its map is as it was. -/
def PF (K : Env) (m : Nat) (w w' : World) : Prop := Fr (fun k => k = K.g ∨ k = m) w w'
section
variable {K : Env} {m : Nat} {w w' w'' : World} {s : St} {es : Array MapEntry} {clock : Nat} {KS : List (Ce × (Option Addr × Nat))}
theorem TW.ne (h : TW K m w s es clock KS) : m ≠ K.g := by
 intro e
 have h1 := h.map
 rw [e, h.obj.h] at h1
 cases h1
theorem TW.below (h : TW K m w s es clock KS) (hb : Below w.heap.size w w') : TW K m w' s es clock KS :=
 ⟨h.obj.below hb, (hb.block m (lt_block h.map)).trans h.map, h.low.trans (hb.mono h.low.size), h.hm, h.eq, h.ent, fun c hc => (h.trees c hc).step (.below hb)⟩
/-- A block of the match's own since its start, of another type, is written. -/
theorem TW.fr (h : TW K m w s es clock KS) {F : Nat → Prop} (hf : Fr F w w') (hF : ∀ k, F k → K.base.heap.size ≤ k ∧ ∃ cs ty, hrow w k cs ty ∧ ty ≠ 73 ∧ ty ≠ 43) : TW K m w' s es clock KS := by
 refine ⟨h.obj.fr hf (fun hx => ?_), (hf.block m (lt_block h.map) (fun hx => ?_)).trans h.map, h.low.trans (hf.below h.low.size (fun k hk hx => by have := (hF k hx).1; omega)), h.hm, h.eq, h.ent, fun c hc => sv_fr2 (h.trees c hc) hf (fun k cs hx hr => ?_)⟩
 ·obtain ⟨_, cs, ty, hr, h1, _⟩ := hF _ hx
  exact row_ne hr h.obj h1 rfl
 ·obtain ⟨_, cs, ty, hr, _⟩ := hF _ hx
  have h1 := h.map
  rw [hr.h] at h1
  cases h1
 ·obtain ⟨_, cs', ty, hr', _, h1⟩ := hF _ hx
  exact row_ne hr' hr h1 rfl
theorem TrW.pf (h : TW K m w s es clock KS) (hf : PF K m w w') {ao : Option Addr} {cap : Nat} {t : List Tw} (ht : TrW w ao cap t) : TrW w' ao cap t :=
 sv_fr2 ht hf (fun k cs e hr => by
  rcases e with e | e
  ·subst e; exact row_ne hr h.obj (by decide) rfl
  ·subst e
   have h1 := h.map
   rw [hr.h] at h1
   cases h1)
theorem hrow.pf {k : Nat} {cs : Array Value} {ty : TypeId} (h : TW K m w s es clock KS) (hf : PF K m w w') (hr : hrow w k cs ty) (ht : ty ≠ 73) : hrow w' k cs ty :=
 hr.fr hf (fun e => by
  rcases e with e | e
  ·subst e; exact row_ne hr h.obj ht rfl
  ·subst e
   have h1 := h.map
   rw [hr.h] at h1
   cases h1)
theorem PF.refl (w : World) : PF K m w w := Fr.refl _ w
theorem PF.trans (h : PF K m w w') (k : PF K m w' w'') : PF K m w w'' := Fr.trans h k (fun _ _ h => h)
theorem PF.below (hb : Below w.heap.size w w') : PF K m w w' := Fr.of_below hb
/-- A box that is newer than a world is written. -/
theorem PF.new (h : PF K m w w') {F : Nat → Prop} (hf : Fr F w' w'') (hF : ∀ k, F k → w.heap.size ≤ k) : PF K m w w'' :=
 Fr.trans h (hf.weak (G := fun k => F k ∨ k = K.g ∨ k = m) (fun _ h => .inl h)) (fun i hi h => h.elim (fun e => by have := hF i e; omega) id)
theorem TW.setRound (hK : K.base.heap.size ≤ K.g) (h : TW K m w s es clock KS) (b : Bool) : TW K m (w.setCell ⟨K.g, 1, none⟩ (.bool b)) { s with round := b } es clock KS ∧ PF K m w (w.setCell ⟨K.g, 1, none⟩ (.bool b)) := by
 have hf := Fr.setCell w ⟨K.g, 1, none⟩ (.bool b)
 refine ⟨⟨heap_setCell_same _ _ _ _ _ _ h.obj.h, (hf.block m (lt_block h.map) (fun e => h.ne e)).trans h.map, h.low.setCell (p := ⟨K.g, 1, none⟩) hK _, h.hm, h.eq, h.ent, fun c hc => sv_fr2 (h.trees c hc) hf (fun k cs e hr => ?_)⟩, hf.weak (fun k e => .inl e)⟩
 have e' : k = K.g := e
 subst e'
 exact row_ne hr h.obj (by decide) rfl
/-- The map is written. -/
theorem TW.setMap (h : TW K m w s es clock KS) {s' : St} {es' : Array MapEntry} {clock' : Nat} {KS' : List (Ce × (Option Addr × Nat))} (hr : s'.round = s.round) (he : KS'.map (·.1) = s'.cells) (hn : EntW es' KS') (ht : ∀ c ∈ KS', TrW w c.2.1 c.2.2 c.1.res.tree) :
  TW K m (setBlock w m (.map es' clock')) s' es' clock' KS' ∧ PF K m w (setBlock w m (.map es' clock')) := by
 have hl := lt_block h.map
 have hf : Fr (fun k => k = m) w (setBlock w m (.map es' clock')) := ⟨rfl, rfl, rfl, by simp [setBlock], fun k _ hk => by simp [setBlock, Array.getElem?_setIfInBounds_ne (Ne.symm hk)]⟩
 refine ⟨⟨?_, by simp [setBlock, hl], h.low.trans (hf.below h.low.size (fun k hk e => by have := h.hm; omega)), h.hm, he, hn, fun c hc => sv_fr2 (ht c hc) hf (fun k cs e hr => ?_)⟩, hf.weak (fun k e => .inr e)⟩
 ·rw [hr]; exact h.obj.fr hf (fun e => h.ne e.symm)
 ·subst e
  have h1 := h.map
  rw [hr.h] at h1
  cases h1
end

theorem cellKey : KeyT Try.prog 129 (fun v => ∃ a b, v = .agg #[.int .i64 a, .int .i64 b]) := keyPair (e := 3) (by kernel_rfl) (by kernel_rfl) (by kernel_rfl)
theorem map_und : Try.prog.underlying 69 = some (.map 129 116) := by kernel_rfl
theorem zeroCell (w : World) : (zeroValue 116).run Try.prog w = .ok (.agg #[.bool false, .bool false, .int .i64 0, .int .i64 0, .slice none 0 0]) w := by kernel_rfl
theorem EntW.keys {es : Array MapEntry} {KS : List (Ce × (Option Addr × Nat))} (h : EntW es KS) : ∀ x ∈ es.toList, ∃ c ∈ KS, x.key = ked c.1 := by
 intro x hx
 obtain ⟨i, hi, rfl⟩ := List.getElem_of_mem hx
 have hl : i < KS.length := by have := h.len; simp at hi; omega
 obtain ⟨q, hq, hk, _⟩ := h.get i hl
 refine ⟨_, List.getElem_mem hl, ?_⟩
 have e : es.toList[i]? = some q := by simpa using hq
 rw [List.getElem?_eq_getElem hi] at e
 cases e
 exact hk
theorem EntW.isKey {es : Array MapEntry} {KS : List (Ce × (Option Addr × Nat))} (h : EntW es KS) : ∀ x ∈ es.toList, ∃ a b, x.key = .agg #[.int .i64 a, .int .i64 b] := by
 intro x hx
 obtain ⟨c, _, e⟩ := h.keys x hx
 exact ⟨_, _, e⟩
theorem ked_eq {c : Ce} {rule p : Nat} (h : ked c = .agg #[.int .i64 rule, .int .i64 p]) : keyB rule p c = true := by
 simp [ked] at h
 simp [keyB]
 omega
theorem keyB_iff {c : Ce} {rule p : Nat} (h : keyB rule p c = true) : c.rule = rule ∧ c.place = p := by simpa [keyB] using h
theorem look_yes {K : Env} {m : Nat} {w : World} {s : St} {es : Array MapEntry} {clock : Nat} {KS : List (Ce × (Option Addr × Nat))} (h : TW K m w s es clock KS) {rule p : Nat} {c : Ce} (hf : s.cells.find? (keyB rule p) = some c) :
  ∃ ao cap, TrW w ao cap c.res.tree ∧ ∃ i, ∃ hi : i < KS.length, KS[i]'hi = (c, (ao, cap)) ∧ ∀ w', w'.heap[m]? = some (.map es clock) → (Instr.lookup 69 (.map (some m)) (.agg #[.int .i64 rule, .int .i64 p]) true).run Try.prog w' = .ok (.tuple #[clv c ao cap, .bool true]) w' := by
 rw [← h.eq] at hf
 obtain ⟨i, hi, he, hn⟩ := List.find?_eq_some_iff_getElem.1 hf |>.2
 have hil : i < KS.length := by simpa using hi
 have hc : (KS[i]'hil).1 = c := by simpa using he
 have hkb : keyB rule p c = true := (List.find?_eq_some_iff_append.1 hf).1
 refine ⟨(KS[i]'hil).2.1, (KS[i]'hil).2.2, by have := h.trees _ (List.getElem_mem hil); rw [hc] at this; exact this, i, hil, by rw [← hc], fun w' hw' => ?_⟩
 obtain ⟨q, hq, hk, hv⟩ := h.ent.get i hil
 have hb := keyB_iff hkb
 have hq2 : q.key = .agg #[.int .i64 rule, .int .i64 p] := by rw [hk, hc, ked, hb.1, hb.2]
 have := run_look_yes cellKey map_und hw' h.ent.isKey ⟨_, _, rfl⟩ hq hq2 (fun j hj y hy e => by
  have hjl : j < KS.length := by omega
  obtain ⟨q', hq', hk', _⟩ := h.ent.get j hjl
  rw [hq'] at hy
  cases hy
  rw [hk'] at e
  have hn' := hn j hj
  rw [List.getElem_map] at hn'
  rw [ked_eq e] at hn'
  simp at hn') true
 rw [this, hv, hc]
 rfl
theorem no_key {s : St} {es : Array MapEntry} {KS : List (Ce × (Option Addr × Nat))} (he : KS.map (·.1) = s.cells) (h : EntW es KS) {rule p : Nat} (hf : s.cells.find? (keyB rule p) = none) : ∀ x ∈ es.toList, x.key ≠ .agg #[.int .i64 rule, .int .i64 p] := by
 intro x hx e
 obtain ⟨c, hc, hk⟩ := h.keys x hx
 rw [hk] at e
 have := List.find?_eq_none.1 hf c.1 (by rw [← he]; exact List.mem_map.2 ⟨c, hc, rfl⟩)
 exact this (ked_eq e)
theorem look_no {K : Env} {m : Nat} {w : World} {s : St} {es : Array MapEntry} {clock : Nat} {KS : List (Ce × (Option Addr × Nat))} (h : TW K m w s es clock KS) {rule p : Nat} (hf : s.cells.find? (keyB rule p) = none) (w' : World) (hw' : w'.heap[m]? = some (.map es clock)) :
  (Instr.lookup 69 (.map (some m)) (.agg #[.int .i64 rule, .int .i64 p]) true).run Try.prog w' = .ok (.tuple #[.agg #[.bool false, .bool false, .int .i64 0, .int .i64 0, .slice none 0 0], .bool false]) w' :=
 run_look_no cellKey map_und hw' h.ent.isKey ⟨_, _, rfl⟩ (no_key h.eq h.ent hf) (zeroCell w') true
end Go.Proofs.Ytdnkffplkleolaa
namespace Go.Proofs.Ytdnkffplkleolaa
open Go.RowKit Go.ChangeMaps
set_option maxRecDepth 100000
set_option maxHeartbeats 1000000

theorem find_yes_true_true (K : Env) (hK : K.base.heap.size ≤ K.g) (m : Nat) (w : World) (cs : List Ce) (L : Nat) (ov : Bool) (es : Array MapEntry) (clock : Nat) (KS : List (Ce × (Option Addr × Nat))) (rule p : Nat) (ri : Bool) (re : Nat) (rf : Int) (rt : List Tw) (ao : Option Addr) (cap : Nat)
  (h : TW K m w ⟨cs, true, L, ov⟩ es clock KS) (hl : ∀ w', w'.heap[m]? = some (.map es clock) → (Instr.lookup 69 (.map (some m)) (.agg #[.int .i64 rule, .int .i64 p]) true).run Try.prog w' = .ok (.tuple #[.agg #[.bool true, .bool ri, .int .i64 re, .int .i64 rf, .slice ao rt.length cap], .bool true]) w') :
  Calls Try.prog 53 #[.pointer (some ⟨K.g, 0, none⟩), .int .i64 rule, .int .i64 p] w fun e w' => e = .returned (.tuple #[.agg #[.bool true, .bool ri, .int .i64 re, .int .i64 rf, .slice ao rt.length cap], .bool true]) ∧ TW K m w' ⟨cs, true, L, ov⟩ es clock KS ∧ PF K m w w' := by
 obtain ⟨HB0, HR0⟩ := box1 w #[.bool false, .bool false, .int .i64 0, .int .i64 0, .slice none 0 0] 116
 have H1 := Lib.hid (h.below HB0.out)
 have HLo : Hid (K.base.heap.size ≤ w.heap.size) := h.low.size
 have HL := Lib.hid hl
 clear h hl
 go_enter Try.func53, Try.ntmps53
 go_upto_region 1 with (fail)
 revert HB0 HR0 H1
 generalize w.alloc _ = w1
 generalize hh0 : w.heap.size = h0
 intro HB0 HR0 H1
 have HH0 := Lib.hid hh0
 have HF1 : Hid (PF K m w w1) := PF.below (hh0 ▸ HB0.out)
 clear HB0 hh0
 have p0 : w1.cell? ⟨K.g, 0, none⟩ = some (.map (some m)) := H1.out.obj.cell 0
 have hlk := HL.out w1 H1.out.map
 go_upto_region 2 with (fail)
 obtain ⟨HAl, H8⟩ := box1 w1 #[.bool true, .bool ri, .int .i64 re, .int .i64 rf, .slice ao rt.length cap] 116
 have H2 := Lib.hid (H1.out.below HAl.out)
 have HF2 : Hid (PF K m w (w1.alloc (.cells #[.bool true, .bool ri, .int .i64 re, .int .i64 rf, .slice ao rt.length cap] 116))) := HF1.out.trans (PF.below HAl.out)
 have HR2 := Lib.hid (HR0.out.below HAl.out)
 have HLt : Hid (h0 < w1.heap.size) := HR0.out.lt
 clear p0 hlk HAl H1 HF1 HR0 HL
 revert H8 H2 HF2 HR2 HLt
 generalize w1.alloc _ = w2
 generalize w1.heap.size = h8
 intro H8 H2 HF2 HR2 HLt
 have p1 : w2.cell? ⟨K.g, 1, none⟩ = some (.bool true) := H2.out.obj.cell 1
 have pf1 := H2.out.obj.frozen 1
 obtain ⟨b0, b1, b2, b3, b4⟩ := (H8.out).c5
 have HS := Lib.hid (H2.out.setRound hK true)
 have H83 := Lib.hid (hrow.pf H2.out HS.out.2 H8.out (by decide))
 have HR3 := Lib.hid (hrow.pf H2.out HS.out.2 HR2.out (by decide))
 have HF3 : Hid (PF K m w (w2.setCell ⟨K.g, 1, none⟩ (.bool true))) := HF2.out.trans HS.out.2
 have H3 : Hid (TW K m (w2.setCell ⟨K.g, 1, none⟩ (.bool true)) ⟨cs, true, L, ov⟩ es clock KS) := HS.out.1
 go_upto_region 3 with (fail)
 clear p1 pf1 b0 b1 b2 b3 b4 HS H8 H2 HF2 HR2
 revert H83 HR3 HF3 H3
 generalize w2.setCell _ _ = w3
 intro H83 HR3 HF3 H3
 obtain ⟨b0, b1, b2, b3, b4⟩ := (H83.out).c5
 obtain ⟨zq0, zq1, zq2, zq3, zq4⟩ := (HR3.out).c5
 obtain ⟨zf0, zf1, zf2, zf3, zf4⟩ := (HR3.out).f5
 have zr5 := set5_row (.bool true) (.bool ri) (.int .i64 re) (.int .i64 rf) (.slice ao rt.length cap) HR3.out
 have zf5 := set5_fr w3 h0 (.bool true) (.bool ri) (.int .i64 re) (.int .i64 rf) (.slice ao rt.length cap)
 unfold set5 at zr5 zf5
 have ZR5 := Lib.hid zr5
 have ZF5 := Lib.hid zf5
 clear zr5 zf5
 go_wp2_with fail
 revert ZR5 ZF5
 generalize ((((w3.setCell _ _).setCell _ _).setCell _ _).setCell _ _).setCell _ _ = wz
 intro ZR5 ZF5
 obtain ⟨zc0, zc1, zc2, zc3, zc4⟩ := (ZR5.out).c5
 exact bodyPost_ret (v := .tuple #[.agg #[.bool true, .bool ri, .int .i64 re, .int .i64 rf, .slice ao rt.length cap], .bool true]) (by simp [results, Try.results53, go_sem, zc0, zc1, zc2, zc3, zc4]) rfl ⟨rfl, H3.out.fr ZF5.out (fun k e => by have e' : k = h0 := e; subst e'; exact ⟨by have := HH0.out; have := HLo.out; omega, _, _, HR3.out, by decide, by decide⟩), HF3.out.new ZF5.out (fun k e => by have e' : k = h0 := e; have := HH0.out; omega)⟩
theorem find_yes_true_false (K : Env) (hK : K.base.heap.size ≤ K.g) (m : Nat) (w : World) (cs : List Ce) (L : Nat) (ov : Bool) (es : Array MapEntry) (clock : Nat) (KS : List (Ce × (Option Addr × Nat))) (rule p : Nat) (ri : Bool) (re : Nat) (rf : Int) (rt : List Tw) (ao : Option Addr) (cap : Nat)
  (h : TW K m w ⟨cs, true, L, ov⟩ es clock KS) (hl : ∀ w', w'.heap[m]? = some (.map es clock) → (Instr.lookup 69 (.map (some m)) (.agg #[.int .i64 rule, .int .i64 p]) true).run Try.prog w' = .ok (.tuple #[.agg #[.bool false, .bool ri, .int .i64 re, .int .i64 rf, .slice ao rt.length cap], .bool true]) w') :
  Calls Try.prog 53 #[.pointer (some ⟨K.g, 0, none⟩), .int .i64 rule, .int .i64 p] w fun e w' => e = .returned (.tuple #[.agg #[.bool false, .bool ri, .int .i64 re, .int .i64 rf, .slice ao rt.length cap], .bool true]) ∧ TW K m w' ⟨cs, true, L, ov⟩ es clock KS ∧ PF K m w w' := by
 obtain ⟨HB0, HR0⟩ := box1 w #[.bool false, .bool false, .int .i64 0, .int .i64 0, .slice none 0 0] 116
 have H1 := Lib.hid (h.below HB0.out)
 have HLo : Hid (K.base.heap.size ≤ w.heap.size) := h.low.size
 have HL := Lib.hid hl
 clear h hl
 go_enter Try.func53, Try.ntmps53
 go_upto_region 1 with (fail)
 revert HB0 HR0 H1
 generalize w.alloc _ = w1
 generalize hh0 : w.heap.size = h0
 intro HB0 HR0 H1
 have HH0 := Lib.hid hh0
 have HF1 : Hid (PF K m w w1) := PF.below (hh0 ▸ HB0.out)
 clear HB0 hh0
 have p0 : w1.cell? ⟨K.g, 0, none⟩ = some (.map (some m)) := H1.out.obj.cell 0
 have hlk := HL.out w1 H1.out.map
 go_upto_region 2 with (fail)
 obtain ⟨HAl, H8⟩ := box1 w1 #[.bool false, .bool ri, .int .i64 re, .int .i64 rf, .slice ao rt.length cap] 116
 have H2 := Lib.hid (H1.out.below HAl.out)
 have HF2 : Hid (PF K m w (w1.alloc (.cells #[.bool false, .bool ri, .int .i64 re, .int .i64 rf, .slice ao rt.length cap] 116))) := HF1.out.trans (PF.below HAl.out)
 have HR2 := Lib.hid (HR0.out.below HAl.out)
 have HLt : Hid (h0 < w1.heap.size) := HR0.out.lt
 clear p0 hlk HAl H1 HF1 HR0 HL
 revert H8 H2 HF2 HR2 HLt
 generalize w1.alloc _ = w2
 generalize w1.heap.size = h8
 intro H8 H2 HF2 HR2 HLt
 have p1 : w2.cell? ⟨K.g, 1, none⟩ = some (.bool true) := H2.out.obj.cell 1
 have pf1 := H2.out.obj.frozen 1
 obtain ⟨b0, b1, b2, b3, b4⟩ := (H8.out).c5
 have HS := Lib.hid (H2.out.setRound hK true)
 have H83 := Lib.hid (hrow.pf H2.out HS.out.2 H8.out (by decide))
 have HR3 := Lib.hid (hrow.pf H2.out HS.out.2 HR2.out (by decide))
 have HF3 : Hid (PF K m w (w2.setCell ⟨K.g, 1, none⟩ (.bool true))) := HF2.out.trans HS.out.2
 have H3 : Hid (TW K m (w2.setCell ⟨K.g, 1, none⟩ (.bool true)) ⟨cs, true, L, ov⟩ es clock KS) := HS.out.1
 go_upto_region 3 with (fail)
 clear p1 pf1 b0 b1 b2 b3 b4 HS H8 H2 HF2 HR2
 revert H83 HR3 HF3 H3
 generalize w2.setCell _ _ = w3
 intro H83 HR3 HF3 H3
 obtain ⟨b0, b1, b2, b3, b4⟩ := (H83.out).c5
 obtain ⟨zq0, zq1, zq2, zq3, zq4⟩ := (HR3.out).c5
 obtain ⟨zf0, zf1, zf2, zf3, zf4⟩ := (HR3.out).f5
 have zr5 := set5_row (.bool false) (.bool ri) (.int .i64 re) (.int .i64 rf) (.slice ao rt.length cap) HR3.out
 have zf5 := set5_fr w3 h0 (.bool false) (.bool ri) (.int .i64 re) (.int .i64 rf) (.slice ao rt.length cap)
 unfold set5 at zr5 zf5
 have ZR5 := Lib.hid zr5
 have ZF5 := Lib.hid zf5
 clear zr5 zf5
 go_wp2_with fail
 revert ZR5 ZF5
 generalize ((((w3.setCell _ _).setCell _ _).setCell _ _).setCell _ _).setCell _ _ = wz
 intro ZR5 ZF5
 obtain ⟨zc0, zc1, zc2, zc3, zc4⟩ := (ZR5.out).c5
 exact bodyPost_ret (v := .tuple #[.agg #[.bool false, .bool ri, .int .i64 re, .int .i64 rf, .slice ao rt.length cap], .bool true]) (by simp [results, Try.results53, go_sem, zc0, zc1, zc2, zc3, zc4]) rfl ⟨rfl, H3.out.fr ZF5.out (fun k e => by have e' : k = h0 := e; subst e'; exact ⟨by have := HH0.out; have := HLo.out; omega, _, _, HR3.out, by decide, by decide⟩), HF3.out.new ZF5.out (fun k e => by have e' : k = h0 := e; have := HH0.out; omega)⟩
theorem find_no_true (K : Env) (hK : K.base.heap.size ≤ K.g) (m : Nat) (w : World) (cs : List Ce) (L : Nat) (ov : Bool) (es : Array MapEntry) (clock : Nat) (KS : List (Ce × (Option Addr × Nat))) (rule p : Nat)
  (h : TW K m w ⟨cs, true, L, ov⟩ es clock KS) (hl : ∀ w', w'.heap[m]? = some (.map es clock) → (Instr.lookup 69 (.map (some m)) (.agg #[.int .i64 rule, .int .i64 p]) true).run Try.prog w' = .ok (.tuple #[.agg #[.bool false, .bool false, .int .i64 0, .int .i64 0, .slice none 0 0], .bool false]) w') :
  Calls Try.prog 53 #[.pointer (some ⟨K.g, 0, none⟩), .int .i64 rule, .int .i64 p] w fun e w' => e = .returned (.tuple #[.agg #[.bool false, .bool false, .int .i64 0, .int .i64 0, .slice none 0 0], .bool false]) ∧ TW K m w' ⟨cs, true, L, ov⟩ es clock KS ∧ PF K m w w' := by
 obtain ⟨HB0, HR0⟩ := box1 w #[.bool false, .bool false, .int .i64 0, .int .i64 0, .slice none 0 0] 116
 have H1 := Lib.hid (h.below HB0.out)
 have HLo : Hid (K.base.heap.size ≤ w.heap.size) := h.low.size
 have HL := Lib.hid hl
 clear h hl
 go_enter Try.func53, Try.ntmps53
 go_upto_region 1 with (fail)
 revert HB0 HR0 H1
 generalize w.alloc _ = w1
 generalize hh0 : w.heap.size = h0
 intro HB0 HR0 H1
 have HH0 := Lib.hid hh0
 have HF1 : Hid (PF K m w w1) := PF.below (hh0 ▸ HB0.out)
 clear HB0 hh0
 have p0 : w1.cell? ⟨K.g, 0, none⟩ = some (.map (some m)) := H1.out.obj.cell 0
 have hlk := HL.out w1 H1.out.map
 go_upto_region 2 with (fail)
 obtain ⟨HAl, H8⟩ := box1 w1 #[.bool false, .bool false, .int .i64 0, .int .i64 0, .slice none 0 0] 116
 have H2 := Lib.hid (H1.out.below HAl.out)
 have HF2 : Hid (PF K m w (w1.alloc (.cells #[.bool false, .bool false, .int .i64 0, .int .i64 0, .slice none 0 0] 116))) := HF1.out.trans (PF.below HAl.out)
 have HR2 := Lib.hid (HR0.out.below HAl.out)
 have HLt : Hid (h0 < w1.heap.size) := HR0.out.lt
 clear p0 hlk HAl H1 HF1 HR0 HL
 revert H8 H2 HF2 HR2 HLt
 generalize w1.alloc _ = w2
 generalize w1.heap.size = h8
 intro H8 H2 HF2 HR2 HLt
 have p1 : w2.cell? ⟨K.g, 1, none⟩ = some (.bool true) := H2.out.obj.cell 1
 have pf1 := H2.out.obj.frozen 1
 obtain ⟨b0, b1, b2, b3, b4⟩ := (H8.out).c5
 have HS := Lib.hid (H2.out.setRound hK true)
 have H83 := Lib.hid (hrow.pf H2.out HS.out.2 H8.out (by decide))
 have HR3 := Lib.hid (hrow.pf H2.out HS.out.2 HR2.out (by decide))
 have HF3 : Hid (PF K m w (w2.setCell ⟨K.g, 1, none⟩ (.bool true))) := HF2.out.trans HS.out.2
 have H3 : Hid (TW K m (w2.setCell ⟨K.g, 1, none⟩ (.bool true)) ⟨cs, true, L, ov⟩ es clock KS) := HS.out.1
 go_upto_region 3 with (fail)
 clear p1 pf1 b0 b1 b2 b3 b4 HS H8 H2 HF2 HR2
 revert H83 HR3 HF3 H3
 generalize w2.setCell _ _ = w3
 intro H83 HR3 HF3 H3
 obtain ⟨b0, b1, b2, b3, b4⟩ := (H83.out).c5
 obtain ⟨zq0, zq1, zq2, zq3, zq4⟩ := (HR3.out).c5
 obtain ⟨zf0, zf1, zf2, zf3, zf4⟩ := (HR3.out).f5
 have zr5 := set5_row (.bool false) (.bool false) (.int .i64 0) (.int .i64 0) (.slice none 0 0) HR3.out
 have zf5 := set5_fr w3 h0 (.bool false) (.bool false) (.int .i64 0) (.int .i64 0) (.slice none 0 0)
 unfold set5 at zr5 zf5
 have ZR5 := Lib.hid zr5
 have ZF5 := Lib.hid zf5
 clear zr5 zf5
 go_wp2_with fail
 revert ZR5 ZF5
 generalize ((((w3.setCell _ _).setCell _ _).setCell _ _).setCell _ _).setCell _ _ = wz
 intro ZR5 ZF5
 obtain ⟨zc0, zc1, zc2, zc3, zc4⟩ := (ZR5.out).c5
 exact bodyPost_ret (v := .tuple #[.agg #[.bool false, .bool false, .int .i64 0, .int .i64 0, .slice none 0 0], .bool false]) (by simp [results, Try.results53, go_sem, zc0, zc1, zc2, zc3, zc4]) rfl ⟨rfl, H3.out.fr ZF5.out (fun k e => by have e' : k = h0 := e; subst e'; exact ⟨by have := HH0.out; have := HLo.out; omega, _, _, HR3.out, by decide, by decide⟩), HF3.out.new ZF5.out (fun k e => by have e' : k = h0 := e; have := HH0.out; omega)⟩
theorem find_yes_false_true (K : Env) (hK : K.base.heap.size ≤ K.g) (m : Nat) (w : World) (cs : List Ce) (L : Nat) (ov : Bool) (es : Array MapEntry) (clock : Nat) (KS : List (Ce × (Option Addr × Nat))) (rule p : Nat) (ri : Bool) (re : Nat) (rf : Int) (rt : List Tw) (ao : Option Addr) (cap : Nat)
  (h : TW K m w ⟨cs, false, L, ov⟩ es clock KS) (hl : ∀ w', w'.heap[m]? = some (.map es clock) → (Instr.lookup 69 (.map (some m)) (.agg #[.int .i64 rule, .int .i64 p]) true).run Try.prog w' = .ok (.tuple #[.agg #[.bool true, .bool ri, .int .i64 re, .int .i64 rf, .slice ao rt.length cap], .bool true]) w') :
  Calls Try.prog 53 #[.pointer (some ⟨K.g, 0, none⟩), .int .i64 rule, .int .i64 p] w fun e w' => e = .returned (.tuple #[.agg #[.bool true, .bool ri, .int .i64 re, .int .i64 rf, .slice ao rt.length cap], .bool true]) ∧ TW K m w' ⟨cs, false, L, ov⟩ es clock KS ∧ PF K m w w' := by
 obtain ⟨HB0, HR0⟩ := box1 w #[.bool false, .bool false, .int .i64 0, .int .i64 0, .slice none 0 0] 116
 have H1 := Lib.hid (h.below HB0.out)
 have HLo : Hid (K.base.heap.size ≤ w.heap.size) := h.low.size
 have HL := Lib.hid hl
 clear h hl
 go_enter Try.func53, Try.ntmps53
 go_upto_region 1 with (fail)
 revert HB0 HR0 H1
 generalize w.alloc _ = w1
 generalize hh0 : w.heap.size = h0
 intro HB0 HR0 H1
 have HH0 := Lib.hid hh0
 have HF1 : Hid (PF K m w w1) := PF.below (hh0 ▸ HB0.out)
 clear HB0 hh0
 have p0 : w1.cell? ⟨K.g, 0, none⟩ = some (.map (some m)) := H1.out.obj.cell 0
 have hlk := HL.out w1 H1.out.map
 go_upto_region 2 with (fail)
 obtain ⟨HAl, H8⟩ := box1 w1 #[.bool true, .bool ri, .int .i64 re, .int .i64 rf, .slice ao rt.length cap] 116
 have H2 := Lib.hid (H1.out.below HAl.out)
 have HF2 : Hid (PF K m w (w1.alloc (.cells #[.bool true, .bool ri, .int .i64 re, .int .i64 rf, .slice ao rt.length cap] 116))) := HF1.out.trans (PF.below HAl.out)
 have HR2 := Lib.hid (HR0.out.below HAl.out)
 have HLt : Hid (h0 < w1.heap.size) := HR0.out.lt
 clear p0 hlk HAl H1 HF1 HR0 HL
 revert H8 H2 HF2 HR2 HLt
 generalize w1.alloc _ = w2
 generalize w1.heap.size = h8
 intro H8 H2 HF2 HR2 HLt
 have p1 : w2.cell? ⟨K.g, 1, none⟩ = some (.bool false) := H2.out.obj.cell 1
 have pf1 := H2.out.obj.frozen 1
 obtain ⟨b0, b1, b2, b3, b4⟩ := (H8.out).c5
 have HS := Lib.hid (H2.out.setRound hK false)
 have H83 := Lib.hid (hrow.pf H2.out HS.out.2 H8.out (by decide))
 have HR3 := Lib.hid (hrow.pf H2.out HS.out.2 HR2.out (by decide))
 have HF3 : Hid (PF K m w (w2.setCell ⟨K.g, 1, none⟩ (.bool false))) := HF2.out.trans HS.out.2
 have H3 : Hid (TW K m (w2.setCell ⟨K.g, 1, none⟩ (.bool false)) ⟨cs, false, L, ov⟩ es clock KS) := HS.out.1
 go_upto_region 3 with (fail)
 clear p1 pf1 b0 b1 b2 b3 b4 HS H8 H2 HF2 HR2
 revert H83 HR3 HF3 H3
 generalize w2.setCell _ _ = w3
 intro H83 HR3 HF3 H3
 obtain ⟨b0, b1, b2, b3, b4⟩ := (H83.out).c5
 obtain ⟨zq0, zq1, zq2, zq3, zq4⟩ := (HR3.out).c5
 obtain ⟨zf0, zf1, zf2, zf3, zf4⟩ := (HR3.out).f5
 have zr5 := set5_row (.bool true) (.bool ri) (.int .i64 re) (.int .i64 rf) (.slice ao rt.length cap) HR3.out
 have zf5 := set5_fr w3 h0 (.bool true) (.bool ri) (.int .i64 re) (.int .i64 rf) (.slice ao rt.length cap)
 unfold set5 at zr5 zf5
 have ZR5 := Lib.hid zr5
 have ZF5 := Lib.hid zf5
 clear zr5 zf5
 go_wp2_with fail
 revert ZR5 ZF5
 generalize ((((w3.setCell _ _).setCell _ _).setCell _ _).setCell _ _).setCell _ _ = wz
 intro ZR5 ZF5
 obtain ⟨zc0, zc1, zc2, zc3, zc4⟩ := (ZR5.out).c5
 exact bodyPost_ret (v := .tuple #[.agg #[.bool true, .bool ri, .int .i64 re, .int .i64 rf, .slice ao rt.length cap], .bool true]) (by simp [results, Try.results53, go_sem, zc0, zc1, zc2, zc3, zc4]) rfl ⟨rfl, H3.out.fr ZF5.out (fun k e => by have e' : k = h0 := e; subst e'; exact ⟨by have := HH0.out; have := HLo.out; omega, _, _, HR3.out, by decide, by decide⟩), HF3.out.new ZF5.out (fun k e => by have e' : k = h0 := e; have := HH0.out; omega)⟩
theorem find_yes_false_false (K : Env) (hK : K.base.heap.size ≤ K.g) (m : Nat) (w : World) (cs : List Ce) (L : Nat) (ov : Bool) (es : Array MapEntry) (clock : Nat) (KS : List (Ce × (Option Addr × Nat))) (rule p : Nat) (ri : Bool) (re : Nat) (rf : Int) (rt : List Tw) (ao : Option Addr) (cap : Nat)
  (h : TW K m w ⟨cs, false, L, ov⟩ es clock KS) (hl : ∀ w', w'.heap[m]? = some (.map es clock) → (Instr.lookup 69 (.map (some m)) (.agg #[.int .i64 rule, .int .i64 p]) true).run Try.prog w' = .ok (.tuple #[.agg #[.bool false, .bool ri, .int .i64 re, .int .i64 rf, .slice ao rt.length cap], .bool true]) w') :
  Calls Try.prog 53 #[.pointer (some ⟨K.g, 0, none⟩), .int .i64 rule, .int .i64 p] w fun e w' => e = .returned (.tuple #[.agg #[.bool false, .bool ri, .int .i64 re, .int .i64 rf, .slice ao rt.length cap], .bool true]) ∧ TW K m w' ⟨cs, true, L, ov⟩ es clock KS ∧ PF K m w w' := by
 obtain ⟨HB0, HR0⟩ := box1 w #[.bool false, .bool false, .int .i64 0, .int .i64 0, .slice none 0 0] 116
 have H1 := Lib.hid (h.below HB0.out)
 have HLo : Hid (K.base.heap.size ≤ w.heap.size) := h.low.size
 have HL := Lib.hid hl
 clear h hl
 go_enter Try.func53, Try.ntmps53
 go_upto_region 1 with (fail)
 revert HB0 HR0 H1
 generalize w.alloc _ = w1
 generalize hh0 : w.heap.size = h0
 intro HB0 HR0 H1
 have HH0 := Lib.hid hh0
 have HF1 : Hid (PF K m w w1) := PF.below (hh0 ▸ HB0.out)
 clear HB0 hh0
 have p0 : w1.cell? ⟨K.g, 0, none⟩ = some (.map (some m)) := H1.out.obj.cell 0
 have hlk := HL.out w1 H1.out.map
 go_upto_region 2 with (fail)
 obtain ⟨HAl, H8⟩ := box1 w1 #[.bool false, .bool ri, .int .i64 re, .int .i64 rf, .slice ao rt.length cap] 116
 have H2 := Lib.hid (H1.out.below HAl.out)
 have HF2 : Hid (PF K m w (w1.alloc (.cells #[.bool false, .bool ri, .int .i64 re, .int .i64 rf, .slice ao rt.length cap] 116))) := HF1.out.trans (PF.below HAl.out)
 have HR2 := Lib.hid (HR0.out.below HAl.out)
 have HLt : Hid (h0 < w1.heap.size) := HR0.out.lt
 clear p0 hlk HAl H1 HF1 HR0 HL
 revert H8 H2 HF2 HR2 HLt
 generalize w1.alloc _ = w2
 generalize w1.heap.size = h8
 intro H8 H2 HF2 HR2 HLt
 have p1 : w2.cell? ⟨K.g, 1, none⟩ = some (.bool false) := H2.out.obj.cell 1
 have pf1 := H2.out.obj.frozen 1
 obtain ⟨b0, b1, b2, b3, b4⟩ := (H8.out).c5
 have HS := Lib.hid (H2.out.setRound hK true)
 have H83 := Lib.hid (hrow.pf H2.out HS.out.2 H8.out (by decide))
 have HR3 := Lib.hid (hrow.pf H2.out HS.out.2 HR2.out (by decide))
 have HF3 : Hid (PF K m w (w2.setCell ⟨K.g, 1, none⟩ (.bool true))) := HF2.out.trans HS.out.2
 have H3 : Hid (TW K m (w2.setCell ⟨K.g, 1, none⟩ (.bool true)) ⟨cs, true, L, ov⟩ es clock KS) := HS.out.1
 go_upto_region 3 with (fail)
 clear p1 pf1 b0 b1 b2 b3 b4 HS H8 H2 HF2 HR2
 revert H83 HR3 HF3 H3
 generalize w2.setCell _ _ = w3
 intro H83 HR3 HF3 H3
 obtain ⟨b0, b1, b2, b3, b4⟩ := (H83.out).c5
 obtain ⟨zq0, zq1, zq2, zq3, zq4⟩ := (HR3.out).c5
 obtain ⟨zf0, zf1, zf2, zf3, zf4⟩ := (HR3.out).f5
 have zr5 := set5_row (.bool false) (.bool ri) (.int .i64 re) (.int .i64 rf) (.slice ao rt.length cap) HR3.out
 have zf5 := set5_fr w3 h0 (.bool false) (.bool ri) (.int .i64 re) (.int .i64 rf) (.slice ao rt.length cap)
 unfold set5 at zr5 zf5
 have ZR5 := Lib.hid zr5
 have ZF5 := Lib.hid zf5
 clear zr5 zf5
 go_wp2_with fail
 revert ZR5 ZF5
 generalize ((((w3.setCell _ _).setCell _ _).setCell _ _).setCell _ _).setCell _ _ = wz
 intro ZR5 ZF5
 obtain ⟨zc0, zc1, zc2, zc3, zc4⟩ := (ZR5.out).c5
 exact bodyPost_ret (v := .tuple #[.agg #[.bool false, .bool ri, .int .i64 re, .int .i64 rf, .slice ao rt.length cap], .bool true]) (by simp [results, Try.results53, go_sem, zc0, zc1, zc2, zc3, zc4]) rfl ⟨rfl, H3.out.fr ZF5.out (fun k e => by have e' : k = h0 := e; subst e'; exact ⟨by have := HH0.out; have := HLo.out; omega, _, _, HR3.out, by decide, by decide⟩), HF3.out.new ZF5.out (fun k e => by have e' : k = h0 := e; have := HH0.out; omega)⟩
theorem find_no_false (K : Env) (hK : K.base.heap.size ≤ K.g) (m : Nat) (w : World) (cs : List Ce) (L : Nat) (ov : Bool) (es : Array MapEntry) (clock : Nat) (KS : List (Ce × (Option Addr × Nat))) (rule p : Nat)
  (h : TW K m w ⟨cs, false, L, ov⟩ es clock KS) (hl : ∀ w', w'.heap[m]? = some (.map es clock) → (Instr.lookup 69 (.map (some m)) (.agg #[.int .i64 rule, .int .i64 p]) true).run Try.prog w' = .ok (.tuple #[.agg #[.bool false, .bool false, .int .i64 0, .int .i64 0, .slice none 0 0], .bool false]) w') :
  Calls Try.prog 53 #[.pointer (some ⟨K.g, 0, none⟩), .int .i64 rule, .int .i64 p] w fun e w' => e = .returned (.tuple #[.agg #[.bool false, .bool false, .int .i64 0, .int .i64 0, .slice none 0 0], .bool false]) ∧ TW K m w' ⟨cs, false, L, ov⟩ es clock KS ∧ PF K m w w' := by
 obtain ⟨HB0, HR0⟩ := box1 w #[.bool false, .bool false, .int .i64 0, .int .i64 0, .slice none 0 0] 116
 have H1 := Lib.hid (h.below HB0.out)
 have HLo : Hid (K.base.heap.size ≤ w.heap.size) := h.low.size
 have HL := Lib.hid hl
 clear h hl
 go_enter Try.func53, Try.ntmps53
 go_upto_region 1 with (fail)
 revert HB0 HR0 H1
 generalize w.alloc _ = w1
 generalize hh0 : w.heap.size = h0
 intro HB0 HR0 H1
 have HH0 := Lib.hid hh0
 have HF1 : Hid (PF K m w w1) := PF.below (hh0 ▸ HB0.out)
 clear HB0 hh0
 have p0 : w1.cell? ⟨K.g, 0, none⟩ = some (.map (some m)) := H1.out.obj.cell 0
 have hlk := HL.out w1 H1.out.map
 go_upto_region 2 with (fail)
 obtain ⟨HAl, H8⟩ := box1 w1 #[.bool false, .bool false, .int .i64 0, .int .i64 0, .slice none 0 0] 116
 have H2 := Lib.hid (H1.out.below HAl.out)
 have HF2 : Hid (PF K m w (w1.alloc (.cells #[.bool false, .bool false, .int .i64 0, .int .i64 0, .slice none 0 0] 116))) := HF1.out.trans (PF.below HAl.out)
 have HR2 := Lib.hid (HR0.out.below HAl.out)
 have HLt : Hid (h0 < w1.heap.size) := HR0.out.lt
 clear p0 hlk HAl H1 HF1 HR0 HL
 revert H8 H2 HF2 HR2 HLt
 generalize w1.alloc _ = w2
 generalize w1.heap.size = h8
 intro H8 H2 HF2 HR2 HLt
 have p1 : w2.cell? ⟨K.g, 1, none⟩ = some (.bool false) := H2.out.obj.cell 1
 have pf1 := H2.out.obj.frozen 1
 obtain ⟨b0, b1, b2, b3, b4⟩ := (H8.out).c5
 have HS := Lib.hid (H2.out.setRound hK false)
 have H83 := Lib.hid (hrow.pf H2.out HS.out.2 H8.out (by decide))
 have HR3 := Lib.hid (hrow.pf H2.out HS.out.2 HR2.out (by decide))
 have HF3 : Hid (PF K m w (w2.setCell ⟨K.g, 1, none⟩ (.bool false))) := HF2.out.trans HS.out.2
 have H3 : Hid (TW K m (w2.setCell ⟨K.g, 1, none⟩ (.bool false)) ⟨cs, false, L, ov⟩ es clock KS) := HS.out.1
 go_upto_region 3 with (fail)
 clear p1 pf1 b0 b1 b2 b3 b4 HS H8 H2 HF2 HR2
 revert H83 HR3 HF3 H3
 generalize w2.setCell _ _ = w3
 intro H83 HR3 HF3 H3
 obtain ⟨b0, b1, b2, b3, b4⟩ := (H83.out).c5
 obtain ⟨zq0, zq1, zq2, zq3, zq4⟩ := (HR3.out).c5
 obtain ⟨zf0, zf1, zf2, zf3, zf4⟩ := (HR3.out).f5
 have zr5 := set5_row (.bool false) (.bool false) (.int .i64 0) (.int .i64 0) (.slice none 0 0) HR3.out
 have zf5 := set5_fr w3 h0 (.bool false) (.bool false) (.int .i64 0) (.int .i64 0) (.slice none 0 0)
 unfold set5 at zr5 zf5
 have ZR5 := Lib.hid zr5
 have ZF5 := Lib.hid zf5
 clear zr5 zf5
 go_wp2_with fail
 revert ZR5 ZF5
 generalize ((((w3.setCell _ _).setCell _ _).setCell _ _).setCell _ _).setCell _ _ = wz
 intro ZR5 ZF5
 obtain ⟨zc0, zc1, zc2, zc3, zc4⟩ := (ZR5.out).c5
 exact bodyPost_ret (v := .tuple #[.agg #[.bool false, .bool false, .int .i64 0, .int .i64 0, .slice none 0 0], .bool false]) (by simp [results, Try.results53, go_sem, zc0, zc1, zc2, zc3, zc4]) rfl ⟨rfl, H3.out.fr ZF5.out (fun k e => by have e' : k = h0 := e; subst e'; exact ⟨by have := HH0.out; have := HLo.out; omega, _, _, HR3.out, by decide, by decide⟩), HF3.out.new ZF5.out (fun k e => by have e' : k = h0 := e; have := HH0.out; omega)⟩
theorem find_hit (K : Env) (hK : K.base.heap.size ≤ K.g) (m : Nat) (w : World) (s : St) (es : Array MapEntry) (clock : Nat) (KS : List (Ce × (Option Addr × Nat))) (rule p : Nat) (h : TW K m w s es clock KS) (c : Ce) (hf : s.cells.find? (keyB rule p) = some c) :
  Calls Try.prog 53 #[.pointer (some ⟨K.g, 0, none⟩), .int .i64 rule, .int .i64 p] w fun e w' => ∃ ao cap, e = .returned (.tuple #[clv c ao cap, .bool true]) ∧ TW K m w' { s with round := s.round || !c.done } es clock KS ∧ TrW w' ao cap c.res.tree ∧ PF K m w w' := by
 obtain ⟨ao, cap, ht, i, hi, hc, hl⟩ := look_yes h hf
 obtain ⟨cs, rd, L, ov⟩ := s
 obtain ⟨cr, cp, cd, ⟨ri, re, rf, rt, rr⟩⟩ := c
 cases rd <;> cases cd
 ·exact (find_yes_false_false K hK m w cs L ov es clock KS rule p ri re rf rt ao cap h hl).mono fun e w' ⟨h1, h2, h3⟩ => ⟨ao, cap, h1, h2, TrW.pf h h3 ht, h3⟩
 ·exact (find_yes_false_true K hK m w cs L ov es clock KS rule p ri re rf rt ao cap h hl).mono fun e w' ⟨h1, h2, h3⟩ => ⟨ao, cap, h1, h2, TrW.pf h h3 ht, h3⟩
 ·exact (find_yes_true_false K hK m w cs L ov es clock KS rule p ri re rf rt ao cap h hl).mono fun e w' ⟨h1, h2, h3⟩ => ⟨ao, cap, h1, h2, TrW.pf h h3 ht, h3⟩
 ·exact (find_yes_true_true K hK m w cs L ov es clock KS rule p ri re rf rt ao cap h hl).mono fun e w' ⟨h1, h2, h3⟩ => ⟨ao, cap, h1, h2, TrW.pf h h3 ht, h3⟩
theorem find_miss (K : Env) (hK : K.base.heap.size ≤ K.g) (m : Nat) (w : World) (s : St) (es : Array MapEntry) (clock : Nat) (KS : List (Ce × (Option Addr × Nat))) (rule p : Nat) (h : TW K m w s es clock KS) (hf : s.cells.find? (keyB rule p) = none) :
  Calls Try.prog 53 #[.pointer (some ⟨K.g, 0, none⟩), .int .i64 rule, .int .i64 p] w fun e w' => e = .returned (.tuple #[.agg #[.bool false, .bool false, .int .i64 0, .int .i64 0, .slice none 0 0], .bool false]) ∧ TW K m w' s es clock KS ∧ PF K m w w' := by
 have hl := look_no h hf
 obtain ⟨cs, rd, L, ov⟩ := s
 cases rd
 ·exact find_no_false K hK m w cs L ov es clock KS rule p h hl
 ·exact find_no_true K hK m w cs L ov es clock KS rule p h hl
theorem EntW.push {es : Array MapEntry} {KS : List (Ce × (Option Addr × Nat))} (h : EntW es KS) (c : Ce) (ao : Option Addr) (cap clock : Nat) : EntW (es.push ⟨ked c, clv c ao cap, clock⟩) (KS ++ [(c, (ao, cap))]) := by
 refine ⟨by simp [h.len], fun i hi => ?_⟩
 by_cases e : i < KS.length
 ·obtain ⟨q, hq, hk, hv⟩ := h.get i e
  have hl : i < es.size := by rw [h.len]; exact e
  refine ⟨q, ?_, ?_, ?_⟩
  ·rw [Array.getElem?_push_lt hl]; rw [Array.getElem?_eq_getElem hl] at hq; exact hq
  ·rw [List.getElem_append_left e]; exact hk
  ·rw [List.getElem_append_left e]; exact hv
 ·have e2 : i = KS.length := by simp at hi; omega
  subst e2
  refine ⟨⟨ked c, clv c ao cap, clock⟩, ?_, ?_, ?_⟩
  ·rw [← h.len]; simp
  ·simp
  ·simp
theorem EntW.set {es : Array MapEntry} {KS : List (Ce × (Option Addr × Nat))} (h : EntW es KS) {i : Nat} (c : Ce) (ao : Option Addr) (cap : Nat) (k : Value) (hk : k = ked c) : EntW (es.modify i fun e => { e with key := k, val := clv c ao cap }) (KS.set i (c, (ao, cap))) := by
 subst hk
 refine ⟨by simp [h.len], fun j hj => ?_⟩
 have hj' : j < KS.length := by simpa using hj
 obtain ⟨q, hq, hk, hv⟩ := h.get j hj'
 by_cases e : i = j
 ·subst e
  refine ⟨{ q with key := ked c, val := clv c ao cap }, ?_, ?_, ?_⟩
  ·rw [Array.getElem?_modify, hq]; simp
  ·simp
  ·simp
 ·refine ⟨q, ?_, ?_, ?_⟩
  ·rw [Array.getElem?_modify, if_neg e]; exact hq
  ·rw [List.getElem_set_ne e]; exact hk
  ·rw [List.getElem_set_ne e]; exact hv
theorem put_new (K : Env) (m : Nat) (w : World) (s : St) (es : Array MapEntry) (clock : Nat) (KS : List (Ce × (Option Addr × Nat))) (rule p : Nat) (d ri : Bool) (re : Nat) (rf : Int) (rt : List Tw) (rr : Nat) (ao : Option Addr) (cap : Nat)
  (h : TW K m w s es clock KS) (ht : TrW w ao cap rt) (hf : s.cells.find? (keyB rule p) = none) :
  Calls Try.prog 54 #[.pointer (some ⟨K.g, 0, none⟩), .int .i64 rule, .int .i64 p, .agg #[.bool d, .bool ri, .int .i64 re, .int .i64 rf, .slice ao rt.length cap]] w fun e w' => e = .returned (.tuple #[]) ∧ TW K m w' { s with cells := s.cells ++ [⟨rule, p, d, ⟨ri, re, rf, rt, rr⟩⟩] } (es.push ⟨.agg #[.int .i64 rule, .int .i64 p], (.agg #[.bool d, .bool ri, .int .i64 re, .int .i64 rf, .slice ao rt.length cap]), clock⟩) (clock + 1) (KS ++ [(⟨rule, p, d, ⟨ri, re, rf, rt, rr⟩⟩, (ao, cap))]) ∧ PF K m w w' := by
 obtain ⟨HB0, HR0⟩ := box1 w #[.bool d, .bool ri, .int .i64 re, .int .i64 rf, .slice ao rt.length cap] 116
 have H1 := Lib.hid (h.below HB0.out)
 have HT1 := Lib.hid (ht.step (.below HB0.out))
 have HMu : Hid (∀ w', w'.heap[m]? = some (.map es clock) → (Instr.mapUpdate 69 (.map (some m)) (.agg #[.int .i64 rule, .int .i64 p]) (.agg #[.bool d, .bool ri, .int .i64 re, .int .i64 rf, .slice ao rt.length cap])).run Try.prog w' = .ok () (setBlock w' m (.map (es.push ⟨.agg #[.int .i64 rule, .int .i64 p], (.agg #[.bool d, .bool ri, .int .i64 re, .int .i64 rf, .slice ao rt.length cap]), clock⟩) (clock + 1)))) :=
  fun w' hw' => run_map_new cellKey map_und hw' h.ent.isKey ⟨_, _, rfl⟩ (no_key h.eq h.ent hf)
 have HSt : Hid (∀ w', TW K m w' s es clock KS → TrW w' ao cap rt → TW K m (setBlock w' m (.map (es.push ⟨.agg #[.int .i64 rule, .int .i64 p], (.agg #[.bool d, .bool ri, .int .i64 re, .int .i64 rf, .slice ao rt.length cap]), clock⟩) (clock + 1))) { s with cells := s.cells ++ [⟨rule, p, d, ⟨ri, re, rf, rt, rr⟩⟩] } (es.push ⟨.agg #[.int .i64 rule, .int .i64 p], (.agg #[.bool d, .bool ri, .int .i64 re, .int .i64 rf, .slice ao rt.length cap]), clock⟩) (clock + 1) (KS ++ [(⟨rule, p, d, ⟨ri, re, rf, rt, rr⟩⟩, (ao, cap))]) ∧ PF K m w' (setBlock w' m (.map (es.push ⟨.agg #[.int .i64 rule, .int .i64 p], (.agg #[.bool d, .bool ri, .int .i64 re, .int .i64 rf, .slice ao rt.length cap]), clock⟩) (clock + 1)))) :=
  fun w' h' ht' => h'.setMap rfl (by simp [h'.eq]) (h'.ent.push ⟨rule, p, d, ⟨ri, re, rf, rt, rr⟩⟩ ao cap clock) (fun c hc => by
   rcases List.mem_append.1 hc with hc | hc
   ·exact h'.trees c hc
   ·simp only [List.mem_singleton] at hc; subst hc; exact ht')
 clear h ht hf
 go_enter Try.func54, Try.ntmps54
 go_upto_region 1 with (fail)
 revert HB0 HR0 H1 HT1
 generalize w.alloc _ = w1
 generalize hh0 : w.heap.size = h0
 intro HB0 HR0 H1 HT1
 have HF1 : Hid (PF K m w w1) := PF.below (hh0 ▸ HB0.out)
 clear HB0 hh0
 have p0 : w1.cell? ⟨K.g, 0, none⟩ = some (.map (some m)) := H1.out.obj.cell 0
 obtain ⟨b0, b1, b2, b3, b4⟩ := (HR0.out).c5
 go_still_tail 8, (by kernel_rfl)
 change wpList _ _ _ _ _ w1.drew
 have HD := Lib.hid ((Below.refl w1.heap.size w1).drew)
 have H2 := Lib.hid (H1.out.below HD.out)
 have HT2 := Lib.hid (HT1.out.step (.below HD.out))
 have HF2 := Lib.hid (HF1.out.trans (PF.below HD.out))
 clear p0 b0 b1 b2 b3 b4 HD H1 HF1 HR0 HT1
 revert H2 HF2 HT2
 generalize w1.drew = w2
 intro H2 HT2 HF2
 have hmu := HMu.out w2 H2.out.map
 have HS := Lib.hid (HSt.out w2 H2.out HT2.out)
 go_wp2_with fail
 go_end0
 exact ⟨rfl, HS.out.1, HF2.out.trans HS.out.2⟩
theorem put_old (K : Env) (m : Nat) (w : World) (s : St) (es : Array MapEntry) (clock : Nat) (KS : List (Ce × (Option Addr × Nat))) (rule p : Nat) (d ri : Bool) (re : Nat) (rf : Int) (rt : List Tw) (rr : Nat) (ao : Option Addr) (cap : Nat)
  (h : TW K m w s es clock KS) (ht : TrW w ao cap rt) (i : Nat) (hi : (s.cells.map key)[i]? = some (rule, p)) (hnd : (s.cells.map key).Nodup) :
  Calls Try.prog 54 #[.pointer (some ⟨K.g, 0, none⟩), .int .i64 rule, .int .i64 p, .agg #[.bool d, .bool ri, .int .i64 re, .int .i64 rf, .slice ao rt.length cap]] w fun e w' => e = .returned (.tuple #[]) ∧ TW K m w' { s with cells := s.cells.set i ⟨rule, p, d, ⟨ri, re, rf, rt, rr⟩⟩ } (es.modify i fun e => { e with key := .agg #[.int .i64 rule, .int .i64 p], val := (.agg #[.bool d, .bool ri, .int .i64 re, .int .i64 rf, .slice ao rt.length cap]) }) clock (KS.set i (⟨rule, p, d, ⟨ri, re, rf, rt, rr⟩⟩, (ao, cap))) ∧ PF K m w w' := by
 obtain ⟨HB0, HR0⟩ := box1 w #[.bool d, .bool ri, .int .i64 re, .int .i64 rf, .slice ao rt.length cap] 116
 have H1 := Lib.hid (h.below HB0.out)
 have HT1 := Lib.hid (ht.step (.below HB0.out))
 have hil : i < KS.length := by have := (List.getElem?_eq_some_iff.1 hi).1; rw [← h.eq] at this; simpa using this
 have hki : ((KS[i]'hil).1).rule = rule ∧ ((KS[i]'hil).1).place = p := by
  rw [← h.eq] at hi
  simpa [key, hil] using hi
 have HMu : Hid (∀ w', w'.heap[m]? = some (.map es clock) → (Instr.mapUpdate 69 (.map (some m)) (.agg #[.int .i64 rule, .int .i64 p]) (.agg #[.bool d, .bool ri, .int .i64 re, .int .i64 rf, .slice ao rt.length cap])).run Try.prog w' = .ok () (setBlock w' m (.map (es.modify i fun e => { e with key := .agg #[.int .i64 rule, .int .i64 p], val := (.agg #[.bool d, .bool ri, .int .i64 re, .int .i64 rf, .slice ao rt.length cap]) }) clock))) := by
  intro w' hw'
  obtain ⟨q, hq, hk, _⟩ := h.ent.get i hil
  refine run_map_old cellKey map_und hw' h.ent.isKey ⟨_, _, rfl⟩ hq (by rw [hk, ked, hki.1, hki.2]) (fun j hj y hy e => ?_)
  have hjl : j < KS.length := by omega
  obtain ⟨q', hq', hk', _⟩ := h.ent.get j hjl
  rw [hq'] at hy
  cases hy
  rw [hk'] at e
  have hb := keyB_iff (ked_eq e)
  have hj2 : (s.cells.map key)[j]? = some (rule, p) := by rw [← h.eq]; simp [hjl, key, hb.1, hb.2]
  obtain ⟨g1, g2⟩ := List.getElem?_eq_some_iff.1 hj2
  obtain ⟨g3, g4⟩ := List.getElem?_eq_some_iff.1 hi
  exact List.pairwise_iff_getElem.1 hnd j i g1 g3 hj (g2.trans g4.symm)
 have HSt : Hid (∀ w', TW K m w' s es clock KS → TrW w' ao cap rt → TW K m (setBlock w' m (.map (es.modify i fun e => { e with key := .agg #[.int .i64 rule, .int .i64 p], val := (.agg #[.bool d, .bool ri, .int .i64 re, .int .i64 rf, .slice ao rt.length cap]) }) clock)) { s with cells := s.cells.set i ⟨rule, p, d, ⟨ri, re, rf, rt, rr⟩⟩ } (es.modify i fun e => { e with key := .agg #[.int .i64 rule, .int .i64 p], val := (.agg #[.bool d, .bool ri, .int .i64 re, .int .i64 rf, .slice ao rt.length cap]) }) clock (KS.set i (⟨rule, p, d, ⟨ri, re, rf, rt, rr⟩⟩, (ao, cap))) ∧ PF K m w' (setBlock w' m (.map (es.modify i fun e => { e with key := .agg #[.int .i64 rule, .int .i64 p], val := (.agg #[.bool d, .bool ri, .int .i64 re, .int .i64 rf, .slice ao rt.length cap]) }) clock))) :=
  fun w' h' ht' => h'.setMap rfl (by rw [List.map_set, h'.eq]) (h'.ent.set ⟨rule, p, d, ⟨ri, re, rf, rt, rr⟩⟩ ao cap _ rfl) (fun c hc => (List.mem_or_eq_of_mem_set hc).elim (h'.trees c) (fun e => by rw [e]; exact ht'))
 clear h ht hi hnd hki hil
 go_enter Try.func54, Try.ntmps54
 go_upto_region 1 with (fail)
 revert HB0 HR0 H1 HT1
 generalize w.alloc _ = w1
 generalize hh0 : w.heap.size = h0
 intro HB0 HR0 H1 HT1
 have HF1 : Hid (PF K m w w1) := PF.below (hh0 ▸ HB0.out)
 clear HB0 hh0
 have p0 : w1.cell? ⟨K.g, 0, none⟩ = some (.map (some m)) := H1.out.obj.cell 0
 obtain ⟨b0, b1, b2, b3, b4⟩ := (HR0.out).c5
 go_still_tail 8, (by kernel_rfl)
 change wpList _ _ _ _ _ w1.drew
 have HD := Lib.hid ((Below.refl w1.heap.size w1).drew)
 have H2 := Lib.hid (H1.out.below HD.out)
 have HT2 := Lib.hid (HT1.out.step (.below HD.out))
 have HF2 := Lib.hid (HF1.out.trans (PF.below HD.out))
 clear p0 b0 b1 b2 b3 b4 HD H1 HF1 HR0 HT1
 revert H2 HF2 HT2
 generalize w1.drew = w2
 intro H2 HT2 HF2
 have hmu := HMu.out w2 H2.out.map
 have HS := Lib.hid (HSt.out w2 H2.out HT2.out)
 go_wp2_with fail
 go_end0
 exact ⟨rfl, HS.out.1, HF2.out.trans HS.out.2⟩
end Go.Proofs.Ytdnkffplkleolaa
namespace Go.Proofs.Ytdnkffplkleolaa
open Go.RowKit Go.ChangeMaps
set_option maxRecDepth 100000
set_option maxHeartbeats 1000000

theorem below_box {B : Nat} {w w2 wz : World} {h8 : Nat} (h : Below B w w2) (hf : Fr (fun k => k = h8) w2 wz) (hh : B ≤ h8) (hB : B ≤ w.heap.size) : Below B w wz :=
 h.trans (hf.below (Nat.le_trans hB h.size) (fun k hk e => by have e' : k = h8 := e; omega))
theorem pmiss_any (w : World) (far : Int) : Calls Try.prog 68 #[.int .i64 far] w fun e w' => e = .returned (gtv (failR far) none 0) ∧ Below w.heap.size w w' := by
 have HB := Lib.hid (fun x => al1 (Below.refl w.heap.size w) (.cells x 100))
 go_enter Try.func68, Try.ntmps68
 go_wp2_with fail
 exact bodyPost_ret (v := gtv (failR far) none 0) (by simp [results, Try.results68, go_sem, gtv, gcs, failR]) rfl ⟨rfl, HB.out _⟩
theorem pto_any (w : World) (en : Nat) : Calls Try.prog 94 #[.int .i64 en] w fun e w' => e = .returned (gtv (toR en) none 0) ∧ Below w.heap.size w w' := by
 have HB := Lib.hid (fun x => al1 (Below.refl w.heap.size w) (.cells x 100))
 go_enter Try.func94, Try.ntmps94
 go_wp2_with fail
 exact bodyPost_ret (v := gtv (toR en) none 0) (by simp [results, Try.results94, go_sem, gtv, gcs, toR]) rfl ⟨rfl, HB.out _⟩
theorem ptried_any (w : World) (r : Rs) (ao : Option Addr) (cap : Nat) (far : Int) : Calls Try.prog 95 #[gtv r ao cap, .int .i64 far] w fun e w' => e = .returned (gtv (triR r far) ao cap) ∧ Below w.heap.size w w' := by
 obtain ⟨ri, re, rf, rt, rr⟩ := r
 simp only [gtv, gcs, triR]
 obtain ⟨HB0, HR0, HZ0⟩ := box2 w #[.bool ri, .int .i64 re, .int .i64 rf, .slice ao rt.length cap] #[.bool false, .int .i64 0, .int .i64 0, .slice none 0 0] 100 100
 generalize hmx : max rf far = mx
 have HMx := Lib.hid hmx
 have hif : (if rf < far then far else rf) = mx := by rw [← hmx]; split <;> omega
 have HIf := Lib.hid hif
 clear hmx hif
 go_enter Try.func95, Try.ntmps95
 go_upto_region 1 with (fail)
 revert HB0 HR0 HZ0
 generalize (w.alloc _).alloc _ = w1
 generalize hh0 : w.heap.size + 1 = h1
 generalize hh1 : w.heap.size = h0
 intro HB0 HR0 HZ0
 have hne : h0 ≠ h1 := by omega
 have HH0 := Lib.hid hh1
 have HH1 : Hid (h0 ≤ h0 ∧ h0 ≤ h1) := ⟨by omega, by omega⟩
 clear hh0 hh1
 obtain ⟨b0, b1, b2, b3⟩ := (HR0.out).c4
 obtain ⟨bf0, bf1, bf2, bf3⟩ := (HR0.out).f4
 have HS : Hid (hrow (w1.setCell ⟨h0, 2, none⟩ (.int .i64 (if rf < far then far else rf))) h0 #[.bool ri, .int .i64 re, .int .i64 (if rf < far then far else rf), .slice ao rt.length cap] 100) := heap_setCell_same _ _ _ _ _ _ HR0.out.h
 have HZ1 := Lib.hid (HZ0.out.fr (Fr.setCell w1 ⟨h0, 2, none⟩ (.int .i64 (if rf < far then far else rf))) (fun e => hne e.symm))
 have HB1 := Lib.hid (HB0.out.setCell (p := ⟨h0, 2, none⟩) HH1.out.1 (.int .i64 (if rf < far then far else rf)))
 go_upto_region 2 with (fail)
 clear b0 b1 b2 b3 bf0 bf1 bf2 bf3 HB0 HR0 HZ0
 rw [HIf.out] at HS HZ1 HB1 ⊢
 revert HS HZ1 HB1
 generalize w1.setCell _ _ = w2
 intro HS HZ1 HB1
 obtain ⟨c0, c1, c2, c3⟩ := (HS.out).c4
 obtain ⟨zq0, zq1, zq2, zq3⟩ := (HZ1.out).c4
 obtain ⟨zf0, zf1, zf2, zf3⟩ := (HZ1.out).f4
 obtain ⟨ZR4, ZF4⟩ := set4_box (.bool ri) (.int .i64 re) (.int .i64 mx) (.slice ao rt.length cap) (HZ1.out)
 go_wp2_with fail
 revert ZR4 ZF4
 generalize (((w2.setCell _ _).setCell _ _).setCell _ _).setCell _ _ = wz
 intro ZR4 ZF4
 obtain ⟨zc0, zc1, zc2, zc3⟩ := (ZR4.out).c4
 exact bodyPost_ret (v := .agg #[.bool ri, .int .i64 re, .int .i64 mx, .slice ao rt.length cap]) (by simp [results, Try.results95, go_sem, zc0, zc1, zc2, zc3]) rfl (⟨rfl, by rw [HH0.out]; exact below_box HB1.out ZF4.out HH1.out.2 (by have := HH0.out; omega)⟩)
end Go.Proofs.Ytdnkffplkleolaa
