/- Walks and plain laws: Le Lf Lg. -/
import Derived.Test.YthfefbmkgebmkaaGreatDoorM16
import Derived.Defers
import Derived.Recover
import Derived.BigRegion
import Derived.Test.YthfefbmkgebmkaaGreatDoorM09
namespace Go.Proofs.YthfefbmkgebmkaaGreatDoor
open Go.RowKit
set_option maxRecDepth 100000
set_option maxHeartbeats 4000000

def diagE (e a : Nat) : Value := .iface 33 (.agg #[.int .i64 e, .int .i64 a])
theorem text1_idle (g2 g3 : Nat) (w : World) :
  CallsD Tryz.prog 15 #[.pointer (some ⟨g2, 0, none⟩), .pointer (some ⟨g3, 0, none⟩)] .returning w fun e u' w' => e = .returned (.tuple #[]) ∧ u' = .returning ∧ w' = w := by
 refine callsD_of_wpS Tryz.func15 rfl fun c₀ cs hu => ?_
 apply wpS_seq
 apply wpS_region
 simp [wpOpsS, go_sem, recoverD, hu, Tryz.ntmps15, Exit.thenS]
 simp only [Array.replicate_succ, Array.replicate_zero, List.push_toArray, List.append_toArray, List.nil_append, List.cons_append, List.setIfInBounds_toArray, List.set_cons_succ, List.set_cons_zero]
 refine wpS_of_wp ?_
 go_wp2_with fail
 cases c₀
 simp_all [bodyPostS, results, Tryz.results15]
theorem text1_panic (g2 g3 e0 a0 : Nat) (b0 b1 b2 b3 b4 d0 d1 : Value) (w : World) (h2 : hrow w g2 #[b0, b1, b2, b3, b4] 30) (h3 : hrow w g3 #[d0, d1] 33) (hne : g2 ≠ g3) :
  CallsD Tryz.prog 15 #[.pointer (some ⟨g2, 0, none⟩), .pointer (some ⟨g3, 0, none⟩)] (.panicking [{ v := diagE e0 a0, recovered := false }]) w fun e u' w' => e = .returned (.tuple #[]) ∧ u' = .panicking [{ v := diagE e0 a0, recovered := true }] ∧
   hrow w' g2 #[.slice none 0 0, .slice none 0 0, .slice none 0 0, .slice none 0 0, .slice none 0 0] 30 ∧ hrow w' g3 #[.int .i64 e0, .int .i64 a0] 33 ∧ Fr (fun k => k = g2 ∨ k = g3) w w' := by
 unfold diagE
 have hta : ∀ (u v : Value) (w : World), (Instr.typeAssert (.iface 33 (.agg #[u, v])) 20 33 true).run Tryz.prog w = .ok (.tuple #[.agg #[u, v], .bool true]) w := fun _ _ _ => by kernel_rfl
 refine callsD_of_wpS Tryz.func15 rfl fun c₀ cs hu => ?_
 apply wpS_seq
 apply wpS_region
 simp [wpOpsS, go_sem, recoverD, hu, Tryz.ntmps15, Exit.thenS]
 simp only [Array.replicate_succ, Array.replicate_zero, List.push_toArray, List.append_toArray, List.nil_append, List.cons_append, List.setIfInBounds_toArray, List.set_cons_succ, List.set_cons_zero]
 refine wpS_of_wp ?_
 go_wp2_with fail
 have hb := (Below.refl _ w).alloc (Nat.le_refl _) (.cells #[.int .i64 e0, .int .i64 a0] 33)
 have HX := Lib.hid (hrow.new w #[.int .i64 e0, .int .i64 a0] 33)
 have H2 := Lib.hid (h2.below hb); have H3 := Lib.hid (h3.below hb)
 have HF := Lib.hid (Fr.of_below (F := fun k => k = g2 ∨ k = g3) hb)
 have HN := Lib.hid hne
 have HL2 : Hid (g2 < w.heap.size) := h2.lt
 have HL3 : Hid (g3 < w.heap.size) := h3.lt
 clear hb h2 h3 hne hta
 revert HX H2 H3 HF HL2 HL3
 generalize w.alloc (.cells #[.int .i64 e0, .int .i64 a0] 33) = x
 generalize w.heap.size = gx
 intro HX H2 H3 HF HL2 HL3
 obtain ⟨c0, c1⟩ := HX.out.c2
 have e0' := H2.out.frozen 0; have e1 := H2.out.frozen 1; have e2 := H2.out.frozen 2; have e3 := H2.out.frozen 3; have e4 := H2.out.frozen 4
 have k0 := H2.out.cell 0; have k1 := H2.out.cell 1; have k2 := H2.out.cell 2; have k3 := H2.out.cell 3; have k4 := H2.out.cell 4
 have l0 := H3.out.cell 0; have l1 := H3.out.cell 1
 obtain ⟨m0, m1⟩ := H3.out.f2
 have n1 : gx ≠ g2 := by have := HL2.out; omega
 have n2 : gx ≠ g3 := by have := HL3.out; omega
 have n3 := HN.out
 go_region
 have hG2 : ∀ y : World, hrow y g2 #[b0, b1, b2, b3, b4] 30 → hrow (((((y.setCell ⟨g2, 0, none⟩ (.slice none 0 0)).setCell ⟨g2, 1, none⟩ (.slice none 0 0)).setCell ⟨g2, 2, none⟩ (.slice none 0 0)).setCell ⟨g2, 3, none⟩ (.slice none 0 0)).setCell ⟨g2, 4, none⟩ (.slice none 0 0)) g2 #[.slice none 0 0, .slice none 0 0, .slice none 0 0, .slice none 0 0, .slice none 0 0] 30 := fun y h =>
  ((((h.setCell 0 (.slice none 0 0)).setCell 1 (.slice none 0 0)).setCell 2 (.slice none 0 0)).setCell 3 (.slice none 0 0)).setCell 4 (.slice none 0 0)
 have hF5 : ∀ y : World, Fr (fun k => k = g2) y (((((y.setCell ⟨g2, 0, none⟩ (.slice none 0 0)).setCell ⟨g2, 1, none⟩ (.slice none 0 0)).setCell ⟨g2, 2, none⟩ (.slice none 0 0)).setCell ⟨g2, 3, none⟩ (.slice none 0 0)).setCell ⟨g2, 4, none⟩ (.slice none 0 0)) := fun y =>
  ((((Fr.setCell y ⟨g2, 0, none⟩ (.slice none 0 0)).trans (Fr.setCell _ ⟨g2, 1, none⟩ (.slice none 0 0)) (fun _ _ h => h)).trans (Fr.setCell _ ⟨g2, 2, none⟩ (.slice none 0 0)) (fun _ _ h => h)).trans (Fr.setCell _ ⟨g2, 3, none⟩ (.slice none 0 0)) (fun _ _ h => h)).trans (Fr.setCell _ ⟨g2, 4, none⟩ (.slice none 0 0)) (fun _ _ h => h)
 have h2' := hG2 x H2.out
 have hf := hF5 x
 clear hG2 hF5 c0 c1 e0' e1 e2 e3 e4 k0 k1 k2 k3 k4 l0 l1 m0 m1 n1 n2 n3
 revert h2' hf
 generalize (((((x.setCell ⟨g2, 0, none⟩ (.slice none 0 0)).setCell ⟨g2, 1, none⟩ (.slice none 0 0)).setCell ⟨g2, 2, none⟩ (.slice none 0 0)).setCell ⟨g2, 3, none⟩ (.slice none 0 0)).setCell ⟨g2, 4, none⟩ (.slice none 0 0)) = y
 intro h2' hf
 have h3' : hrow y g3 #[d0, d1] 33 := H3.out.fr hf (fun e => HN.out e.symm)
 have hf2 : Fr (fun k => k = g3) y ((y.setCell ⟨g3, 0, none⟩ (.int .i64 e0)).setCell ⟨g3, 1, none⟩ (.int .i64 a0)) := (Fr.setCell y ⟨g3, 0, none⟩ (.int .i64 e0)).trans (Fr.setCell _ ⟨g3, 1, none⟩ (.int .i64 a0)) (fun _ _ h => h)
 have h4 : hrow ((y.setCell ⟨g3, 0, none⟩ (.int .i64 e0)).setCell ⟨g3, 1, none⟩ (.int .i64 a0)) g3 #[.int .i64 e0, .int .i64 a0] 33 := (h3'.setCell 0 (.int .i64 e0)).setCell 1 (.int .i64 a0)
 have h5 := h2'.fr hf2 (fun e => HN.out e)
 have hF : Fr (fun k => k = g2 ∨ k = g3) w ((y.setCell ⟨g3, 0, none⟩ (.int .i64 e0)).setCell ⟨g3, 1, none⟩ (.int .i64 a0)) := (HF.out.trans hf (fun _ _ h => .inl h)).trans hf2 (fun _ _ h => .inr h)
 clear h2' hf h3' hf2 HX H2 H3 HF HL2 HL3
 revert h4 h5 hF
 generalize ((y.setCell ⟨g3, 0, none⟩ (.int .i64 e0)).setCell ⟨g3, 1, none⟩ (.int .i64 a0)) = z
 intro h4 h5 hF
 have hbd := (Below.refl z.heap.size z).drew
 have K2 := Lib.hid (h5.below hbd); have K3 := Lib.hid (h4.below hbd); have KF := Lib.hid (hF.trans (Fr.of_below (F := fun _ => False) hbd) (fun _ _ e => e.elim))
 clear h4 h5 hF hbd
 refine ⟨rfl, _, rfl, _, results_none rfl _ _ _, rfl, rfl, K2.out, K3.out, KF.out⟩
end Go.Proofs.YthfefbmkgebmkaaGreatDoor
namespace Go.Proofs.YthfefbmkgebmkaaGreatDoor
open Go.RowKit
set_option maxRecDepth 100000
set_option maxHeartbeats 8000000

/-- The tree that is handed back: rows of its own. -/
def TreeOut (w w' : World) (R : List Rr) (N : List Rn) (v1 v2 v3 v4 v5 : Value) : Prop := ∃ (τ : Nat → Nat) (NK : List Nk), TrR w' τ v1 v2 v3 v4 v5 (R.map Rr.ru) NK NK (R.map fun r => (r.at_ : Int)) (N.map fun x => (x.at_ : Int)) (N.map fun x => tx x.nm) ∧ NK.map (·.1) = N.map Rn.nd ∧ ∀ k, τ k ≠ 0 → w.heap.size ≤ k
theorem treeOut_nil (w w' : World) : TreeOut w w' [] [] (.slice none 0 0) (.slice none 0 0) (.slice none 0 0) (.slice none 0 0) (.slice none 0 0) :=
 ⟨fun _ => 0, [], ⟨fun _ _ => rfl, RowT.nil _ _ _ _ _, RowT.nil _ _ _ _ _, RowT.nil _ _ _ _ _, RowT.nil _ _ _ _ _, RowT.nil _ _ _ _ _, fun i h => by simp at h⟩, rfl, fun k h => absurd rfl h⟩
def TxtP (l : List UInt8) (w : World) (e : Ending) (w' : World) : Prop :=
 ∃ v1 v2 v3 v4 v5, e = .returned (.tuple #[.agg #[v1, v2, v3, v4, v5], .agg #[.int .i64 (readT l).2.1, .int .i64 (readT l).2.2]]) ∧ TreeOut w w' (readT l).1.1 (readT l).1.2 v1 v2 v3 v4 v5 ∧ Below w.heap.size w w'
/-- Behind a rule. -/
def contP (L : List Wd) (f g : Nat) (acc : List (Wd × Pt)) (j : Nat) : Option (Rs (List (Wd × Pt))) := if (wdAt L j).kind = 1 then some (.ok acc j) else rulsP L f g acc j
theorem rulsP_cont (L : List Wd) (f g : Nat) (acc : List (Wd × Pt)) (i : Nat) : rulsP L f (g + 1) acc i = match rulP L f i with
  | some (.ok x j) => contP L f g (acc ++ [x]) j
  | some (.err e a) => some (.err e a)
  | none => none := by
 conv => lhs; unfold rulsP
 cases rulP L f i with
 | none => rfl
 | some r => cases r <;> rfl
theorem results_c2 {P : Program} {fn : Func} {p q : Tmp} {tp tq : TypeId} (h : fn.results = #[.cell p tp, .cell q tq]) (tmps : Array Value) (w : World) (a b : Addr) (u v : Value)
  (hp : tmps.getD p undef = .pointer (some a)) (hq : tmps.getD q undef = .pointer (some b)) (h1 : (loadVar tp a).run P w = .ok u w) (h2 : (loadVar tq b).run P w = .ok v w) : (results fn tmps).run P w = .ok (.tuple #[u, v]) w := by
 have hp' : tmps[p]?.getD undef = .pointer (some a) := by simpa using hp
 have hq' : tmps[q]?.getD undef = .pointer (some b) := by simpa using hq
 simp [results, h, hp', hq', asAddr, h1, h2]
theorem tree_ld {y : World} {g : Nat} {v1 v2 v3 v4 v5 : Value} (h : hrow y g #[v1, v2, v3, v4, v5] 30) : (loadVar 30 ⟨g, 0, none⟩).run Tryz.prog y = .ok (.agg #[v1, v2, v3, v4, v5]) y :=
 run_loadVar_row (P := Tryz.prog) y g _ _ _ _ _ h Tryz.underlying30 rfl (by show _ = some 5; decide +kernel)
theorem diag_ld {y : World} {g : Nat} {v1 v2 : Value} (h : hrow y g #[v1, v2] 33) : (loadVar 33 ⟨g, 0, none⟩).run Tryz.prog y = .ok (.agg #[v1, v2]) y :=
 run_loadVar_row (P := Tryz.prog) y g _ _ _ _ _ h Tryz.underlying33 rfl (by show _ = some 2; decide +kernel)
/-- A tree and a diag are stored. -/
theorem stores7 {x : World} {g2 g3 : Nat} {b0 b1 b2 b3 b4 d0 d1 : Value} (u0 u1 u2 u3 u4 t0 t1 : Value) (h2 : hrow x g2 #[b0, b1, b2, b3, b4] 30) (h3 : hrow x g3 #[d0, d1] 33) (hne : g2 ≠ g3) :
  ∃ z, ((((((x.setCell ⟨g2, 0, none⟩ u0).setCell ⟨g2, 1, none⟩ u1).setCell ⟨g2, 2, none⟩ u2).setCell ⟨g2, 3, none⟩ u3).setCell ⟨g2, 4, none⟩ u4).setCell ⟨g3, 0, none⟩ t0).setCell ⟨g3, 1, none⟩ t1 = z ∧ hrow z g2 #[u0, u1, u2, u3, u4] 30 ∧ hrow z g3 #[t0, t1] 33 ∧ Fr (fun k => k = g2 ∨ k = g3) x z := by
 have hA : hrow (((((x.setCell ⟨g2, 0, none⟩ u0).setCell ⟨g2, 1, none⟩ u1).setCell ⟨g2, 2, none⟩ u2).setCell ⟨g2, 3, none⟩ u3).setCell ⟨g2, 4, none⟩ u4) g2 #[u0, u1, u2, u3, u4] 30 := ((((h2.setCell 0 u0).setCell 1 u1).setCell 2 u2).setCell 3 u3).setCell 4 u4
 have hF : Fr (fun k => k = g2) x (((((x.setCell ⟨g2, 0, none⟩ u0).setCell ⟨g2, 1, none⟩ u1).setCell ⟨g2, 2, none⟩ u2).setCell ⟨g2, 3, none⟩ u3).setCell ⟨g2, 4, none⟩ u4) := ((((Fr.setCell x ⟨g2, 0, none⟩ u0).trans (Fr.setCell _ ⟨g2, 1, none⟩ u1) (fun _ _ h => h)).trans (Fr.setCell _ ⟨g2, 2, none⟩ u2) (fun _ _ h => h)).trans (Fr.setCell _ ⟨g2, 3, none⟩ u3) (fun _ _ h => h)).trans (Fr.setCell _ ⟨g2, 4, none⟩ u4) (fun _ _ h => h)
 generalize (((((x.setCell ⟨g2, 0, none⟩ u0).setCell ⟨g2, 1, none⟩ u1).setCell ⟨g2, 2, none⟩ u2).setCell ⟨g2, 3, none⟩ u3).setCell ⟨g2, 4, none⟩ u4) = y at hA hF ⊢
 have h3' : hrow y g3 #[d0, d1] 33 := h3.fr hF (fun e => hne e.symm)
 have hf2 : Fr (fun k => k = g3) y ((y.setCell ⟨g3, 0, none⟩ t0).setCell ⟨g3, 1, none⟩ t1) := (Fr.setCell y ⟨g3, 0, none⟩ t0).trans (Fr.setCell _ ⟨g3, 1, none⟩ t1) (fun _ _ h => h)
 exact ⟨_, rfl, hA.fr hf2 (fun e => hne e), (h3'.setCell 0 t0).setCell 1 t1, (hF.weak (fun _ h => .inl h)).trans hf2 (fun _ _ h => .inr h)⟩
theorem rulP_sz {L : List Wd} (h : WsOk L) {f i j : Nat} {x : Wd × Pt} (hi : i < L.length) (e : rulP L f i = some (.ok x j)) : x.2.sz ≤ 2 * (j - i) ∧ i < j ∧ j < L.length := by
 obtain ⟨w, p⟩ := x
 obtain ⟨h1, h2, h3, h4, h5, h6⟩ := rulP_ok h hi e
 refine ⟨?_, h5, h6⟩
 unfold rulP at e
 simp only [] at e
 split at e
 ·cases e
 ·split at e
  ·rename_i hh
   have h2 := h.after h3 hh
   cases hq : prs L f .alt [] (i + 2) 0 with
   | none => rw [hq] at e; cases e
   | some r =>
    rw [hq] at e
    cases r with
    | err a b => cases e
    | ok q k =>
     have hz := prs_sz h f .alt [] (i + 2) 0 q k h2 trivial hq
     obtain ⟨b1, b2, b3⟩ := prs_bd h f .alt [] (i + 2) 0 q k h2 hq
     simp only [] at e hz b3
     split at e
     ·simp only [Option.some.injEq, Rs.ok.injEq, Prod.mk.injEq] at e
      obtain ⟨⟨-, rfl⟩, rfl⟩ := e
      simp only []
      omega
     ·cases e
  ·cases e
/-- Between two rules. -/
structure RlI (L : List Wd) (gr g2 : Nat) (w wr : World) (τ : Nat → Nat) (acc : List (Wd × Pt)) (j : Nat) : Prop where
 tr : TrW wr g2 τ (treeF 0 acc).1 (treeF 0 acc).2
 rd : RdW L (gr + 1) gr j (0 : Nat) wr
 ap : Ap τ gr g2
 lt : j < L.length
 nb : (treeF 0 acc).2.length ≤ 2 * j
 rb : (treeF 0 acc).1.length ≤ j
 dg : hrow wr (g2 + 1) #[.int .i64 0, .int .i64 0] 33
 lo : Below w.heap.size w wr
 fresh : ∀ k, τ k ≠ 0 → w.heap.size ≤ k
 g3 : g2 + 1 < gr
 le : w.heap.size ≤ g2
theorem RlI.rule {L : List Wd} {gr g2 f i : Nat} {w wr w' : World} {τ : Nat → Nat} {acc : List (Wd × Pt)} {x : Wd × Pt} {j : Nat} {e : Ending} (h : RlI L gr g2 w wr τ acc i) (hW : WsOk L) (hr : rulP L f i = some (.ok x j)) (hp : RulP L gr g2 τ (treeF 0 acc).1 (treeF 0 acc).2 (.ok x j) wr e w') : e = .returned (.tuple #[]) ∧ ∃ τ', RlI L gr g2 w w' τ' (acc ++ [x]) j := by
 obtain ⟨he, τ', h1, h2, h3, h4⟩ := hp
 obtain ⟨s1, s2, s3⟩ := rulP_sz hW h.lt hr
 obtain ⟨wd, p⟩ := x
 have hsn := treeF_snoc 0 acc wd p
 simp only [Nat.zero_add] at hsn
 have hg3 : τ (g2 + 1) = 0 := h.ap.2 _ (by have := h.g3; omega) (by omega)
 have hws : w.heap.size ≤ wr.heap.size := h.lo.size
 have hgrl := h.rd.lt
 have hgrs := h.rd.le
 refine ⟨he, τ', by rw [hsn]; exact h1, h2, ⟨h.ap.1, fun k hk hn => ?_⟩, s3, ?_, ?_, h.dg.fr h3 (fun e => ?_), ?_, fun k hk => ?_, h.g3, h.le⟩
 ·rw [h4 k (by omega)]; exact h.ap.2 k hk hn
 ·rw [hsn]; simp only [List.length_append, flat_len]; have := h.nb; simp only [] at s1; omega
 ·rw [hsn]; simp only [List.length_append, List.length_cons, List.length_nil]; have := h.rb; omega
 ·rcases e with e | e
  ·have := h.g3; omega
  ·exact e hg3
 ·exact h.lo.trans (h3.below hws (fun k hk e => by
   rcases e with e | e
   ·have := h.g3; have := h.le; omega
   ·have := h.fresh k e; omega))
 ·rcases Nat.lt_or_ge k wr.heap.size with hk1 | hk1
  ·rw [h4 k hk1] at hk; exact h.fresh k hk
  ·omega
theorem rlI_slices {L : List Wd} {gr g2 j : Nat} {w wr x : World} {τ : Nat → Nat} {acc : List (Wd × Pt)} (h : RlI L gr g2 w wr τ acc j) (hf : Fr (fun k => k = gr) wr x) : (∃ (a b c e f : Option Addr) (n1 n2 n3 n4 n5 c1 c2 c3 c4 c5 : Nat), hrow x g2 #[.slice a n1 c1, .slice b n2 c2, .slice c n3 c3, .slice e n4 c4, .slice f n5 c5] 30) ∧ hrow x (g2 + 1) #[.int .i64 0, .int .i64 0] 33 ∧ Below w.heap.size w x := by
 obtain ⟨a, b, c, e, f, n1, n2, n3, n4, n5, c1, c2, c3, c4, c5, h1⟩ := h.tr.slices
 have := h.g3
 have := h.le
 exact ⟨⟨a, b, c, e, f, n1, n2, n3, n4, n5, c1, c2, c3, c4, c5, h1.fr hf (fun e => by omega)⟩, h.dg.fr hf (fun e => by omega), h.lo.trans (hf.below h.lo.size (fun k hk e => by omega))⟩
/-- The door, where a rule was none. -/
theorem text_door {L : List Wd} {gr g2 j e0 a0 : Nat} {w wr x : World} {τ : Nat → Nat} {acc : List (Wd × Pt)} {l : List UInt8} {tmps : Array Value} (ht2 : tmps.getD 2 undef = .pointer (some ⟨g2, 0, none⟩)) (ht3 : tmps.getD 3 undef = .pointer (some ⟨g2 + 1, 0, none⟩))
  (h : RlI L gr g2 w wr τ acc j) (hf : Fr (fun k => k = gr) wr x) (hr : readT l = (([], []), e0, a0)) :
  Leaves Tryz.prog Tryz.f8 tmps (fun e w' => TxtP l w e w') [{ target := .fn (.func 15) #[.pointer (some ⟨g2, 0, none⟩), .pointer (some ⟨g2 + 1, 0, none⟩)], args := #[] }] (.panicking [{ v := diagE e0 a0, recovered := false }]) x := by
 obtain ⟨⟨a, b, c, e, f, n1, n2, n3, n4, n5, c1, c2, c3, c4, c5, h2⟩, h3, hb⟩ := rlI_slices h hf
 refine leaves_cons (f := 15) (args := #[.pointer (some ⟨g2, 0, none⟩), .pointer (some ⟨g2 + 1, 0, none⟩)]) (by simp) (by simp [go_sem]) ?_
 refine (text1_panic g2 (g2 + 1) e0 a0 _ _ _ _ _ _ _ x h2 h3 (by omega)).mono ?_
 rintro e u' w'' ⟨rfl, rfl, k2, k3, kf⟩
 refine ⟨_, results_c2 rfl _ _ _ _ _ _ ht2 ht3 (tree_ld k2) (diag_ld k3), ?_⟩
 unfold TxtP
 rw [hr]
 have := h.le
 exact ⟨_, _, _, _, _, rfl, treeOut_nil _ _, hb.trans (kf.below hb.size (fun k hk e => by omega))⟩
theorem text_walk (s : ByteArray) (w : World) (hs : s.size ≤ 16384) : Calls Tryz.prog 8 #[.string s] w fun e w' => TxtP s.data.toList w e w' := by
 have hmf : ∀ (fn : Fn) (first cap : Array Value) (w : World), (Instr.makeFunc fn first cap).run Tryz.prog w = .ok (.func fn first cap) w := fun _ _ _ _ => rfl
 have HA := Lib.hid (fun x => all_any s x hs)
 unfold AllP at HA
 cases hw : (wordsOf s.data.toList).2 with
 | some p =>
  have HRT : Hid (readT s.data.toList = (([], []), 7, p)) := by
   unfold Hid readT
   rw [hw]
  rw [hw] at HA
  simp only [] at HA
  clear hw
  go_enter_defers Tryz.func8, Tryz.ntmps8
  go_wp2_with fail
  refine (HA.out _).mono ?_
  rintro e x ⟨rfl, hb⟩
  have HB := Lib.hid hb
  clear hb HA
  have hw1 := (Below.refl _ w).alloc (Nat.le_refl _) (.cells #[.slice none 0 0, .slice none 0 0, .slice none 0 0, .slice none 0 0, .slice none 0 0] 30)
  have hw2 := hw1.alloc hw1.size (.cells #[.int .i64 0, .int .i64 0] 33)
  have h2 := ((hrow.new w #[.slice none 0 0, .slice none 0 0, .slice none 0 0, .slice none 0 0, .slice none 0 0] 30).below ((Below.refl _ _).alloc (Nat.le_refl _) (.cells #[.int .i64 0, .int .i64 0] 33))).below HB.out
  have h3 := (hrow.new (w.alloc (.cells #[.slice none 0 0, .slice none 0 0, .slice none 0 0, .slice none 0 0, .slice none 0 0] 30)) #[.int .i64 0, .int .i64 0] 33).below HB.out
  rw [World.size_alloc] at h3
  have HW := Lib.hid (hw2.trans (HB.out.mono hw2.size))
  have k0 := h2.cell 0; have k1 := h2.cell 1; have k2 := h2.cell 2; have k3 := h2.cell 3; have k4 := h2.cell 4
  have e0 := h2.frozen 0; have e1 := h2.frozen 1; have e2 := h2.frozen 2; have e3 := h2.frozen 3; have e4 := h2.frozen 4
  have l0 := h3.cell 0; have l1 := h3.cell 1; have m0 := h3.frozen 0; have m1 := h3.frozen 1
  have H2 := Lib.hid h2; have H3 := Lib.hid h3
  clear hw1 hw2 h2 h3 HB
  generalize hg2 : w.heap.size = g2 at *
  have hne : g2 ≠ g2 + 1 := by omega
  go_wp2_with fail
  clear k0 k1 k2 k3 k4 e0 e1 e2 e3 e4 l0 l1 m0 m1
  obtain ⟨z, hz, z2, z3, zf⟩ := stores7 (.slice none 0 0) (.slice none 0 0) (.slice none 0 0) (.slice none 0 0) (.slice none 0 0) (.int .i64 7) (.int .i64 p) H2.out H3.out hne
  rw [hz]
  refine ⟨_, results_c2 rfl _ _ _ _ _ _ rfl rfl (tree_ld z2) (diag_ld z3), ?_⟩
  unfold TxtP
  rw [HRT.out, hg2]
  exact ⟨_, _, _, _, _, rfl, treeOut_nil _ _, HW.out.trans (zf.below (by rw [← hg2]; exact HW.out.size) (fun k hk e => by omega))⟩
 | none =>
  have hok := (words_at hw).ok
  have hll := words_len s.data.toList
  have hsl : s.data.toList.length = s.size := ba_len s
  have HRT : Hid (readT s.data.toList = match readW (wordsOf s.data.toList).1 with | .ok x _ => (treeF 0 x, 0, 0) | .err e a => (([], []), e, a)) := by
   unfold Hid readT
   rw [hw]
   simp only []
   generalize readW (wordsOf s.data.toList).1 = r
   cases r <;> rfl
  rw [hw] at HA
  simp only [] at HA
  clear hw
  generalize (wordsOf s.data.toList).1 = L at *
  have hL2 : L.length ≤ 16385 := by omega
  have HL := Lib.hid hL2; have HW := Lib.hid hok
  obtain ⟨rr, hrr⟩ : ∃ rr, rulsP L (6 * L.length + 4) (L.length + 1) [] 0 = some rr := by
   cases h : rulsP L (6 * L.length + 4) (L.length + 1) [] 0 with
   | none => exact absurd h (rulsP_tot hok _ (Nat.le_refl _) _ _ _ hok.pos (by omega))
   | some r => exact ⟨r, rfl⟩
  have HRW : Hid (readW L = rr) := by unfold Hid readW; rw [hrr]
  rw [rulsP_cont] at hrr
  have HC := Lib.hid hrr
  clear hrr hll hsl hL2 hok
  go_enter_defers Tryz.func8, Tryz.ntmps8
  go_wp2_with fail
  refine (HA.out _).mono ?_
  rintro e x ⟨v, rfl, how, hb⟩
  obtain ⟨ao, cap, rfl, hsv⟩ := Sv.of_owns how
  have HB := Lib.hid hb
  have HSV := Lib.hid hsv
  clear hb HA how hsv
  have hw1 := (Below.refl _ w).alloc (Nat.le_refl _) (.cells #[.slice none 0 0, .slice none 0 0, .slice none 0 0, .slice none 0 0, .slice none 0 0] 30)
  have hw2 := hw1.alloc hw1.size (.cells #[.int .i64 0, .int .i64 0] 33)
  have h2 := ((hrow.new w #[.slice none 0 0, .slice none 0 0, .slice none 0 0, .slice none 0 0, .slice none 0 0] 30).below ((Below.refl _ _).alloc (Nat.le_refl _) (.cells #[.int .i64 0, .int .i64 0] 33))).below HB.out
  have h3 := (hrow.new (w.alloc (.cells #[.slice none 0 0, .slice none 0 0, .slice none 0 0, .slice none 0 0, .slice none 0 0] 30)) #[.int .i64 0, .int .i64 0] 33).below HB.out
  rw [World.size_alloc] at h3
  have HWW := Lib.hid (hw2.trans (HB.out.mono hw2.size))
  have H2 := Lib.hid h2; have H3 := Lib.hid h3
  clear hw1 hw2 h2 h3 HB
  obtain ⟨g2, hg2⟩ : ∃ g2, w.heap.size = g2 := ⟨_, rfl⟩
  rw [hg2] at H2 H3
  rw [hg2]
  have HG2 := Lib.hid hg2
  clear hg2
  go_upto_region 6 with (fail)
  have hlt2 : g2 < x.heap.size := H2.out.lt
  have hlt3 : g2 + 1 < x.heap.size := H3.out.lt
  have hba := (Below.refl _ x).alloc (Nat.le_refl _) (.cells #[.slice ao L.length cap, .int .i64 0, .int .i64 0] 61)
  have HI0 : Hid (RlI L x.heap.size g2 w (x.alloc (.cells #[.slice ao L.length cap, .int .i64 0, .int .i64 0] 61)) (fun k => if k = g2 then 1 else 0) [] 0) := {
   tr := ⟨⟨_, _, _, _, _, [], H2.out.below hba, ⟨fun k hk => if_neg (fun e => by subst e; have := (H2.out.below hba).lt; omega), RowT.nil _ _ _ _ _, RowT.nil _ _ _ _ _, RowT.nil _ _ _ _ _, RowT.nil _ _ _ _ _, RowT.nil _ _ _ _ _, fun i h => by simp at h⟩, rfl⟩, if_pos rfl⟩
   rd := RdW.start HSV.out HW.out.pos
   ap := ⟨hlt2, fun k _ hn => if_neg hn⟩
   lt := HW.out.pos
   nb := Nat.zero_le _
   rb := Nat.zero_le _
   dg := H3.out.below hba
   lo := HWW.out.trans (hba.mono HWW.out.size)
   fresh := fun k hk => by
    by_cases e : k = g2
    ·rw [e, HG2.out]; exact Nat.le_refl _
    ·simp only [if_neg e] at hk; exact absurd rfl hk
   g3 := hlt3
   le := Nat.le_of_eq HG2.out }
  clear H2 H3 HSV hba hlt2 hlt3 HWW
  revert HI0
  generalize x.alloc (.cells #[.slice ao L.length cap, .int .i64 0, .int .i64 0] 61) = x2
  generalize x.heap.size = gr
  generalize (fun k => if k = g2 then 1 else 0) = τ0
  intro HI0
  obtain ⟨r1, hr1⟩ : ∃ r1, rulP L (6 * L.length + 4) 0 = some r1 := by
   cases h : rulP L (6 * L.length + 4) 0 with
   | none => have := HC.out; rw [h] at this; cases this
   | some r => exact ⟨r, rfl⟩
  have hc := HC.out
  rw [hr1] at hc
  have HRU := Lib.hid (rule_walk L gr g2 (6 * L.length + 4) 0 τ0 _ _ x2 r1 HW.out (by have := HL.out; omega) hr1 HI0.out.rd HI0.out.lt HI0.out.tr HI0.out.ap (fun y j e => by subst e; have h1 := (rulP_sz HW.out HI0.out.lt hr1); have h2 := HL.out; have h3 := HI0.out.nb; omega) (by have := HI0.out.rb; omega))
  have HR1 := Lib.hid hr1
  clear hr1
  unfold ptr at HRU
  cases r1 with
  | err e0 a0 =>
   have hrr : rr = .err e0 a0 := by simpa using hc.symm
   clear hc
   go_wp2_with fail
   refine HRU.out.mono ?_
   rintro e x3 ⟨rfl, hf3⟩
   have HF3 := Lib.hid hf3
   clear hf3 HRU
   unfold badE
   go_wp2_with fail
   exact text_door rfl rfl HI0.out HF3.out (by rw [HRT.out, HRW.out, hrr])
  | ok y j =>
   simp only [List.nil_append] at hc
   have HC1 := Lib.hid hc
   clear hc HC
   go_wp2_with fail
   refine HRU.out.mono ?_
   intro e x3 hp
   obtain ⟨rfl, τ1, hI1⟩ := HI0.out.rule HW.out HR1.out hp
   have HI1 := Lib.hid hI1
   clear hp hI1 HRU HI0 HR1
   go_wp2_with fail
   go_loopw [] (fun wr => ∃ (acc : List (Wd × Pt)) (jj : Nat) (τ : Nat → Nat) (g : Nat), Hid (contP L (6 * L.length + 4) g acc jj = some rr) ∧ Hid (RlI L gr g2 w wr τ acc jj)) (fun wr => L.length - posOf wr gr)
   case atStart => exact ⟨_, _, _, _, HC1.out, HI1.out⟩
   case round =>
    obtain ⟨acc, jj, τ, g, HC2, HR⟩ := hrel
    have hwd := word_any2 L (gr + 1) gr jj (0 : Nat) wr HR.out.rd HR.out.lt
    have hf0 := wfld0
    unfold ptr wdD wdA at hwd
    have HWD := Lib.hid hwd
    clear hwd
    by_cases hk : (wdAt L jj).kind = 1
    ·have hkI : ((wdAt L jj).kind : Int) = 1 := by omega
     have hrr : rr = .ok acc jj := by have h := HC2.out; unfold contP at h; rw [if_pos hk] at h; simpa using h.symm
     clear hk
     go_wp2_with fail
     refine HWD.out.mono ?_
     rintro e x4 ⟨rfl, hb4⟩
     have HB4 := Lib.hid hb4
     clear hb4 HWD
     go_upto_region 9 with (fail)
     obtain ⟨⟨v1, v2, v3, v4, v5, NK, hg, htr, hnk⟩, htg⟩ := HR.out.tr.below HB4.out
     have hdg := HR.out.dg.below HB4.out
     have HLO := Lib.hid (HR.out.lo.trans (HB4.out.mono HR.out.lo.size))
     have HRF := Lib.hid HR.out
     obtain ⟨q1, d1, rfl, -⟩ := htr.t2.sv
     obtain ⟨q2, d2, rfl, -⟩ := htr.t3.sv
     obtain ⟨q3, d3, rfl, -⟩ := htr.t4.sv
     obtain ⟨q4, d4, rfl, -⟩ := htr.t5.sv
     obtain ⟨q5, d5, rfl, -⟩ := htr.t6.sv
     simp only [List.length_map] at htr hg
     have HTR := Lib.hid htr; have HNK := Lib.hid hnk; have HTG := Lib.hid htg; have HG := Lib.hid hg; have HDG := Lib.hid hdg
     have k0 := hg.cell 0; have k1 := hg.cell 1; have k2 := hg.cell 2; have k3 := hg.cell 3; have k4 := hg.cell 4
     have e0 := hg.frozen 0; have e1 := hg.frozen 1; have e2 := hg.frozen 2; have e3 := hg.frozen 3; have e4 := hg.frozen 4
     have l0 := hdg.cell 0; have l1 := hdg.cell 1; have m0 := hdg.frozen 0; have m1 := hdg.frozen 1
     have hne : g2 ≠ g2 + 1 := by omega
     clear htr hnk htg hg hdg HB4 HR HC2 HC1 HI1
     go_region
     clear k0 k1 k2 k3 k4 e0 e1 e2 e3 e4 l0 l1 m0 m1
     obtain ⟨z, hz, z2, z3, zf⟩ := stores7 (.slice q1 (treeF 0 acc).1.length d1) (.slice q2 NK.length d2) (.slice q3 (treeF 0 acc).1.length d3) (.slice q4 (treeF 0 acc).2.length d4) (.slice q5 (treeF 0 acc).2.length d5) (.int .i64 0) (.int .i64 0) HG.out HDG.out hne
     rw [hz]
     have hbd := (Below.refl z.heap.size z).drew
     have Z2 := Lib.hid (z2.below hbd); have Z3 := Lib.hid (z3.below hbd); have ZF := Lib.hid (zf.trans (Fr.of_below (F := fun _ => False) hbd) (fun _ _ e => e.elim))
     clear hz z2 z3 zf hbd
     generalize z.drew = z' at Z2 Z3 ZF ⊢
     go_wp2_with fail
     refine leaves_cons (f := 15) (args := #[.pointer (some ⟨g2, 0, none⟩), .pointer (some ⟨g2 + 1, 0, none⟩)]) (by simp) (by simp [go_sem]) ?_
     refine (text1_idle g2 (g2 + 1) _).mono ?_
     rintro e u' w'' ⟨rfl, rfl, rfl⟩
     refine ⟨_, results_c2 rfl _ _ _ _ _ _ rfl rfl (tree_ld Z2.out) (diag_ld Z3.out), ?_⟩
     unfold TxtP
     rw [HRT.out, HRW.out, hrr]
     have hg3 : τ (g2 + 1) = 0 := HRF.out.ap.2 _ (by have := HRF.out.g3; omega) (by omega)
     refine ⟨_, _, _, _, _, rfl, ⟨τ, NK, HTR.out.fr ZF.out (fun k _ h1 h2 => ?_), HNK.out, HRF.out.fresh⟩, HLO.out.trans (ZF.out.below HLO.out.size (fun k hk e => by have := HRF.out.le; omega))⟩
     rcases h2 with h2 | h2
     ·rw [h2, HTG.out] at h1; omega
     ·rw [h2, hg3] at h1; omega
    ·have hkI : ¬ ((wdAt L jj).kind : Int) = 1 := by omega
     have hc := HC2.out
     unfold contP at hc
     rw [if_neg hk] at hc
     cases g with
     | zero => exact absurd hc (by simp [rulsP])
     | succ g =>
     rw [rulsP_cont] at hc
     obtain ⟨r1, hr1⟩ : ∃ r1, rulP L (6 * L.length + 4) jj = some r1 := by
      cases h : rulP L (6 * L.length + 4) jj with
      | none => rw [h] at hc; cases hc
      | some r => exact ⟨r, rfl⟩
     rw [hr1] at hc
     clear hk HC2
     go_wp2_with fail
     refine HWD.out.mono ?_
     rintro e x4 ⟨rfl, hb4⟩
     have HR4 : Hid (RlI L gr g2 w x4 τ acc jj) := { tr := HR.out.tr.below hb4, rd := HR.out.rd.below hb4, ap := HR.out.ap, lt := HR.out.lt, nb := HR.out.nb, rb := HR.out.rb, dg := HR.out.dg.below hb4, lo := HR.out.lo.trans (hb4.mono HR.out.lo.size), fresh := HR.out.fresh, g3 := HR.out.g3, le := HR.out.le }
     have HPOS := Lib.hid HR.out.rd.pos
     have HRU := Lib.hid (rule_walk L gr g2 (6 * L.length + 4) jj τ _ _ x4 r1 HW.out (by have := HL.out; omega) hr1 HR4.out.rd HR4.out.lt HR4.out.tr HR4.out.ap (fun y j e => by subst e; have h1 := (rulP_sz HW.out HR4.out.lt hr1); have h2 := HL.out; have h3 := HR4.out.nb; omega) (by have h1 := HR4.out.rb; have h2 := HR4.out.lt; have h3 := HL.out; omega))
     have HR1 := Lib.hid hr1
     clear hb4 HWD HR hr1
     unfold ptr at HRU
     cases r1 with
     | err e0 a0 =>
      have hrr : rr = .err e0 a0 := by simpa using hc.symm
      clear hc
      go_wp2_with fail
      refine HRU.out.mono ?_
      rintro e x5 ⟨rfl, hf5⟩
      have HF5 := Lib.hid hf5
      clear hf5 HRU
      unfold badE
      go_wp2_with fail
      exact text_door rfl rfl HR4.out HF5.out (by rw [HRT.out, HRW.out, hrr])
     | ok y j =>
      have HC3 := Lib.hid hc
      clear hc
      go_wp2_with fail
      refine HRU.out.mono ?_
      intro e x5 hp
      obtain ⟨rfl, τ5, hI5⟩ := HR4.out.rule HW.out HR1.out hp
      have HI5 := Lib.hid hI5
      have HJ := Lib.hid (rulP_sz HW.out HR4.out.lt HR1.out)
      clear hp hI5 HRU HR1
      go_wp2_with fail
      go_roundw
      case rel => exact ⟨_, _, _, _, HC3.out, HI5.out⟩
      case measure =>
       have h1 := HI5.out.rd.pos; have h2 := HPOS.out; have h3 := HJ.out; have h4 := HR4.out.lt
       rw [h1, h2]; omega
end Go.Proofs.YthfefbmkgebmkaaGreatDoor
namespace Go.Proofs.YthfefbmkgebmkaaGreatDoor
open Go.RowKit
set_option maxRecDepth 100000
set_option maxHeartbeats 8000000

/-- The five slices of a tree that was read, as a grammar that lies in memory. -/
theorem TreeOut.gr {w w' : World} {R : List Rr} {N : List Rn} {v1 v2 v3 v4 v5 : Value} (h : TreeOut w w' R N v1 v2 v3 v4 v5) (hN : ∀ x ∈ N, x.tx.length ≤ 1000000) (hR : ∀ r ∈ R, r.nm.length ≤ 1000000) :
  ∃ (ro no ao bo co : Option Addr) (rc nc ac bc cc : Nat) (NK : List Nk), v1 = .slice ro R.length rc ∧ v2 = .slice no N.length nc ∧ v3 = .slice ao R.length ac ∧ v4 = .slice bo N.length bc ∧ v5 = .slice co N.length cc ∧
   GrW w' ro R.length rc no N.length nc NK ⟨R.map Rr.ru, N.map Rn.nd⟩ ∧ Sv w' ao R.length ac 1 (inc (R.map fun r => (r.at_ : Int))) ∧ Sv w' bo N.length bc 1 (inc (N.map fun x => (x.at_ : Int))) ∧ Sv w' co N.length cc 1 ((N.map fun x => tx x.nm).map Value.string) := by
 obtain ⟨τ, NK, h2, h3, h4⟩ := h
 have hl : NK.length = N.length := by have := congrArg List.length h3; simpa using this
 obtain ⟨ro, rc, rfl, s1⟩ := h2.t2.sv
 obtain ⟨no, nc, rfl, s2⟩ := h2.t3.sv
 obtain ⟨ao, ac, rfl, s3⟩ := h2.t4.sv
 obtain ⟨bo, bc, rfl, s4⟩ := h2.t5.sv
 obtain ⟨co, cc, rfl, s5⟩ := h2.t6.sv
 simp only [List.length_map, hl] at s1 s2 s3 s4 s5
 refine ⟨ro, no, ao, bo, co, rc, nc, ac, bc, cc, NK, by rw [List.length_map], by rw [hl], by rw [List.length_map], by rw [List.length_map], by rw [List.length_map], ⟨s1, fun r hr => ?_, ⟨s2, fun p hp => ?_, fun p hp => ?_⟩, h3⟩, s3, s4, s5⟩
 ·obtain ⟨r', hr', rfl⟩ := List.mem_map.1 hr
  have := hR r' hr'
  show (tx r'.nm).size ≤ _
  rw [tx_size]; omega
 ·obtain ⟨i, hi, rfl⟩ := List.mem_iff_getElem.1 hp
  obtain ⟨a, c, e, s⟩ := (h2.kid i hi).sv
  cases e
  exact s
 ·have hm : p.1 ∈ N.map Rn.nd := h3 ▸ List.mem_map_of_mem hp
  obtain ⟨x, hx, e⟩ := List.mem_map.1 hm
  have := hN x hx
  rw [← e]
  show (tx x.tx).size ≤ _
  rw [tx_size]; omega
def exR : List Rr := [⟨[65], 0, 0⟩]
def exN : List Rn := [⟨7, [], [], 0, [1, 4], 5, []⟩, ⟨11, [], [], 0, [2], 5, []⟩, ⟨8, [], [], 0, [3], 9, []⟩, ⟨4, [], [97], 0, [], 6, []⟩, ⟨6, [], [], 0, [5, 6], 13, []⟩, ⟨5, [], [], 2, [], 13, [66]⟩, ⟨1, [], [], 0, [], 17, []⟩]
theorem ex_read : readT [65, 32, 60, 45, 32, 33, 34, 97, 34, 42, 32, 47, 32, 66, 58, 50, 32, 40, 41, 59] = ((exR, exN), 0, 0) := by decide +kernel
def exK (g : Nat) : List Nk := [(Rn.nd ⟨7, [], [], 0, [1, 4], 5, []⟩, (some ⟨g + 1, 0, none⟩, 2)), (Rn.nd ⟨11, [], [], 0, [2], 5, []⟩, (some ⟨g + 1 + 1, 0, none⟩, 1)), (Rn.nd ⟨8, [], [], 0, [3], 9, []⟩, (some ⟨g + 1 + 1 + 1, 0, none⟩, 1)), (Rn.nd ⟨4, [], [97], 0, [], 6, []⟩, (none, 0)), (Rn.nd ⟨6, [], [], 0, [5, 6], 13, []⟩, (some ⟨g + 1 + 1 + 1 + 1, 0, none⟩, 2)), (Rn.nd ⟨5, [], [], 2, [], 13, [66]⟩, (none, 0)), (Rn.nd ⟨1, [], [], 0, [], 17, []⟩, (none, 0))]
def exNd (g : Nat) : Array Value := ((exK g).flatMap ndc).toArray
def exW (x : World) (g : Nat) : World := (((((x.alloc (.cells #[.string ⟨#[65]⟩, .int .i64 0] 48)).alloc (.cells #[.int .i64 1, .int .i64 4] 3)).alloc (.cells #[.int .i64 2] 3)).alloc (.cells #[.int .i64 3] 3)).alloc (.cells #[.int .i64 5, .int .i64 6] 3)).alloc (.cells (exNd g) 41)
theorem Sv.none0 (w : World) : Sv w none 0 0 1 (inc []) := ⟨rfl, Nat.le_refl _, Nat.zero_le _, fun _ => rfl, fun j hj => by simp [inc] at hj⟩
/-- The grammar of the example, as it is laid. -/
theorem ex_gram (x : World) (g : Nat) (hg : x.heap.size = g) : GrW (exW x g) (some ⟨g, 0, none⟩) 1 1 (some ⟨g + 1 + 1 + 1 + 1 + 1, 0, none⟩) 7 7 (exK g) ⟨exR.map Rr.ru, exN.map Rn.nd⟩ := by
 subst hg
 have b1 := fun (a : World) (o : Obj) => (Below.refl _ a).alloc (Nat.le_refl _) o
 have s0 := Sv.lit x 48 #[.string ⟨#[65]⟩, .int .i64 0] 1 2 (by unfold maxLen; omega) rfl
 have k0 := Sv.lit (x.alloc (.cells #[.string ⟨#[65]⟩, .int .i64 0] 48)) 3 #[.int .i64 1, .int .i64 4] 2 1 (by unfold maxLen; omega) rfl
 have k1 := Sv.lit ((x.alloc (.cells #[.string ⟨#[65]⟩, .int .i64 0] 48)).alloc (.cells #[.int .i64 1, .int .i64 4] 3)) 3 #[.int .i64 2] 1 1 (by unfold maxLen; omega) rfl
 have k2 := Sv.lit (((x.alloc (.cells #[.string ⟨#[65]⟩, .int .i64 0] 48)).alloc (.cells #[.int .i64 1, .int .i64 4] 3)).alloc (.cells #[.int .i64 2] 3)) 3 #[.int .i64 3] 1 1 (by unfold maxLen; omega) rfl
 have k4 := Sv.lit ((((x.alloc (.cells #[.string ⟨#[65]⟩, .int .i64 0] 48)).alloc (.cells #[.int .i64 1, .int .i64 4] 3)).alloc (.cells #[.int .i64 2] 3)).alloc (.cells #[.int .i64 3] 3)) 3 #[.int .i64 5, .int .i64 6] 2 1 (by unfold maxLen; omega) rfl
 have nn := Sv.lit (((((x.alloc (.cells #[.string ⟨#[65]⟩, .int .i64 0] 48)).alloc (.cells #[.int .i64 1, .int .i64 4] 3)).alloc (.cells #[.int .i64 2] 3)).alloc (.cells #[.int .i64 3] 3)).alloc (.cells #[.int .i64 5, .int .i64 6] 3)) 41 (exNd x.heap.size) 7 9 (by unfold maxLen; omega) rfl
 simp only [World.size_alloc] at k0 k1 k2 k4 nn
 unfold exW
 refine ⟨?e0, by decide, ⟨nn, fun p hp => ?_, ?_⟩, rfl⟩
 case e0 => exact ((((s0.below (b1 _ _)).below (b1 _ _)).below (b1 _ _)).below (b1 _ _)).below (b1 _ _)
 ·simp only [exK, List.mem_cons, List.not_mem_nil, or_false] at hp
  rcases hp with rfl | rfl | rfl | rfl | rfl | rfl | rfl
  ·exact (((k0.below (b1 _ _)).below (b1 _ _)).below (b1 _ _)).below (b1 _ _)
  ·exact ((k1.below (b1 _ _)).below (b1 _ _)).below (b1 _ _)
  ·exact (k2.below (b1 _ _)).below (b1 _ _)
  ·exact Sv.none0 _
  ·exact k4.below (b1 _ _)
  ·exact Sv.none0 _
  ·exact Sv.none0 _
 ·intro p hp
  have h : ∀ n ∈ exN.map Rn.nd, n.text.size ≤ 9223372036854775807 := by decide
  have hm : p.1 ∈ (exK x.heap.size).map (·.1) := List.mem_map_of_mem hp
  exact h p.1 hm
theorem exW_below (x : World) (g : Nat) : Below x.heap.size x (exW x g) := al1 (al1 (al1 (al1 (al1 (al1 (Below.refl _ _) _) _) _) _) _) _
theorem rawake_any (w : World) : Calls Tryz.prog 7 #[] w fun e w' => e = .returned (.bool true) ∧ Below w.heap.size w w' := by
 have HT := Lib.hid (fun x => text_walk ⟨#[65, 32, 60, 45, 32, 33, 34, 97, 34, 42, 32, 47, 32, 66, 58, 50, 32, 40, 41, 59]⟩ x (by decide))
 unfold TxtP at HT
 rw [ex_read] at HT
 go_enter Tryz.func7, Tryz.ntmps7
 go_wp2_with fail
 refine (HT.out _).mono ?_
 rintro e x ⟨v1, v2, v3, v4, v5, rfl, ht, hb⟩
 obtain ⟨ro, no, ao, bo, co, rc, nc, ac, bc, cc, NK, rfl, rfl, rfl, rfl, rfl, hG, -, -, hC⟩ := ht.gr (by decide) (by decide)
 have HB := Lib.hid hb; have HG := Lib.hid hG; have HC := Lib.hid hC
 clear hb hG hC ht HT
 go_upto_region 3 with (fail)
 obtain ⟨X, hX⟩ : ∃ X, (x.alloc (.cells #[.slice ro exR.length rc, .slice no exN.length nc, .slice ao exR.length ac, .slice bo exN.length bc, .slice co exN.length cc] 30)).alloc (.cells #[.int .i64 0, .int .i64 0] 33) = X := ⟨_, rfl⟩
 obtain ⟨g, hg⟩ : ∃ g, x.heap.size = g := ⟨_, rfl⟩
 rw [hX, hg]
 change Code.wp _ _ _ _ ((exW X (g + 1 + 1)).alloc (.cells #[.slice (some ⟨g + 1 + 1, 0, none⟩) 1 1, .slice (some ⟨g + 1 + 1 + 1 + 1 + 1 + 1 + 1, 0, none⟩) 7 7] 26))
 have hXs : X.heap.size = g + 1 + 1 := by rw [← hX, World.size_alloc, World.size_alloc, hg]
 have hL := ex_gram X (g + 1 + 1) hXs
 have hbX : Below x.heap.size x X := by rw [← hX]; exact al2 (Below.refl _ _) _ _
 have hT0 : hrow X g #[.slice ro exR.length rc, .slice no exN.length nc, .slice ao exR.length ac, .slice bo exN.length bc, .slice co exN.length cc] 30 := by rw [← hX, ← hg]; exact (hrow.new _ _ _).below ((Below.refl _ _).alloc (Nat.le_refl _) _)
 have hD0 : hrow X (g + 1) #[.int .i64 0, .int .i64 0] 33 := by
  rw [← hX, ← hg]
  have h := hrow.new (x.alloc (.cells #[.slice ro exR.length rc, .slice no exN.length nc, .slice ao exR.length ac, .slice bo exN.length bc, .slice co exN.length cc] 30)) #[.int .i64 0, .int .i64 0] 33
  rwa [World.size_alloc] at h
 have hbE := exW_below X (g + 1 + 1)
 have hes : (exW X (g + 1 + 1)).heap.size = g + 1 + 1 + 1 + 1 + 1 + 1 + 1 + 1 := by unfold exW; simp only [World.size_alloc, hXs]
 have hGm := hrow.new (exW X (g + 1 + 1)) #[.slice (some ⟨g + 1 + 1, 0, none⟩) 1 1, .slice (some ⟨g + 1 + 1 + 1 + 1 + 1 + 1 + 1, 0, none⟩) 7 7] 26
 rw [hes] at hGm
 have hbG := (Below.refl _ (exW X (g + 1 + 1))).alloc (Nat.le_refl _) (.cells #[.slice (some ⟨g + 1 + 1, 0, none⟩) 1 1, .slice (some ⟨g + 1 + 1 + 1 + 1 + 1 + 1 + 1, 0, none⟩) 7 7] 26)
 have hbb := hbE.trans (hbG.mono hbE.size)
 have T0 := hT0.below hbb
 have D0 := hD0.below hbb
 have HGL := Lib.hid (hL.below hbG)
 have HGP := Lib.hid ((HG.out.below hbX).below hbb)
 have HCP := Lib.hid ((HC.out.below hbX).below hbb)
 have HBB := Lib.hid (HB.out.trans ((hbX.trans (hbb.mono hbX.size)).mono HB.out.size))
 clear hL hT0 hD0 hbE hbX HG HC HB hbb hbG hes hXs hX hg
 generalize (exW X (g + 1 + 1)).alloc (.cells #[.slice (some ⟨g + 1 + 1, 0, none⟩) 1 1, .slice (some ⟨g + 1 + 1 + 1 + 1 + 1 + 1 + 1, 0, none⟩) 7 7] 26) = z at *
 have k0 := T0.cell 0; have k1 := T0.cell 1; have k4 := T0.cell 4
 have l0 := D0.cell 0; have l1 := D0.cell 1
 have m0 := hGm.cell 0; have m1 := hGm.cell 1
 have HT0 := Lib.hid T0; have HD0 := Lib.hid D0; have HGm := Lib.hid hGm
 clear T0 D0 hGm
 obtain ⟨ca, rfl, hc5⟩ := HCP.out.cell 5 (by decide)
 have hc5 : z.cell? (ca.add 5) = some (.string ⟨#[66]⟩) := hc5
 have HC5 := Lib.hid hc5
 have hbnd := HCP.out.bound
 clear hc5
 have HLN : Hid (exN.length = 7) := rfl
 go_wp2_with fail
 refine (sameGr_any z (some ⟨g + 1 + 1, 0, none⟩) (some ⟨g + 1 + 1 + 1 + 1 + 1 + 1 + 1, 0, none⟩) ro no 1 1 7 7 rc nc _ NK _ HGL.out HGP.out).mono ?_
 rintro e z2 ⟨rfl, hb2⟩
 have t0 := HT0.out.below hb2
 have n0 := t0.cell 0; have n4 := t0.cell 4
 have c5 : z2.cell? (ca.add 5) = some (.string ⟨#[66]⟩) := (hb2.cell (World.block_lt_of_cell? z _ HC5.out)).trans HC5.out
 have HBF := Lib.hid (HBB.out.trans (hb2.mono HBB.out.size))
 clear hb2 t0 HC5 HT0 HD0 HGm HGL HGP HCP HBB k0 k1 k4 l0 l1 m0 m1
 rw [HLN.out] at n4 hbnd
 rw [show ca.add 5 = ⟨ca.block, ca.off + 5, none⟩ by unfold Addr.add; simp] at c5
 go_wp2_with fail
 go_ret
 exact ⟨rfl, HBF.out⟩
end Go.Proofs.YthfefbmkgebmkaaGreatDoor
