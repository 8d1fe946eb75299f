/- Walks and plain laws: V5 V6 V7 Pf Rn Ro Lo. -/
import Derived.Test.YtdnkffplkleolaaM19
import Derived.Test.YtdnkffplkleolaaM20
import Derived.Test.YtdnkffplkleolaaM17
import Derived.BigQuiet
import Derived.Test.YtdnkffplkleolaaM02
import Derived.Test.YtdnkffplkleolaaM16
import Derived.Deep.RegionHeld3
import Derived.Test.YtdnkffplkleolaaM08
import Derived.KernelRfl
namespace Go.Proofs.Ytdnkffplkleolaa
open Go.RowKit

theorem rnode_any (w : World) (x : Nd) (ka : Option Addr) (kc : Nat) (n : Nat) (ht : x.text.size ≤ 9223372036854775807) :
  Calls Try.prog 34 #[ndv x ka kc, .int .i64 n] w fun e w' => e = .returned (.bool (nodeB n x)) ∧ Below w.heap.size w w' := by
 obtain ⟨kind, a, b, c, d, t, r, l, kids⟩ := x
 by_cases hr : r = 0
 ·subst hr
  by_cases hl : l = 0
  ·subst hl
   exact rnode_00 w kind a b c d t kids ka kc n ht
  ·exact rnode_0l w kind a b c d t l kids ka kc n (by simpa using hl)
 ·exact rnode_r w kind a b c d t r l kids ka kc n (by simpa using hr)
end Go.Proofs.Ytdnkffplkleolaa
namespace Go.Proofs.Ytdnkffplkleolaa
open Go.RowKit
set_option maxRecDepth 100000
set_option maxHeartbeats 4000000

/-- What 'after' tells. -/
def aftI (N : List Nd) (left n : Nat) : Int × Int := match aft N left n with | some (a, h) => ((a : Int), (h : Int)) | none => (-1, 0)

theorem raft_any (ro : Option Addr) (rn rc : Nat) (no : Option Addr) (nn nc : Nat) (NK : List (Nd × (Option Addr × Nat))) : ∀ (left : Nat) (w : World) (n : Nat) (_ : NdW w no nn nc NK) (_ : left ≤ 100) (_ : n ≤ 1000000) (_ : nn ≤ 2048),
  Calls Try.prog 37 #[grv ro rn rc no nn nc, .int .i64 n, .int .i64 left] w fun e w' => e = .returned (.tuple #[.int .i64 (aftI (NK.map (·.1)) left n).1, .int .i64 (aftI (NK.map (·.1)) left n).2]) ∧ Below w.heap.size w w'
 | 0, w, n, hN, hle, hn, hnn => by
  have HB0 := Lib.hid (al1 (Below.refl w.heap.size w) (.cells #[.slice ro rn rc, .slice no nn nc] 25))
  unfold grv
  by_cases hlt : n < nn
  ·have hlt' : ¬ ((nn : Int) ≤ n) := by omega
   go_enter Try.func37, Try.ntmps37
   go_wp2_with fail
   exact bodyPost_ret (v := .tuple #[.int .i64 (-1), .int .i64 0]) (by simp [results, Try.results37, go_sem]) rfl ⟨rfl, HB0.out⟩
  ·have hlt' : (nn : Int) ≤ n := by omega
   go_enter Try.func37, Try.ntmps37
   go_wp2_with fail
   exact bodyPost_ret (v := .tuple #[.int .i64 (-1), .int .i64 0]) (by simp [results, Try.results37, go_sem]) rfl ⟨rfl, HB0.out⟩
 | left + 1, w, n, hN, hle, hn, hnn => by
  have ih := raft_any ro rn rc no nn nc NK left
  have HIH := Lib.hid ih
  clear ih
  have HB0 := Lib.hid (al1 (Below.refl w.heap.size w) (.cells #[.slice ro rn rc, .slice no nn nc] 25))
  unfold grv
  have HN := Lib.hid hN
  have hl := hN.sv.n_eq ndc_len (by decide)
  have HL := Lib.hid hl
  obtain ⟨b1, b2⟩ := hN.sv.bound
  clear hl hN
  have hl1 : ¬ ((left + 1 : Nat) : Int) < 1 := by omega
  by_cases hlt : n < nn
  ·have hlt' : ¬ ((nn : Int) ≤ n) := by omega
   go_enter Try.func37, Try.ntmps37
   go_wp2_with fail
   have HG0 := Lib.hid (hrow.new w #[.slice ro rn rc, .slice no nn nc] 25)
   revert HB0 HG0
   generalize w.alloc (.cells #[.slice ro rn rc, .slice no nn nc] 25) = w0
   intro HB0 HG0
   have hnl : n < NK.length := by have := HL.out; omega
   have hmem : NK[n]'hnl ∈ NK := List.getElem_mem hnl
   have HA : Hid (aft (NK.map (·.1)) (left + 1) n = kidsF (aft (NK.map (·.1)) left) (NK[n]'hnl).1.kids (n + 1) 1) := by
    show _ = _
    rw [aft, List.getElem?_map, List.getElem?_eq_getElem hnl]
    rfl
   obtain ⟨na, rfl, hc⟩ := Sv.at ndc_len (HN.out.below HB0.out).sv (by decide) n hnl
   have HC8 : Hid (∀ {wr : World}, Below w0.heap.size w0 wr → wr.cell? ⟨(na.add (n * 9)).block, (na.add (n * 9)).off + 8, none⟩ = some (.slice (NK[n]'hnl).2.1 (NK[n]'hnl).1.kids.length (NK[n]'hnl).2.2)) := by
    intro wr hb
    have hx := hc 8 _ rfl
    rw [add_off _ _ _ (by decide)] at hx
    exact (hb.cell (World.block_lt_of_cell? _ _ hx)).trans hx
   have HK := Lib.hid (HN.out.kids _ hmem)
   clear hc hmem
   generalize (NK[n]'hnl) = q at *
   obtain ⟨⟨kd, q0, q1, q2, q3, tx, ru, lv, ks⟩, ka, kc⟩ := q
   simp only [] at HA HC8 HK
   have hkb := HK.out.bound
   go_loopw [8, 9, 10, 11, 12] (fun a b c _ _ wr => ∃ (i nx hi : Nat), i ≤ ks.length ∧ nx ≤ 2048 ∧ hi ≤ 2048 ∧ c = .int .i64 i ∧ a = .int .i64 nx ∧ b = .int .i64 hi ∧ Hid (Below w0.heap.size w0 wr) ∧ Hid (kidsF (aft (NK.map (·.1)) left) (ks.drop i) nx hi = aft (NK.map (·.1)) (left + 1) n)) (fun _ _ c _ _ _ => ks.length - (intOf c).toNat)
   case atStart => exact ⟨0, n + 1, 1, by omega, by omega, by omega, rfl, by go_num, rfl, Below.refl _ _, HA.out.symm⟩
   case round =>
    obtain ⟨i, nx, hi, hile, hnx, hhi, rfl, rfl, rfl, HI, HQ⟩ := hrel
    obtain ⟨bg0, bg1⟩ := ((HG0.out.below HI.out)).c2
    have c8 := HC8.out HI.out
    have hnz : (0 : Int) ≤ n := by omega
    have HBw := Lib.hid (HB0.out.trans (HI.out.mono HB0.out.size))
    by_cases hit : i < ks.length
    ·have hit' : (i : Int) < ks.length := by omega
     have hiz : (0 : Int) ≤ i := by omega
     obtain ⟨kb, rfl, hkc⟩ := (HK.out.below HBw.out).cell i (by simp [inc]; omega)
     have hk : wr.cell? (kb.add i) = some (.int .i64 (ks[i]'hit)) := by rw [hkc]; simp [inc, hit]
     have HQ2 : Hid ((if (ks[i]'hit) = (nx : Int) then (match aft (NK.map (·.1)) left nx with | some (m1, hh) => kidsF (aft (NK.map (·.1)) left) (ks.drop (i + 1)) m1 (max hi (1 + hh)) | none => none) else none) = aft (NK.map (·.1)) (left + 1) n) := by
      have h1 := HQ.out
      rw [List.drop_eq_getElem_cons hit] at h1
      exact h1
     clear HQ hkc
     generalize ks[i]'hit = k at *
     by_cases hk1 : k = (nx : Int)
     case neg =>
      have HF : Hid (aftI (NK.map (·.1)) (left + 1) n = (-1, 0)) := by
       show _ = _
       unfold aftI
       rw [← HQ2.out, if_neg hk1]
      have hk2 : (k != (nx : Int)) = true := by simpa using hk1
      clear HQ2
      go_wp2_with fail
      exact bodyPost_ret (v := .tuple #[.int .i64 (-1), .int .i64 0]) (by simp [results, Try.results37, go_sem]) rfl ⟨by rw [HF.out], HBw.out⟩
     case pos =>
      have hq2 := HQ2.out
      rw [if_pos hk1] at hq2
      clear HQ2
      have HQ2 := Lib.hid hq2
      clear hq2
      subst hk1
      have hk2 : ((nx : Int) != (nx : Int)) = false := by simp
      go_wp2_with fail
      refine (HIH.out wr nx (HN.out.below HBw.out) (by omega) (by omega) hnn).mono ?_
      rintro e w3 ⟨rfl, hb3⟩
      have HI3 := Lib.hid (HI.out.trans (hb3.mono HI.out.size))
      have HB3 := Lib.hid (HB0.out.trans (HI3.out.mono HB0.out.size))
      clear hb3
      cases ea : aft (NK.map (·.1)) left nx with
      | none =>
       have HF : Hid (aftI (NK.map (·.1)) (left + 1) n = (-1, 0)) := by
        show _ = _
        unfold aftI
        rw [← HQ2.out, ea]
       have HV : aftI (NK.map (·.1)) left nx = (-1, 0) := by unfold aftI; rw [ea]
       rw [HV]
       clear HQ2 HV ea
       go_wp2_with fail
       exact bodyPost_ret (v := .tuple #[.int .i64 (-1), .int .i64 0]) (by simp [results, Try.results37, go_sem]) rfl ⟨by rw [HF.out], HB3.out⟩
      | some p =>
       obtain ⟨m1, hh⟩ := p
       have hr1 := aft_range ea
       have hr2 := aft_mono ea
       have hto : m1 ≤ 2048 := by have := HL.out; have := hr1.2.1; simp at this; omega
       have hhh : hh ≤ 100 := by omega
       have HQ3 : Hid (kidsF (aft (NK.map (·.1)) left) (ks.drop (i + 1)) m1 (max hi (1 + hh)) = aft (NK.map (·.1)) (left + 1) n) := by
        have h2 := HQ2.out
        rw [ea] at h2
        exact h2
       have HV : aftI (NK.map (·.1)) left nx = ((m1 : Int), (hh : Int)) := by unfold aftI; rw [ea]
       rw [HV]
       clear HQ2 HV ea hr1 hr2
       have htz : (0 : Int) ≤ m1 := by omega
       go_wp2_with fail
       exact ⟨⟨i + 1, m1, max hi (1 + hh), by omega, hto, by omega, by go_num, rfl, by congr 1; split <;> omega, HI3.out, HQ3.out⟩, by simp [intOf]; omega⟩
    ·have hge : (ks.length : Int) ≤ i := by omega
     have HF : Hid (aftI (NK.map (·.1)) (left + 1) n = ((nx : Int), (hi : Int))) := by
      show _ = _
      unfold aftI
      rw [← HQ.out, List.drop_eq_nil_of_le (by omega)]
      rfl
     go_wp2_with fail
     exact bodyPost_ret (v := .tuple #[.int .i64 nx, .int .i64 hi]) (by simp [results, Try.results37, go_sem]) rfl ⟨by rw [HF.out], HBw.out⟩
  ·have hlt' : (nn : Int) ≤ n := by omega
   have hF : Hid (aftI (NK.map (·.1)) (left + 1) n = (-1, 0)) := by
    show _ = _
    unfold aftI aft
    rw [List.getElem?_eq_none (by have := HL.out; simp; omega)]
   go_enter Try.func37, Try.ntmps37
   go_wp2_with fail
   rw [hF.out]
   exact bodyPost_ret (v := .tuple #[.int .i64 (-1), .int .i64 0]) (by simp [results, Try.results37, go_sem]) rfl ⟨rfl, HB0.out⟩
end Go.Proofs.Ytdnkffplkleolaa
namespace Go.Proofs.Ytdnkffplkleolaa
open Go.RowKit
set_option maxRecDepth 100000
set_option maxHeartbeats 4000000

theorem rrright_siz {G : Gr} (h : ¬ (1 ≤ G.rules.length ∧ G.rules.length ≤ 32 ∧ G.nodes.length ≤ 2048)) : rightR G = false := by
 have h0 : sizB G = false := by
  unfold sizB
  rw [Bool.eq_false_iff]
  intro h'
  simp only [Bool.and_eq_true, decide_eq_true_eq] at h'
  omega
 unfold rightR
 rw [h0]; simp
theorem rrright_nod {G : Gr} (h : G.nodes.all (nodeB G.rules.length) = false) : rightR G = false := by
 unfold rightR
 rw [h]; simp
theorem rrright_run {G : Gr} (h1 : 1 ≤ G.rules.length ∧ G.rules.length ≤ 32 ∧ G.nodes.length ≤ 2048) (h2 : G.nodes.all (nodeB G.rules.length) = true) :
  rightR G = (rulR G G.rules 0 0 == some G.nodes.length) := by
 unfold rightR sizB
 rw [h2]
 simp [h1.1, h1.2.1, h1.2.2]
theorem rulR_cons {G : Gr} {l : List Ru} {i n : Nat} (h : i < l.length) : rulR G (l.drop i) i n = if nameB (l[i]'h).name = true ∧ ruleIx G.rules (l[i]'h).name = i ∧ (l[i]'h).body = n then (match aft G.nodes 16 n with | some (m1, _) => rulR G (l.drop (i + 1)) (i + 1) m1 | none => none) else none := by
 rw [List.drop_eq_getElem_cons h]
 rfl
theorem bad_ofR {C : Prop} [Decidable C] {x y : Option Nat} {z : Nat} {b : Bool} (h : (if C then x else none) = y) (hC : ¬ C) (hp : b = (y == some z)) : b = false := by
 rw [if_neg hC] at h
 rw [hp, ← h]; rfl

theorem rright_small (w : World) (ro : Option Addr) (rn rc : Nat) (no : Option Addr) (nn nc : Nat) (G : Gr) (hr : rn ≤ rc ∧ rc ≤ 9223372036854775807) (hn : nn ≤ nc ∧ nc ≤ 9223372036854775807) (e1 : G.rules.length = rn) (e2 : G.nodes.length = nn)
  (hsz : ¬ (1 ≤ rn ∧ rn ≤ 32 ∧ nn ≤ 2048)) :
  Calls Try.prog 17 #[grv ro rn rc no nn nc] w fun e w' => e = .returned (.bool (rightR G)) ∧ Below w.heap.size w w' := by
 obtain ⟨b1, b2⟩ := hr
 obtain ⟨b3, b4⟩ := hn
 rw [rrright_siz (by rw [e1, e2]; exact hsz)]
 have HB := Lib.hid (al1 (Below.refl w.heap.size w) (.cells #[.slice ro rn rc, .slice no nn nc] 25))
 unfold grv
 clear e1 e2
 by_cases h1 : rn = 0
 ·subst h1
  clear hsz
  go_enter Try.func17, Try.ntmps17
  go_wp2_with fail
  exact bodyPost_ret (v := .bool false) (by simp [results, Try.results17, go_sem]) rfl ⟨rfl, HB.out⟩
 ·have t1 : ¬ (rn : Int) < 1 := by omega
  by_cases h2 : rn ≤ 32
  ·have h2' : (rn : Int) ≤ 32 := by omega
   have h3 : (2048 : Int) < nn := by omega
   clear hsz
   go_enter Try.func17, Try.ntmps17
   go_wp2_with fail
   exact bodyPost_ret (v := .bool false) (by simp [results, Try.results17, go_sem]) rfl ⟨rfl, HB.out⟩
  ·have h2' : (32 : Int) < rn := by omega
   clear hsz
   go_enter Try.func17, Try.ntmps17
   go_wp2_with fail
   exact bodyPost_ret (v := .bool false) (by simp [results, Try.results17, go_sem]) rfl ⟨rfl, HB.out⟩
theorem rright_any (w : World) (ro : Option Addr) (rn rc : Nat) (no : Option Addr) (nn nc : Nat) (NK : List (Nd × (Option Addr × Nat))) (G : Gr) (hG : GrW w ro rn rc no nn nc NK G) :
  Calls Try.prog 17 #[grv ro rn rc no nn nc] w fun e w' => e = .returned (.bool (rightR G)) ∧ Below w.heap.size w w' := by
 have hrl := hG.rul.n_eq ruc_len (by decide)
 have hnl : G.nodes.length = nn := by rw [← hG.eq, List.length_map]; exact hG.nod.sv.n_eq ndc_len (by decide)
 by_cases hsz : ¬ (1 ≤ rn ∧ rn ≤ 32 ∧ nn ≤ 2048)
 ·exact rright_small w ro rn rc no nn nc G hG.rul.bound hG.nod.sv.bound hrl hnl hsz
 have hsz' : 1 ≤ rn ∧ rn ≤ 32 ∧ nn ≤ 2048 := by omega
 obtain ⟨h1, h2, h3⟩ := hsz'
 obtain ⟨b1, b2⟩ := hG.rul.bound
 obtain ⟨b3, b4⟩ := hG.nod.sv.bound
 have t1 : ¬ ((rn : Int) < 1) := by omega
 have h2' : (rn : Int) ≤ 32 := by omega
 have h3' : (nn : Int) ≤ 2048 := by omega
 have HG := Lib.hid hG
 have HRl := Lib.hid hrl
 have HNl := Lib.hid hnl
 unfold grv
 clear hG hrl hnl hsz
 go_enter Try.func17, Try.ntmps17
 go_wp2_with fail
 have HB0 := Lib.hid (al1 (Below.refl w.heap.size w) (.cells #[.slice ro rn rc, .slice no nn nc] 25))
 have HG0 := Lib.hid (hrow.new w #[.slice ro rn rc, .slice no nn nc] 25)
 revert HB0 HG0
 generalize w.alloc (.cells #[.slice ro rn rc, .slice no nn nc] 25) = w0
 intro HB0 HG0
 have HL := Lib.hid (show NK.length = nn by rw [← HNl.out, ← HG.out.eq, List.length_map])
 go_loopw [3] (fun i wr => ∃ k : Nat, k ≤ nn ∧ i = .int .i64 k ∧ Hid (Below w0.heap.size w0 wr ∧ ∀ i, (h : i < k) → (h' : i < NK.length) → nodeB rn (NK[i]'h').1 = true)) (fun i _ => nn - (intOf i).toNat)
 case atStart => exact ⟨0, by omega, rfl, Below.refl _ _, fun i h => absurd h (by omega)⟩
 case round =>
  obtain ⟨k, hk, rfl, HI⟩ := hrel
  obtain ⟨bg0, bg1⟩ := ((HG0.out.below HI.out.1)).c2
  have HBw := Lib.hid (HB0.out.trans (HI.out.1.mono HB0.out.size))
  by_cases hlt2 : k < nn
  ·have hk' : (k : Int) < nn := by omega
   have hkz : (0 : Int) ≤ k := by omega
   have hkl : k < NK.length := by have := HL.out; omega
   have hmem : NK[k]'hkl ∈ NK := List.getElem_mem hkl
   obtain ⟨ra, rfl, hc⟩ := Sv.at ndc_len (HG.out.nod.below HBw.out).sv (by decide) k hkl
   have htx := HG.out.nod.txt _ hmem
   have HY : Hid (nodeB rn (NK[k]'hkl).1 = false → ¬ (NK.map (·.1)).all (nodeB rn) = true) := fun h hall => by
    have := List.all_eq_true.1 hall (NK[k]'hkl).1 (List.mem_map.2 ⟨_, hmem, rfl⟩)
    rw [h] at this; cases this
   have HM : Hid (nodeB rn (NK[k]'hkl).1 = true → ∀ i, (h : i < k + 1) → (h' : i < NK.length) → nodeB rn (NK[i]'h').1 = true) := fun h i hi h' => by
    by_cases e : i = k
    ·subst e; exact h
    ·exact HI.out.2 i (by omega) h'
   clear hmem
   generalize NK[k]'hkl = q at *
   obtain ⟨⟨kd, a, b, c, d, t, r, l, kids⟩, ka, kc⟩ := q
   simp only [] at htx HY HM
   have c0 : wr.cell? (ra.add (k * 9)) = some (.int .i64 kd) := hc 0 _ rfl
   have cc := fun j v (hj : 0 < j) (h : (ndc (⟨kd, a, b, c, d, t, r, l, kids⟩, ka, kc))[j]? = some v) => (add_off ra (k * 9) j hj) ▸ hc j v h
   have c1 : wr.cell? ⟨(ra.add (k * 9)).block, (ra.add (k * 9)).off + 1, none⟩ = some (.int .u64 a) := cc 1 _ (by decide) rfl
   have c2 : wr.cell? ⟨(ra.add (k * 9)).block, (ra.add (k * 9)).off + 2, none⟩ = some (.int .u64 b) := cc 2 _ (by decide) rfl
   have c3 : wr.cell? ⟨(ra.add (k * 9)).block, (ra.add (k * 9)).off + 3, none⟩ = some (.int .u64 c) := cc 3 _ (by decide) rfl
   have c4 : wr.cell? ⟨(ra.add (k * 9)).block, (ra.add (k * 9)).off + 4, none⟩ = some (.int .u64 d) := cc 4 _ (by decide) rfl
   have c5 : wr.cell? ⟨(ra.add (k * 9)).block, (ra.add (k * 9)).off + 5, none⟩ = some (.string t) := cc 5 _ (by decide) rfl
   have c6 : wr.cell? ⟨(ra.add (k * 9)).block, (ra.add (k * 9)).off + 6, none⟩ = some (.int .i64 r) := cc 6 _ (by decide) rfl
   have c7 : wr.cell? ⟨(ra.add (k * 9)).block, (ra.add (k * 9)).off + 7, none⟩ = some (.int .i64 l) := cc 7 _ (by decide) rfl
   have c8 : wr.cell? ⟨(ra.add (k * 9)).block, (ra.add (k * 9)).off + 8, none⟩ = some (.slice ka kids.length kc) := cc 8 _ (by decide) rfl
   clear hc cc
   have HNd := Lib.hid (fun W => rnode_any W ⟨kd, a, b, c, d, t, r, l, kids⟩ ka kc rn htx)
   clear htx
   go_wp2_with fail
   go_region_with ((go_at_call 34; refine (HNd.out _).mono ?_; rintro e w3 ⟨rfl, hb3⟩))
   all_goals
    have HI3 := Lib.hid (HI.out.1.trans (((Below.refl wr.heap.size wr).drew.trans hb3).mono HI.out.1.size))
    have HB3 := Lib.hid (HB0.out.trans (HI3.out.mono HB0.out.size))
    clear hb3
    cases hb : nodeB rn ⟨kd, a, b, c, d, t, r, l, kids⟩
    ·have HF := Lib.hid (rrright_nod (G := G) (by rw [← HG.out.eq, HRl.out]; exact Bool.eq_false_iff.2 (HY.out hb)))
     clear hb HY HM
     go_wp2_with fail
     exact bodyPost_ret (v := .bool false) (by simp [results, Try.results17, go_sem]) rfl ⟨by rw [HF.out], HB3.out⟩
    ·have HRes := Lib.hid (HM.out hb)
     clear hb HY HM
     go_wp2_with fail
     go_roundw
     case rel => exact ⟨k + 1, by omega, by go_num, HI3.out, HRes.out⟩
     case measure => simp [intOf]; omega
  ·have hge : (nn : Int) ≤ k := by omega
   have HAll : Hid (G.nodes.all (nodeB G.rules.length) = true) := by
    show _ = _
    rw [← HG.out.eq, HRl.out, List.all_eq_true]
    intro x hx
    obtain ⟨y, hy, rfl⟩ := List.mem_map.1 hx
    obtain ⟨i, hi, rfl⟩ := List.getElem_of_mem hy
    exact HI.out.2 i (by have := HL.out; omega) hi
   have HP := Lib.hid (rrright_run (G := G) (by rw [HRl.out, HNl.out]; exact ⟨h1, h2, h3⟩) HAll.out)
   have HI1 := Lib.hid HI.out.1
   clear HI
   go_wp2_with fail
   go_loopw [4, 5] (fun nx k wr => ∃ i n : Nat, k = .int .i64 i ∧ nx = .int .i64 n ∧ i ≤ rn ∧ n ≤ nn ∧ Hid (Below w0.heap.size w0 wr) ∧ Hid (rulR G (G.rules.drop i) i n = rulR G G.rules 0 0)) (fun _ k _ => rn - (intOf k).toNat)
   case atStart => exact ⟨0, 0, rfl, rfl, Nat.zero_le _, Nat.zero_le _, HI1.out, rfl⟩
   case round =>
    clear HBw HI1 bg0 bg1
    obtain ⟨i, n, rfl, rfl, hi, hn, HI, HQ⟩ := hrel
    obtain ⟨bg0, bg1⟩ := ((HG0.out.below HI.out)).c2
    have HBw := Lib.hid (HB0.out.trans (HI.out.mono HB0.out.size))
    by_cases hit : i < rn
    ·have hit' : (i : Int) < rn := by omega
     have hiz : (0 : Int) ≤ i := by omega
     have hil : i < G.rules.length := by have := HRl.out; omega
     obtain ⟨ra, rfl, hc⟩ := Sv.at ruc_len (HG.out.below HBw.out).rul (by decide) i hil
     have c0 : wr.cell? (ra.add (i * 2)) = some (.string (G.rules[i]'hil).name) := hc 0 _ rfl
     have c1 : wr.cell? ⟨(ra.add (i * 2)).block, (ra.add (i * 2)).off + 1, none⟩ = some (.int .i64 (G.rules[i]'hil).body) := by
      have := hc 1 _ rfl
      rw [add_off _ _ _ (by decide)] at this
      exact this
     have hns : (G.rules[i]'hil).name.size ≤ 9223372036854775807 := HG.out.nam _ (List.getElem_mem hil)
     have HQ2 := Lib.hid ((rulR_cons (G := G) (n := n) hil).symm.trans HQ.out)
     clear hc HQ
     generalize G.rules[i]'hil = r at *
     clear hil
     obtain ⟨nm, bo⟩ := r
     simp only [] at c0 c1 hns HQ2
     have d0 : ∀ y : Later wr, y.val.cell? ⟨w.heap.size, 0, none⟩ = some (.slice (some ra) rn rc) := fun y => (HG0.out.below (HI.out.trans (y.ok.mono HI.out.size))).cell 0
     have d1 : ∀ y : Later wr, y.val.cell? ⟨w.heap.size, 1, none⟩ = some (.slice no nn nc) := fun y => (HG0.out.below (HI.out.trans (y.ok.mono HI.out.size))).cell 1
     have d2 : ∀ y : Later wr, y.val.cell? (ra.add (i * 2)) = some (.string nm) := fun y => (y.ok.cell (World.block_lt_of_cell? _ _ c0)).trans c0
     have d3 : ∀ y : Later wr, y.val.cell? ⟨(ra.add (i * 2)).block, (ra.add (i * 2)).off + 1, none⟩ = some (.int .i64 bo) := fun y => (y.ok.cell (World.block_lt_of_cell? _ _ c1)).trans c1
     have HNm := Lib.hid (fun y : Later wr => rname_any y.val nm hns)
     have HRu := Lib.hid (fun y : Later wr => rrule_any y.val (some ra) rn rc no nn nc G.rules ((HG.out.below HBw.out).below y.ok).rul nm)
     clear hns
     go_upto_region 12 with (fail)
     generalize hrx : ruleIx G.rules nm = rx at HRu HQ2
     by_cases hall : nameB nm = true ∧ rx = (i : Int) ∧ bo = (n : Int)
     case neg =>
      have HF := Lib.hid (bad_ofR HQ2.out hall HP.out)
      generalize nameB nm = b at *
      refine wp_region_later (by kernel_rfl) (by kernel_rfl) ?_
      cases b
      ·repeat (go_big_quiet_step (first | (go_at_call 35; exact Calls.later (HNm.out _)) | (go_at_call 36; exact Calls.later (HRu.out _))))
       refine wpQuiet_nil ?_
       intro w5 hw5
       obtain ⟨y, rfl⟩ := hw5
       have HB5 := Lib.hid (HBw.out.trans (y.ok.mono HBw.out.size))
       go_wp2_with fail
       exact bodyPost_ret (v := .bool false) (by simp [results, Try.results17, go_sem]) rfl ⟨by rw [HF.out], HB5.out⟩
      ·by_cases h1 : rx = (i : Int)
       ·have h2 : (bo != (n : Int)) = true := by simp; intro h; exact hall ⟨rfl, h1, h⟩
        have h1' : (rx != (i : Int)) = false := by simp [h1]
        clear HQ2 hall
        repeat (go_big_quiet_step (first | (go_at_call 35; exact Calls.later (HNm.out _)) | (go_at_call 36; exact Calls.later (HRu.out _))))
        refine wpQuiet_nil ?_
        intro w5 hw5
        obtain ⟨y, rfl⟩ := hw5
        have HB5 := Lib.hid (HBw.out.trans (y.ok.mono HBw.out.size))
        go_wp2_with fail
        exact bodyPost_ret (v := .bool false) (by simp [results, Try.results17, go_sem]) rfl ⟨by rw [HF.out], HB5.out⟩
       ·have h1' : (rx != (i : Int)) = true := by simpa using h1
        clear HQ2 hall
        repeat (go_big_quiet_step (first | (go_at_call 35; exact Calls.later (HNm.out _)) | (go_at_call 36; exact Calls.later (HRu.out _))))
        refine wpQuiet_nil ?_
        intro w5 hw5
        obtain ⟨y, rfl⟩ := hw5
        have HB5 := Lib.hid (HBw.out.trans (y.ok.mono HBw.out.size))
        go_wp2_with fail
        exact bodyPost_ret (v := .bool false) (by simp [results, Try.results17, go_sem]) rfl ⟨by rw [HF.out], HB5.out⟩
     case pos =>
      have hq := HQ2.out
      rw [if_pos hall] at hq
      have HQ3 := Lib.hid hq
      clear hq HQ2
      obtain ⟨hb, h1, h2⟩ := hall
      rw [hb] at HNm
      subst h1
      subst h2
      have h1' : ((i : Int) != (i : Int)) = false := by simp
      have h2' : ((n : Int) != (n : Int)) = false := by simp
      refine wp_region_later (by kernel_rfl) (by kernel_rfl) ?_
      repeat (go_big_quiet_step (first | (go_at_call 35; exact Calls.later (HNm.out _)) | (go_at_call 36; exact Calls.later (HRu.out _))))
      refine wpQuiet_nil ?_
      intro w5 hw5
      obtain ⟨y, rfl⟩ := hw5
      have HB5 := Lib.hid (HBw.out.trans (y.ok.mono HBw.out.size))
      have HI5 := Lib.hid (HI.out.trans (y.ok.mono HI.out.size))
      have e0 := d0 y
      have e1 := d1 y
      clear d0 d1 d2 d3 HNm HRu
      generalize y.val = w5 at *
      clear y
      have HAf := Lib.hid (raft_any (some ra) rn rc no nn nc NK 16 w5 n (HG.out.below HB5.out).nod (by decide) (by omega) h3)
      rw [HG.out.eq] at HAf
      go_wp2_with fail
      refine (HAf.out).mono ?_
      rintro e w6 ⟨rfl, hb6⟩
      have HI6 := Lib.hid (HI5.out.trans (hb6.mono HI5.out.size))
      have HB6 := Lib.hid (HB0.out.trans (HI6.out.mono HB0.out.size))
      clear hb6 HAf
      cases ea : aft G.nodes 16 n with
      | none =>
       have HF : Hid (rightR G = false) := by
        show _ = _
        have h := HQ3.out
        rw [ea] at h
        rw [HP.out, ← h]
        rfl
       have HV : aftI G.nodes 16 n = (-1, 0) := by unfold aftI; rw [ea]
       rw [HV]
       clear HV ea HQ3
       go_wp2_with fail
       exact bodyPost_ret (v := .bool false) (by simp [results, Try.results17, go_sem]) rfl ⟨by rw [HF.out], HB6.out⟩
      | some q =>
       obtain ⟨m1, hh⟩ := q
       have hm1 : m1 ≤ nn := by have := (aft_range ea).2.1; have := HNl.out; omega
       have hmz : (0 : Int) ≤ m1 := by omega
       have HQ4 : Hid (rulR G (G.rules.drop (i + 1)) (i + 1) m1 = rulR G G.rules 0 0) := by
        show _ = _
        have h := HQ3.out
        rw [ea] at h
        exact h
       have HV : aftI G.nodes 16 n = ((m1 : Int), (hh : Int)) := by unfold aftI; rw [ea]
       rw [HV]
       clear HV ea HQ3
       go_wp2_with fail
       exact ⟨⟨i + 1, m1, by go_num, rfl, by omega, hm1, HI6.out, HQ4.out⟩, by simp [intOf]; omega⟩
    ·have hge : (rn : Int) ≤ i := by omega
     have HR : Hid (rightR G = (((n : Nat) : Int) == (nn : Int))) := by
      show _ = _
      rw [HP.out, ← HQ.out, List.drop_eq_nil_of_le (by have := HRl.out; omega)]
      simp only [rulR]
      rw [Bool.eq_iff_iff, beq_iff_eq, beq_iff_eq, HNl.out]
      simp only [Option.some.injEq]
      omega
     clear HP HQ
     go_wp2_with fail
     exact bodyPost_ret (v := .bool ((n : Int) == (nn : Int))) (by simp [results, Try.results17, go_sem]) rfl ⟨by rw [HR.out], HBw.out⟩
end Go.Proofs.Ytdnkffplkleolaa
namespace Go.Proofs.Ytdnkffplkleolaa

theorem kidsF_all {f : Nat → Option (Nat × Nat)} : ∀ (ks : List Int) (m h : Nat) {p : Nat × Nat}, kidsF f ks m h = some p → ∀ k ∈ ks, ∃ q : Nat, k = q ∧ ∃ p, f q = some p
 | [], _, _, _, _, k, hk => nomatch hk
 | k :: ks, m, h, p, e, k', hk => by
  simp only [kidsF] at e
  by_cases hm : k = (m : Int)
  ·rw [if_pos hm] at e
   cases hf : f m with
   | none => rw [hf] at e; cases e
   | some a =>
    obtain ⟨t1, h1⟩ := a
    rw [hf] at e
    simp only at e
    rcases List.mem_cons.1 hk with rfl | hk
    ·exact ⟨m, hm, _, hf⟩
    ·exact kidsF_all ks _ _ e k' hk
  ·rw [if_neg hm] at e; cases e
theorem rulR_bod {G : Gr} : ∀ (rs : List Ru) (k next : Nat) {fin : Nat}, rulR G rs k next = some fin → ∀ r ∈ rs, 0 ≤ r.body ∧ r.body < G.nodes.length
 | [], _, _, _, _, r, hr => nomatch hr
 | r :: rs, k, next, fin, h, r', hr => by
  simp only [rulR] at h
  by_cases h1 : nameB r.name = true ∧ ruleIx G.rules r.name = k ∧ r.body = next
  ·rw [if_pos h1] at h
   cases e : aft G.nodes 16 next with
   | none => rw [e] at h; cases h
   | some p =>
    obtain ⟨tt, hh⟩ := p
    rw [e] at h
    simp only at h
    rcases List.mem_cons.1 hr with rfl | hr
    ·have := aft_lt e
     have := h1.2.2
     omega
    ·exact rulR_bod rs _ _ h r' hr
  ·rw [if_neg h1] at h; cases h
theorem gok_of {G : Gr} (h : rightR G = true) (hc : ∀ x ∈ G.nodes, ∀ i, 0 ≤ clsAt x i ∧ clsAt x i < 2 ^ 64) : GOk G := by
 unfold rightR at h
 rw [Bool.and_eq_true, Bool.and_eq_true, beq_iff_eq] at h
 obtain ⟨⟨h1, h2⟩, h3⟩ := h
 unfold sizB at h1
 rw [Bool.and_eq_true, Bool.and_eq_true, decide_eq_true_iff, decide_eq_true_iff, decide_eq_true_iff] at h1
 have hn : ∀ (n : Nat) (x : Nd), G.nodes[n]? = some x → x ∈ G.nodes := fun n x hx => List.mem_of_getElem? hx
 refine ⟨fun n x hx => List.all_eq_true.1 h2 x (hn n x hx), fun n x hx k hk => ?_, rulR_bod _ _ _ h3, hc, h1.2, h1.1.2⟩
 have hl : n < G.nodes.length := (List.getElem?_eq_some_iff.1 hx).1
 obtain ⟨p, hp⟩ := (rulR_all _ _ _ h3).2 n (Nat.zero_le _) hl
 rw [aft, hx] at hp
 obtain ⟨q, rfl, p', hq⟩ := kidsF_all _ _ _ hp k hk
 have := aft_lt hq
 omega
end Go.Proofs.Ytdnkffplkleolaa
namespace Go.Proofs.Ytdnkffplkleolaa
open Go.RowKit
set_option maxRecDepth 100000
set_option maxHeartbeats 2000000

/-- A call of a rule, from the start. -/
def runR (G : Gr) (W : List Nat) (rule p : Nat) : Rs × St := callR (ev G W 20000) G rule p ⟨[], false, 20000, false⟩
/-- What may be asked. -/
structure Ask (G : Gr) (wn : Nat) (rule place : Int) : Prop where
 right : rightR G = true
 r0 : 0 ≤ rule
 r1 : rule < G.rules.length
 p0 : 0 ≤ place
 p1 : place ≤ wn
/-- Words are words. -/
def ClsOk (G : Gr) : Prop := ∀ x ∈ G.nodes, ∀ i, 0 ≤ clsAt x i ∧ clsAt x i < 2 ^ 64
/-- The input. -/
structure InW (w : World) (wo : Option Addr) (wn wc : Nat) (W : List Nat) : Prop where
 sv : Sv w wo wn wc 1 (bys W)
 byt : ∀ b ∈ W, b < 256
theorem InW.len {w : World} {wo : Option Addr} {wn wc : Nat} {W : List Nat} (h : InW w wo wn wc W) : W.length = wn := by
 have := h.sv.len
 simpa [bys] using this
theorem InW.below {w w' : World} {wo : Option Addr} {wn wc : Nat} {W : List Nat} (h : InW w wo wn wc W) (hb : Below w.heap.size w w') : InW w' wo wn wc W := ⟨h.sv.below hb, h.byt⟩

theorem st0_ok (R L : Nat) (n : Nat) : StOk R L ⟨[], false, n, false⟩ := ⟨fun _ hc => (nomatch hc), by simp⟩
def envR (w : World) (ro : Option Addr) (rn rc : Nat) (no : Option Addr) (nn nc : Nat) (NK : List (Nd × (Option Addr × Nat))) (G : Gr) (wo : Option Addr) (wn wc : Nat) (W : List Nat) : Env := ⟨w, w.heap.size, ro, rn, rc, no, nn, nc, NK, G, wo, wn, wc, W⟩
theorem envR_ok {w : World} {ro : Option Addr} {rn rc : Nat} {no : Option Addr} {nn nc : Nat} {NK : List (Nd × (Option Addr × Nat))} {G : Gr} {wo : Option Addr} {wn wc : Nat} {W : List Nat} (hG : GrW w ro rn rc no nn nc NK G) (hW : InW w wo wn wc W) (hc : ClsOk G) (hw : wn ≤ 2048) (hr : rightR G = true) : EnvOk (envR w ro rn rc no nn nc NK G wo wn wc W) :=
 ⟨hG, hW.sv, gok_of hr hc, Nat.le_refl _, hW.len, hw, hW.byt⟩
theorem envR_rw (w : World) (ro : Option Addr) (rn rc : Nat) (no : Option Addr) (nn nc : Nat) (NK : List (Nd × (Option Addr × Nat))) (G : Gr) (wo : Option Addr) (wn wc : Nat) (W : List Nat) :
  RW (envR w ro rn rc no nn nc NK G wo wn wc W) (w.alloc (.cells #[.slice ro rn rc, .slice no nn nc, .slice wo wn wc, .slice none 0 0, .bool false, .int .i64 20000, .bool false] 62)) ⟨[], false, 20000, false⟩ (.slice none 0 0) [] :=
 ⟨hrow.new _ _ _, (Below.refl _ _).alloc (Nat.le_refl _) _, rfl, World.ownsRow_nil _ _ _ _, fun _ hc => (nomatch hc)⟩
theorem rrun_any {w : World} {ro : Option Addr} {rn rc : Nat} {no : Option Addr} {nn nc : Nat} {NK : List (Nd × (Option Addr × Nat))} {G : Gr} {wo : Option Addr} {wn wc : Nat} {W : List Nat} (hG : GrW w ro rn rc no nn nc NK G) (hW : InW w wo wn wc W) (hc : ClsOk G) (hw : wn ≤ 2048) (hr : rightR G = true) (rule p : Nat) (hru : rule < G.rules.length) (hp : p ≤ wn) :
  Calls Try.prog 18 #[.pointer (some ⟨w.heap.size, 0, none⟩), .int .i64 rule, .int .i64 p] (w.alloc (.cells #[.slice ro rn rc, .slice no nn nc, .slice wo wn wc, .slice none 0 0, .bool false, .int .i64 20000, .bool false] 62))
   (REnd (envR w ro rn rc no nn nc NK G wo wn wc W) (w.alloc (.cells #[.slice ro rn rc, .slice no nn nc, .slice wo wn wc, .slice none 0 0, .bool false, .int .i64 20000, .bool false] 62)) (runR G W rule p)) :=
 rcall_any (envR w ro rn rc no nn nc NK G wo wn wc W) (envR_ok hG hW hc hw hr) 20000 (reval _ (envR_ok hG hW hc hw hr) 20000) _ ⟨[], false, 20000, false⟩ (.slice none 0 0) [] rule p (envR_rw w ro rn rc no nn nc NK G wo wn wc W) (Nat.le_refl _) (Nat.le_refl _) (by decide) (st0_ok _ _ _) rfl hru (hW.len ▸ hp)

section
variable (w : World) (ro : Option Addr) (rn rc : Nat) (no : Option Addr) (nn nc : Nat) (NK : List (Nd × (Option Addr × Nat))) (G : Gr) (hG : GrW w ro rn rc no nn nc NK G) (wo : Option Addr) (wn wc : Nat) (W : List Nat) (hW : InW w wo wn wc W) (hcl : ClsOk G) (hw : wn ≤ 2048)
theorem rright_lit {w' : World} (b : Bool) (hG : GrW w ro rn rc no nn nc NK G) (hb : rightR G = b) (hw' : Below w.heap.size w w') : Calls Try.prog 17 #[.agg #[.slice ro rn rc, .slice no nn nc]] w' fun e w'' => e = .returned (.bool b) ∧ Below w'.heap.size w' w'' := by
 rw [← hb]
 exact rright_any w' ro rn rc no nn nc NK G (hG.below hw')
include hG hW
theorem rlong_bad (rule place : Int) (hbad : ¬ Ask G wn rule place) :
  Calls Try.prog 6 #[grv ro rn rc no nn nc, .slice wo wn wc, .int .i64 rule, .int .i64 place] w fun e w' => e = .returned (.bool false) ∧ Below w.heap.size w w' := by
 have hrl : G.rules.length = rn := hG.rul.n_eq ruc_len (by decide)
 have hrb := hG.rul.bound
 have hwb := hW.sv.bound
 have HRr := Lib.hid (fun (b : Bool) (w' : World) (hb : rightR G = b) (hw' : Below w.heap.size w w') => rright_lit (w := w) ro rn rc no nn nc NK G b hG hb hw')
 have HB0 := Lib.hid (al1 (Below.refl w.heap.size w) (.cells #[.slice ro rn rc, .slice no nn nc] 25))
 have HR0 := Lib.hid (hrow.new w #[.slice ro rn rc, .slice no nn nc] 25)
 have HRl := Lib.hid hrl
 clear hrl
 unfold grv
 cases hr : rightR G with
 | false =>
  have HR := Lib.hid hr
  clear hr hbad
  go_enter Try.func6, Try.ntmps6
  go_wp2_with fail
  refine (HRr.out false _ HR.out HB0.out).mono ?_
  rintro e w2 ⟨rfl, hb2⟩
  have HB2 := Lib.hid (HB0.out.trans (hb2.mono HB0.out.size))
  clear hb2
  go_wp2_with fail
  go_ret
  exact ⟨rfl, HB2.out⟩
 | true =>
  have HR := Lib.hid hr
  have hq : rule < 0 ∨ (0 ≤ rule ∧ rn ≤ rule) ∨ (0 ≤ rule ∧ rule < rn ∧ place < 0) ∨ (0 ≤ rule ∧ rule < rn ∧ 0 ≤ place ∧ wn < place) := by
   have := HRl.out
   by_cases h1 : rule < 0
   ·exact .inl h1
   by_cases h2 : (rn : Int) ≤ rule
   ·exact .inr (.inl ⟨by omega, h2⟩)
   by_cases h3 : place < 0
   ·exact .inr (.inr (.inl ⟨by omega, by omega, h3⟩))
   by_cases h4 : (wn : Int) < place
   ·exact .inr (.inr (.inr ⟨by omega, by omega, by omega, h4⟩))
   exact absurd ⟨hr, by omega, by omega, by omega, by omega⟩ hbad
  clear hr hbad
  rcases hq with h1 | ⟨h1, h2⟩ | ⟨h1, h2, h3⟩ | ⟨h1, h2, h3, h4⟩
  all_goals
   go_enter Try.func6, Try.ntmps6
   go_wp2_with fail
   refine (HRr.out true _ HR.out HB0.out).mono ?_
   rintro e w2 ⟨rfl, hb2⟩
   have g0 : w2.cell? ⟨w.heap.size, 0, none⟩ = some (.slice ro rn rc) := (HR0.out.below hb2).cell 0
   have HB2 := Lib.hid (HB0.out.trans (hb2.mono HB0.out.size))
   clear hb2
   go_wp2_with fail
   go_ret
   exact ⟨rfl, HB2.out⟩
include hcl hw
theorem rlong_ok (rule p : Nat) (hok : Ask G wn rule p) :
  Calls Try.prog 6 #[grv ro rn rc no nn nc, .slice wo wn wc, .int .i64 rule, .int .i64 p] w fun e w' => e = .returned (.bool (runR G W rule p).2.over) ∧ Below w.heap.size w w' := by
 have hrl : G.rules.length = rn := hG.rul.n_eq ruc_len (by decide)
 have hrb := hG.rul.bound
 have hwb := hW.sv.bound
 have HRr := Lib.hid (fun (b : Bool) (w' : World) (hb : rightR G = b) (hw' : Below w.heap.size w w') => rright_lit (w := w) ro rn rc no nn nc NK G b hG hb hw')
 have HB0 := Lib.hid (al1 (Below.refl w.heap.size w) (.cells #[.slice ro rn rc, .slice no nn nc] 25))
 have HR0 := Lib.hid (hrow.new w #[.slice ro rn rc, .slice no nn nc] 25)
 have hr1 := hok.r1
 have hp1 := hok.p1
 have HRun := Lib.hid (fun (w' : World) (hb : Below w.heap.size w w') => rrun_any (hG.below hb) (hW.below hb) hcl hw hok.right rule p (by omega) (by omega))
 have HOk := Lib.hid hok.right
 rw [hrl] at hr1
 have h0 : (0 : Int) ≤ rule := by omega
 have h1 : (0 : Int) ≤ p := by omega
 clear hrl hok
 generalize runR G W rule p = o at *
 obtain ⟨⟨xi, xe, xf, xt, xr⟩, s2⟩ := o
 unfold grv
 go_enter Try.func6, Try.ntmps6
 go_wp2_with fail
 refine (HRr.out true _ HOk.out HB0.out).mono ?_
 rintro e w2 ⟨rfl, hb2⟩
 obtain ⟨g0, g1⟩ := ((HR0.out.below hb2)).c2
 have HB2 := Lib.hid (HB0.out.trans (hb2.mono HB0.out.size))
 clear hb2 HR0
 go_wp2_with fail
 refine (HRun.out w2 HB2.out).mono ?_
 rintro e w6 ⟨v6, KS6, o6, c6, rfl, i1, i2, i3⟩
 have j1 : w6.cell? ⟨w2.heap.size, 6, none⟩ = some (.bool s2.over) := i1.obj.cell 6
 have HL : Hid (Below w.heap.size w w6) := HB2.out.trans (i1.low.mono HB2.out.size)
 clear i1 i2 i3
 go_wp2_with fail
 go_ret
 exact ⟨rfl, HL.out⟩
end
end Go.Proofs.Ytdnkffplkleolaa
namespace Go.Proofs.Ytdnkffplkleolaa
open Go.RowKit
set_option maxRecDepth 100000
set_option maxHeartbeats 4000000

/-- What is told of a match. -/
structure Ot where
 is : Bool
 en : Int
 far : Int
 tree : List Tw
 n : Int
 e : Int
def otE (e : Int) : Ot := ⟨false, 0, 0, [], 0, e⟩
def outK (o : Rs × St) : Ot := if o.2.round then otE 13 else if o.1.is then ⟨true, o.1.en, o.1.far, o.1.tree, o.2.cells.length, 0⟩ else ⟨false, 0, o.1.far, [], o.2.cells.length, 0⟩
def outW (G : Gr) (W : List Nat) (rule place : Int) : Ot :=
 if rightR G = false then otE 4 else if 2048 < W.length then otE 3 else if rule < 0 ∨ G.rules.length ≤ rule then otE 2 else if place < 0 ∨ W.length < place then otE 6 else outK (runR G W rule.toNat place.toNat)
/-- It is told, with a tree of its own. -/
def Told (w : World) (o : Ot) (e : Ending) (w' : World) : Prop := ∃ ao cap, e = .returned (.tuple #[.agg #[.bool o.is, .int .i64 o.en, .int .i64 o.far, .slice ao o.tree.length cap], .int .i64 o.n, .int .i64 o.e]) ∧ Below w.heap.size w w' ∧ TrW w' ao cap o.tree

def set4 (w : World) (g : Nat) (x0 x1 x2 x3 : Value) : World := (((w.setCell ⟨g, 0, none⟩ x0).setCell ⟨g, 1, none⟩ x1).setCell ⟨g, 2, none⟩ x2).setCell ⟨g, 3, none⟩ x3
theorem set4_fr (w : World) (g : Nat) (x0 x1 x2 x3 : Value) : Fr (fun k => k = g) w (set4 w g x0 x1 x2 x3) :=
 (((Fr.setCell w ⟨g, 0, none⟩ x0).trans (Fr.setCell _ ⟨g, 1, none⟩ x1) (fun _ _ h => h)).trans (Fr.setCell _ ⟨g, 2, none⟩ x2) (fun _ _ h => h)).trans (Fr.setCell _ ⟨g, 3, none⟩ x3) (fun _ _ h => h)
theorem set4_row {w : World} {g : Nat} {a0 a1 a2 a3 : Value} {t : TypeId} (x0 x1 x2 x3 : Value) (h : hrow w g #[a0, a1, a2, a3] t) : hrow (set4 w g x0 x1 x2 x3) g #[x0, x1, x2, x3] t := by
 have h1 : hrow (w.setCell ⟨g, 0, none⟩ x0) g #[x0, a1, a2, a3] t := heap_setCell_same _ _ _ _ _ _ h.h
 have h2 : hrow ((w.setCell ⟨g, 0, none⟩ x0).setCell ⟨g, 1, none⟩ x1) g #[x0, x1, a2, a3] t := heap_setCell_same _ _ _ _ _ _ h1.h
 have h3 : hrow (((w.setCell ⟨g, 0, none⟩ x0).setCell ⟨g, 1, none⟩ x1).setCell ⟨g, 2, none⟩ x2) g #[x0, x1, x2, a3] t := heap_setCell_same _ _ _ _ _ _ h2.h
 exact heap_setCell_same _ _ _ _ _ _ h3.h

theorem box1 (w : World) (v : Array Value) (t : TypeId) : Hid (Below w.heap.size w (w.alloc (.cells v t))) ∧ Hid (hrow (w.alloc (.cells v t)) w.heap.size v t) :=
 ⟨(Below.refl _ _).alloc (Nat.le_refl _) _, hrow.new w v t⟩
theorem box2 (w : World) (a b : Array Value) (ta tb : TypeId) : Hid (Below w.heap.size w ((w.alloc (.cells a ta)).alloc (.cells b tb))) ∧ Hid (hrow ((w.alloc (.cells a ta)).alloc (.cells b tb)) w.heap.size a ta) ∧ Hid (hrow ((w.alloc (.cells a ta)).alloc (.cells b tb)) (w.heap.size + 1) b tb) :=
 ⟨al2 (Below.refl w.heap.size w) _ _, (hrow.new w a ta).below ((Below.refl _ _).alloc (Nat.le_refl _) _), by have h := hrow.new (w.alloc (.cells a ta)) b tb; rw [World.size_alloc] at h; exact h⟩
theorem set4_box {w : World} {g : Nat} {a0 a1 a2 a3 : Value} {t : TypeId} (x0 x1 x2 x3 : Value) (h : hrow w g #[a0, a1, a2, a3] t) : Hid (hrow ((((w.setCell ⟨g, 0, none⟩ x0).setCell ⟨g, 1, none⟩ x1).setCell ⟨g, 2, none⟩ x2).setCell ⟨g, 3, none⟩ x3) g #[x0, x1, x2, x3] t) ∧ Hid (Fr (fun k => k = g) w ((((w.setCell ⟨g, 0, none⟩ x0).setCell ⟨g, 1, none⟩ x1).setCell ⟨g, 2, none⟩ x2).setCell ⟨g, 3, none⟩ x3)) :=
 ⟨set4_row x0 x1 x2 x3 h, set4_fr w g x0 x1 x2 x3⟩
theorem set4_cell {w : World} {g : Nat} {x0 x1 x2 x3 : Value} {a : Addr} {x : Value} (h : w.cell? a = some x) (hk : a.block ≠ g) : ((((w.setCell ⟨g, 0, none⟩ x0).setCell ⟨g, 1, none⟩ x1).setCell ⟨g, 2, none⟩ x2).setCell ⟨g, 3, none⟩ x3).drew.cell? a = some x := by
 have e := ((set4_fr w g x0 x1 x2 x3).trans (Fr.of_below (F := fun _ => False) (Below.refl _ _).drew) (fun _ _ h => h.elim)).block a.block (World.block_lt_of_cell? _ _ h) hk
 unfold set4 at e
 generalize ((((w.setCell ⟨g, 0, none⟩ x0).setCell ⟨g, 1, none⟩ x1).setCell ⟨g, 2, none⟩ x2).setCell ⟨g, 3, none⟩ x3).drew = w' at e ⊢
 exact (World.cell?_of_block (a := a) e).trans h
theorem told_below {w w2 wz : World} {h8 : Nat} (h : Below w.heap.size w w2) (hf : Fr (fun k => k = h8) w2 wz) (hh : w.heap.size ≤ h8) : Below w.heap.size w wz :=
 h.trans (hf.below h.size (fun k hk e => by have e' : k = h8 := e; omega))
section
variable (w : World) (ro : Option Addr) (rn rc : Nat) (no : Option Addr) (nn nc : Nat) (NK : List (Nd × (Option Addr × Nat))) (G : Gr) (hG : GrW w ro rn rc no nn nc NK G) (wo : Option Addr) (wn wc : Nat) (W : List Nat) (hW : InW w wo wn wc W) (hcl : ClsOk G) (hw : wn ≤ 2048)
include hG hW
include hw
include hcl
end
end Go.Proofs.Ytdnkffplkleolaa
namespace Go.Proofs.Ytdnkffplkleolaa

def lateG : Gr := gramN [ofN 7 [wordN ⟨#[99]⟩, callN 0 0]]
def exO : Ot := ⟨true, 3, 2, [⟨0, 0, 0, 3, 1⟩, ⟨0, 0, 1, 3, 1⟩, ⟨0, 0, 2, 3, 1⟩, ⟨1, 0, 2, 3, 0⟩], 4, 0⟩
theorem ex_out : outW exG [97, 97, 98] 0 0 = exO := by kernel_rfl
theorem kn_out : outW knG0 [98, 97] 0 0 = otE 13 := by kernel_rfl
theorem lc_out : outW lateG [99] 0 0 = ⟨true, 1, -1, [⟨0, 0, 0, 1, 0⟩], 1, 0⟩ := by kernel_rfl
theorem la_out : outW lateG [97] 0 0 = otE 13 := by kernel_rfl
end Go.Proofs.Ytdnkffplkleolaa
