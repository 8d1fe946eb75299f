/- Walks and plain laws: Lt Pg Lu. -/
import Derived.Test.YtdnkffplkleolaaGreatM09
import Derived.Test.YtdnkffplkleolaaGreatM24
import Derived.Test.YtdnkffplkleolaaGreatM33
import Derived.BigRegion
namespace Go.Proofs.YtdnkffplkleolaaGreat
open Go.RowKit
set_option maxRecDepth 100000
set_option maxHeartbeats 2000000

theorem copyRu_any (w : World) (ao : Option Addr) (n cap : Nat) (R : List Ru) (hs : Sv w ao n cap 2 (R.flatMap ruc)) (hbig : n ≤ 100000) :
  Calls Tryz.prog 44 #[.slice ao n cap] w fun r w' => ∃ bo bc, r = .returned (.slice bo n bc) ∧ w'.ownsRow w.heap.size 112 2 (.slice bo n bc) n (R.flatMap ruc) ∧ Below w.heap.size w w' := by
 have HS := Lib.hid hs
 have HO := Lib.hid (ruc_one R)
 have HLn : Hid ((0 + n) * 24 ≤ 140737488355328 ∧ 0 + n ≤ maxLen) := ⟨by omega, by simp only [maxLen]; omega⟩
 have hb := hs.bound
 clear hs hbig
 go_enter Tryz.func44, Tryz.ntmps44
 go_wp2_with (at_builtin; refine wpList_apps w w rfl _ _ 22 112 rfl elemRu _ 0 [] rfl (Own.nil w 112 2) ao n cap (R.flatMap ruc) rfl HS.out HO.out HLn.out.1 HLn.out.2 ?_; intro v' w1 hO1; have HO1 := Lib.hid hO1; clear hO1)
 rw [Nat.zero_add, List.nil_append] at HO1
 obtain ⟨bo, bc, rfl, ho⟩ := HO1.out.sl
 go_wp2_with fail
 go_ret
 exact ⟨bo, bc, rfl, ho, HO1.out.2⟩

theorem copyGr_any (w : World) (ro no : Option Addr) (rn rc nn nc : Nat) (NK : List (Nd × (Option Addr × Nat))) (G : Gr) (hg : GrW w ro rn rc no nn nc NK G) (hr : rn ≤ 100000) (hn : nn ≤ 100000) (hkb : ∀ p ∈ NK, p.1.kids.length ≤ 100000) :
  Calls Tryz.prog 20 #[.agg #[.slice ro rn rc, .slice no nn nc]] w (Gk w G) := by
 have hnl := hg.nod.sv.n_eq ndc_len (by decide)
 have HNl := Lib.hid hnl
 have HEq := Lib.hid hg.eq
 have HR := Lib.hid (fun w' (hb : Below w.heap.size w w') => copyRu_any w' ro rn rc G.rules (hg.rul.below hb) hr)
 have HN := Lib.hid (fun w' (hb : Below w.heap.size w w') => copyNs_any w' no nn nc NK (hg.nod.below hb) hn hkb)
 obtain ⟨hx1, hx2⟩ := hg.rul.bound
 obtain ⟨hx3, hx4⟩ := hg.nod.sv.bound
 have HB0 := Lib.hid (al2 (Below.refl w.heap.size w) (.cells #[.slice ro rn rc, .slice no nn nc] 25) (.cells #[.slice none 0 0, .slice none 0 0] 25))
 have HA0 := Lib.hid ((hrow.new w #[.slice ro rn rc, .slice no nn nc] 25).below ((Below.refl _ _).alloc (Nat.le_refl _) (.cells #[.slice none 0 0, .slice none 0 0] 25)))
 have HZ0 : Hid (hrow ((w.alloc (.cells #[.slice ro rn rc, .slice no nn nc] 25)).alloc (.cells #[.slice none 0 0, .slice none 0 0] 25)) (w.heap.size + 1) #[.slice none 0 0, .slice none 0 0] 25) := by have h := hrow.new (w.alloc (.cells #[.slice ro rn rc, .slice no nn nc] 25)) #[.slice none 0 0, .slice none 0 0] 25; rwa [World.size_alloc] at h
 clear hg hr hn hkb hnl
 go_enter Tryz.func20, Tryz.ntmps20
 go_upto_region 1 with (fail)
 revert HB0 HA0 HZ0
 generalize (w.alloc _).alloc _ = w1
 generalize hh1 : w.heap.size + 1 = h1
 generalize hh0 : w.heap.size = h0
 intro HB0 HA0 HZ0
 have HH : Hid (w.heap.size = h0 ∧ h0 + 1 = h1) := ⟨hh0, by omega⟩
 have hne : h0 ≠ h1 := by omega
 have HB1 : Hid (Below w.heap.size w w1) := by rw [hh0]; exact HB0.out
 clear HB0 hh0 hh1
 have HR1 := Lib.hid (HR.out w1 HB1.out)
 have a0 : w1.cell? ⟨h0, 0, none⟩ = some (.slice ro rn rc) := HA0.out.cell 0
 clear HR
 go_wp2_with fail
 refine (HR1.out).mono ?_
 rintro e w2 ⟨ro2, rc2, rfl, hk, hb2⟩
 have HA2 := Lib.hid (HA0.out.below hb2)
 have HZ2 := Lib.hid (HZ0.out.below hb2)
 have HK2 := Lib.hid (hk.mono HB1.out.size)
 have HB2 := Lib.hid (HB1.out.trans (hb2.mono HB1.out.size))
 clear hb2 hk a0 HR1 HA0 HZ0 HB1
 have b0 : w2.cell? ⟨h0, 0, none⟩ = some (.slice ro rn rc) := HA2.out.cell 0
 have b0f := HA2.out.frozen 0
 have hf3 := Fr.setCell w2 ⟨h0, 0, none⟩ (.slice ro2 rn rc2)
 have HA3 : Hid (hrow (w2.setCell ⟨h0, 0, none⟩ (.slice ro2 rn rc2)) h0 #[.slice ro2 rn rc2, .slice no nn nc] 25) := heap_setCell_same _ _ _ _ _ _ HA2.out.h
 have HZ3 := Lib.hid (HZ2.out.fr hf3 (fun e => hne e.symm))
 have HK3 := Lib.hid (owns_set HK2.out HA2.out (by decide) 0 (.slice ro2 rn rc2))
 have HB3 := Lib.hid (HB2.out.setCell (p := ⟨h0, 0, none⟩) (by have := HH.out; show w.heap.size ≤ h0; omega) (.slice ro2 rn rc2))
 go_upto_region 2 with (fail)
 clear b0 b0f HA2 HZ2 HB2 HK2 hf3
 revert HA3 HZ3 HK3 HB3
 generalize w2.setCell _ _ = w3
 intro HA3 HZ3 HK3 HB3
 obtain ⟨a0, a1⟩ := (HA3.out).c2
 have HN3 := Lib.hid (HN.out w3 HB3.out)
 clear HN
 go_wp2_with fail
 refine (HN3.out).mono ?_
 rintro e w4 ⟨v4, NL, rfl, hc, hm, hb4⟩
 obtain ⟨no2, nc2, hv4, hs4⟩ := Sv.of_owns hc.own
 have hlen : NL.length = nn := by have := congrArg List.length hm; simp at this; have := HNl.out; omega
 rw [hlen] at hv4
 subst hv4
 have HC4 := Lib.hid (hc.mono HB3.out.size)
 have HM4 := Lib.hid (hm.trans HEq.out)
 have HL4 := Lib.hid hlen
 have HA4 := Lib.hid (HA3.out.below hb4)
 have HZ4 := Lib.hid (HZ3.out.below hb4)
 have HK4 := Lib.hid (owns_fr HK3.out (Fr.of_below (F := fun _ => False) hb4) (fun _ _ h => h))
 have HB4 := Lib.hid (HB3.out.trans (hb4.mono HB3.out.size))
 clear hb4 hc hm hs4 hlen a0 a1 HN3 HA3 HZ3 HK3 HB3 HNl HEq
 obtain ⟨b0, b1⟩ := (HA4.out).c2
 have b1f := HA4.out.frozen 1
 have hf5 := Fr.setCell w4 ⟨h0, 1, none⟩ (.slice no2 nn nc2)
 have HA5 : Hid (hrow (w4.setCell ⟨h0, 1, none⟩ (.slice no2 nn nc2)) h0 #[.slice ro2 rn rc2, .slice no2 nn nc2] 25) := heap_setCell_same _ _ _ _ _ _ HA4.out.h
 have HZ5 := Lib.hid (HZ4.out.fr hf5 (fun e => hne e.symm))
 have HO5 : Hid (Og w.heap.size (w4.setCell ⟨h0, 1, none⟩ (.slice no2 nn nc2)) ro2 rn rc2 no2 nn nc2 NL G) := (Og.mk HK4.out HC4.out HM4.out HL4.out.symm).set HA4.out 1 (.slice no2 nn nc2)
 have HB5 := Lib.hid (HB4.out.setCell (p := ⟨h0, 1, none⟩) (by have := HH.out; show w.heap.size ≤ h0; omega) (.slice no2 nn nc2))
 go_upto_region 3 with (fail)
 clear b0 b1 b1f HA4 HZ4 HB4 HK4 HC4 HM4 HL4 hf5
 revert HA5 HZ5 HO5 HB5
 generalize w4.setCell _ _ = w5
 intro HA5 HZ5 HO5 HB5
 obtain ⟨a0, a1⟩ := (HA5.out).c2
 obtain ⟨zq0, zq1⟩ := (HZ5.out).c2
 obtain ⟨zf0, zf1⟩ := (HZ5.out).f2
 have zr := set2_row (.slice ro2 rn rc2) (.slice no2 nn nc2) HZ5.out
 have zf := set2_fr w5 h1 (.slice ro2 rn rc2) (.slice no2 nn nc2)
 have zg := HO5.out.set2 HZ5.out (.slice ro2 rn rc2) (.slice no2 nn nc2)
 unfold set2 at zr zf zg
 have ZR := Lib.hid zr
 have ZF := Lib.hid zf
 have ZG := Lib.hid zg
 clear zr zf zg
 go_wp2_with fail
 revert ZR ZF ZG
 generalize (w5.setCell _ _).setCell _ _ = wz
 intro ZR ZF ZG
 obtain ⟨zc0, zc1⟩ := (ZR.out).c2
 exact bodyPost_ret (v := .agg #[.slice ro2 rn rc2, .slice no2 nn nc2]) (by simp [results, Tryz.results20, go_sem, zc0, zc1]) rfl ⟨ro2, rn, rc2, no2, nn, nc2, NL, rfl, ZG.out, HB5.out.trans (ZF.out.below HB5.out.size (fun k hk e => by have e' : k = h1 := e; have := HH.out; omega))⟩

/-- A node's level is written. -/
theorem Cn.lev {B : Nat} {w : World} {g n cap : Nat} {NL : List (Nd × (Option Addr × Nat))} (h : Cn B w (.slice (some ⟨g, 0, none⟩) n cap) NL) {i : Nat} {x : Nd} {q : Option Addr × Nat} (hi : NL[i]? = some (x, q)) (l : Int) :
  Cn B (w.setCell ⟨g, i * 9 + 7, none⟩ (.int .i64 l)) (.slice (some ⟨g, 0, none⟩) n cap) (NL.set i ({ x with lev := l }, q)) := by
 have hn : n = NL.length := by
  rcases h.own.2 with ⟨e, _⟩ | ⟨g1, c1, cur, e, _⟩
  ·cases e
  ·simp only [Value.slice.injEq] at e; omega
 have hil := (List.getElem?_eq_some_iff.1 hi).1
 have hset : (NL.flatMap ndc).set (i * 9 + 7) (.int .i64 l) = (NL.set i ({ x with lev := l }, q)).flatMap ndc := by
  clear h hn hil
  induction NL generalizing i with
  | nil => simp at hi
  | cons p NL ih =>
   cases i with
   | zero =>
    simp only [List.getElem?_cons_zero, Option.some.injEq] at hi
    subst hi
    simp only [List.flatMap_cons, List.set_cons_zero]
    rfl
   | succ i =>
    simp only [List.getElem?_cons_succ] at hi
    rw [List.flatMap_cons, List.set_append_right _ _ (by rw [ndc_len]; omega), ndc_len, List.set_cons_succ, List.flatMap_cons, ← ih hi]
    congr 2
    omega
 have hown := (World.ownsRow.stored (n := n) (by rw [hn]; have h2 := h.own; rw [← hn] at h2 ⊢; exact h2) (i * 9 + 7) (.int .i64 l)).1
 refine ⟨?_, fun p hp => ?_, fun a b p q' g' ha hb hp hq => ?_⟩
 ·rw [List.length_set, ← hn, ← hset]; exact hown
 ·have hk : ∃ p', p' ∈ NL ∧ kv p' = kv p ∧ p'.1.kids = p.1.kids := by
   obtain ⟨a, ha⟩ := List.mem_iff_getElem?.1 hp
   rw [List.getElem?_set] at ha
   by_cases he : i = a
   ·subst he
    rw [if_pos rfl, if_pos hil] at ha
    obtain rfl := Option.some.inj ha
    exact ⟨_, List.mem_of_getElem? hi, rfl, rfl⟩
   ·rw [if_neg he] at ha; exact ⟨p, List.mem_of_getElem? ha, rfl, rfl⟩
  obtain ⟨p', h1, h2, h3⟩ := hk
  have h4 := h.kids p' h1
  rw [h2, h3] at h4
  refine ownsRow_setCell_other h4 (fun e => ?_) _
  exact absurd (owns_type h4 h.own e rfl) (by decide)
 ·have key : ∀ (a : Nat) (p : Nd × (Option Addr × Nat)), (NL.set i ({ x with lev := l }, q))[a]? = some p → ∃ p', NL[a]? = some p' ∧ kv p' = kv p := by
   intro a p ha
   rw [List.getElem?_set] at ha
   by_cases he : i = a
   ·subst he
    rw [if_pos rfl, if_pos hil] at ha
    obtain rfl := Option.some.inj ha
    exact ⟨_, hi, rfl⟩
   ·rw [if_neg he] at ha; exact ⟨p, ha, rfl⟩
  obtain ⟨p1, h1, h2⟩ := key a p ha
  obtain ⟨q1, h3, h4⟩ := key b q' hb
  rw [← h2] at hp; rw [← h4] at hq
  exact h.ap a b p1 q1 g' h1 h3 hp hq
end Go.Proofs.YtdnkffplkleolaaGreat
namespace Go.Proofs.YtdnkffplkleolaaGreat

/-- The same grammar, but for the levels of its calls. -/
structure Lev (G G' : Gr) : Prop where
 ru : G'.rules = G.rules
 nd : ∀ i : Nat, (G.nodes[i]? = none ∧ G'.nodes[i]? = none) ∨ ∃ (x : Nd) (l : Int), G.nodes[i]? = some x ∧ G'.nodes[i]? = some { x with lev := l } ∧ (l = x.lev ∨ (x.kind = 5 ∧ 0 ≤ x.lev ∧ x.lev ≤ 99 ∧ 0 ≤ l ∧ l ≤ 99))
section
variable {G G' : Gr} (h : Lev G G')
include h
theorem Lev.len : G'.nodes.length = G.nodes.length := by
 have h1 := h.nd G.nodes.length
 have h2 := h.nd G'.nodes.length
 rcases h1 with ⟨a, b⟩ | ⟨x, l, a, b, c⟩ <;> rcases h2 with ⟨a', b'⟩ | ⟨x', l', a', b', c'⟩
 ·have := List.getElem?_eq_none_iff.1 b; have := List.getElem?_eq_none_iff.1 a'; omega
 ·have := (List.getElem?_eq_some_iff.1 b').1; omega
 ·have := (List.getElem?_eq_some_iff.1 a).1; omega
 ·have := (List.getElem?_eq_some_iff.1 a).1; omega
theorem Lev.kind (E : St → Nat → Nat → Rs × St) (W : List Nat) (x : Nd) (l : Int) (p : Nat) (s : St) : kindR E G' W { x with lev := l } p s = kindR E G W x p s := by
 unfold kindR callR
 rw [h.ru]
 rfl
theorem Lev.ev (W : List Nat) : ∀ f, Go.Proofs.YtdnkffplkleolaaGreat.ev G' W f = Go.Proofs.YtdnkffplkleolaaGreat.ev G W f
 | 0 => rfl
 | f + 1 => by
  funext s n p
  simp only [Go.Proofs.YtdnkffplkleolaaGreat.ev]
  rcases h.nd n with ⟨a, b⟩ | ⟨x, l, a, b, c⟩
  ·rw [a, b]
  ·rw [a, b]
   simp only []
   rw [h.kind, Lev.ev W f]
theorem Lev.run (W : List Nat) (rule p : Nat) : runR G' W rule p = runR G W rule p := by
 unfold runR callR
 rw [h.ev, h.ru]
theorem Lev.aft : ∀ f n, Go.Proofs.YtdnkffplkleolaaGreat.aft G'.nodes f n = Go.Proofs.YtdnkffplkleolaaGreat.aft G.nodes f n
 | 0, _ => rfl
 | f + 1, n => by
  have e : Go.Proofs.YtdnkffplkleolaaGreat.aft G'.nodes f = Go.Proofs.YtdnkffplkleolaaGreat.aft G.nodes f := funext fun n => Lev.aft f n
  simp only [Go.Proofs.YtdnkffplkleolaaGreat.aft]
  rcases h.nd n with ⟨a, b⟩ | ⟨x, l, a, b, c⟩
  ·rw [a, b]
  ·rw [a, b, e]
omit h in
theorem Lev.node (n : Nat) (x : Nd) (l : Int) (c : l = x.lev ∨ (x.kind = 5 ∧ 0 ≤ x.lev ∧ x.lev ≤ 99 ∧ 0 ≤ l ∧ l ≤ 99)) : nodeB n { x with lev := l } = nodeB n x := by
 rcases c with rfl | ⟨c1, c2, c3, c4, c5⟩
 ·rfl
 ·unfold nodeB
  simp [c1, c2, c3, c4, c5, clsB, txtB]
theorem Lev.right : rightR G' = rightR G := by
 have h1 : sizB G' = sizB G := by unfold sizB; rw [h.ru, h.len]
 have h2 : G'.nodes.all (nodeB G'.rules.length) = G.nodes.all (nodeB G.rules.length) := by
  rw [h.ru, Bool.eq_iff_iff, List.all_eq_true, List.all_eq_true]
  constructor
  ·intro k x hx
   obtain ⟨i, hi⟩ := List.mem_iff_getElem?.1 hx
   rcases h.nd i with ⟨a, b⟩ | ⟨y, l, a, b, c⟩
   ·rw [a] at hi; cases hi
   ·rw [a] at hi; cases hi
    rw [← Lev.node _ x l c]; exact k _ (List.mem_of_getElem? b)
  ·intro k x hx
   obtain ⟨i, hi⟩ := List.mem_iff_getElem?.1 hx
   rcases h.nd i with ⟨a, b⟩ | ⟨y, l, a, b, c⟩
   ·rw [b] at hi; cases hi
   ·rw [b] at hi; cases hi
    rw [Lev.node _ y l c]; exact k _ (List.mem_of_getElem? a)
 have h3 : ∀ (rs : List Ru) (k n : Nat), rulR G' rs k n = rulR G rs k n := by
  intro rs
  induction rs with
  | nil => intro k n; rfl
  | cons r rs ih =>
   intro k n
   simp only [rulR, h.ru, h.aft, ih]
 unfold rightR
 rw [h1, h2, h.ru, h3, h.len]
theorem Lev.out (W : List Nat) (rule place : Int) : outW G' W rule place = outW G W rule place := by
 unfold outW
 rw [h.right, h.ru, h.run]
end
end Go.Proofs.YtdnkffplkleolaaGreat
namespace Go.Proofs.YtdnkffplkleolaaGreat
open Go.RowKit
set_option maxRecDepth 100000
set_option maxHeartbeats 8000000

theorem Lev.refl (G : Gr) : Lev G G := ⟨rfl, fun i => by
 cases h : G.nodes[i]? with
 | none => exact .inl ⟨rfl, rfl⟩
 | some x => exact .inr ⟨x, x.lev, rfl, rfl, .inl rfl⟩⟩
theorem Lev.cls {G G' : Gr} (h : Lev G G') (hc : ClsOk G) : ClsOk G' := by
 intro x hx i
 obtain ⟨j, hj⟩ := List.mem_iff_getElem?.1 hx
 rcases h.nd j with ⟨a, b⟩ | ⟨y, l, a, b, c⟩
 ·rw [b] at hj; cases hj
 ·rw [b] at hj; cases hj
  exact hc y (List.mem_of_getElem? a) i
theorem Lev.short {G G' : Gr} (h : Lev G G') {wn : Nat} {W : List Nat} {r p : Int} (hs : Short G wn W r p) : Short G' wn W r p := by
 intro a b ha hb hk
 have := hs a b ha hb ⟨by rw [← h.right]; exact hk.right, hk.r0, by rw [← h.ru]; exact hk.r1, hk.p0, hk.p1⟩
 rw [h.run]; exact this
theorem Og.grw {B : Nat} {w : World} {ro no : Option Addr} {rn rc nn nc : Nat} {NL : List (Nd × (Option Addr × Nat))} {G : Gr} (h : Og B w ro rn rc no nn nc NL G) (hr : ∀ r ∈ G.rules, r.name.size ≤ 9223372036854775807) (ht : ∀ x ∈ G.nodes, x.text.size ≤ 9223372036854775807) : GrW w ro rn rc no nn nc NL G := by
 obtain ⟨ro', rc', e, hs⟩ := Sv.of_owns h.rul
 simp only [Value.slice.injEq, true_and] at e
 obtain ⟨rfl, rfl⟩ := e
 obtain ⟨no', nc', e, hn⟩ := h.nod.ndw (fun p hp => ht p.1 (by rw [← h.eq]; exact List.mem_map_of_mem hp))
 rw [h.len] at e
 simp only [Value.slice.injEq, true_and] at e
 obtain ⟨rfl, rfl⟩ := e
 rw [h.len]
 exact ⟨hs, hr, hn, h.eq⟩
/-- The copy while its levels are written: the first k nodes have theirs. -/
structure Lw (G : Gr) (k : Nat) (NL : List (Nd × (Option Addr × Nat))) : Prop where
 lev : Lev G ⟨G.rules, NL.map (·.1)⟩
 rest : ∀ j, k ≤ j → (NL.map (·.1))[j]? = G.nodes[j]?
theorem Lw.skip {G : Gr} {k : Nat} {NL : List (Nd × (Option Addr × Nat))} (h : Lw G k NL) : Lw G (k + 1) NL := ⟨h.lev, fun j hj => h.rest j (by omega)⟩
theorem Lw.put {G : Gr} {k : Nat} {NL : List (Nd × (Option Addr × Nat))} (h : Lw G k NL) {x : Nd} {q : Option Addr × Nat} (hk : NL[k]? = some (x, q)) (h5 : x.kind = 5) (h0 : 0 ≤ x.lev) (h9 : x.lev ≤ 99) (l : Int) (l0 : 0 ≤ l) (l9 : l ≤ 99) : Lw G (k + 1) (NL.set k ({ x with lev := l }, q)) := by
 have hg : ∀ j, ((NL.set k (({ x with lev := l } : Nd), q)).map (·.1))[j]? = if k = j then some { x with lev := l } else (NL.map (·.1))[j]? := fun j => by
  rw [List.getElem?_map, List.getElem?_set, List.getElem?_map]
  by_cases he : k = j
  ·subst he; rw [if_pos rfl, if_pos (List.getElem?_eq_some_iff.1 hk).1, if_pos rfl]; rfl
  ·rw [if_neg he, if_neg he]
 have hx : G.nodes[k]? = some x := by rw [← h.rest k (Nat.le_refl _), List.getElem?_map, hk]; rfl
 refine ⟨⟨rfl, fun j => ?_⟩, fun j hj => ?_⟩
 ·show (G.nodes[j]? = none ∧ ((NL.set k (({ x with lev := l } : Nd), q)).map (·.1))[j]? = none) ∨ ∃ (y : Nd) (l' : Int), G.nodes[j]? = some y ∧ ((NL.set k (({ x with lev := l } : Nd), q)).map (·.1))[j]? = some { y with lev := l' } ∧ _
  rw [hg j]
  by_cases he : k = j
  ·subst he; rw [if_pos rfl]; exact .inr ⟨x, l, hx, rfl, .inr ⟨h5, h0, h9, l0, l9⟩⟩
  ·rw [if_neg he]; exact h.lev.nd j
 ·rw [hg j, if_neg (by omega)]; exact h.rest j (by omega)

theorem Og.drew {B : Nat} {w : World} {ro no : Option Addr} {rn rc nn nc : Nat} {NL : List (Nd × (Option Addr × Nat))} {G : Gr} (h : Og B w ro rn rc no nn nc NL G) : Og B w.drew ro rn rc no nn nc NL G := ⟨h.rul, h.nod.drew, h.eq, h.len⟩
/-- A level is written: what stands. -/
theorem lev_set {w0 wr : World} {ro ro2 no : Option Addr} {rn rc rc2 nn nc nc2 g g0 g3 k : Nat} {a : Addr} {NL : List (Nd × (Option Addr × Nat))} {R : List Ru} {x : Nd} {q : Option Addr × Nat} (hO : Og w0.heap.size wr ro2 rn rc2 (some a) nn nc2 NL ⟨R, NL.map (·.1)⟩) (h0 : hrow wr g0 #[.slice ro rn rc, .slice no nn nc] 25) (h3 : hrow wr g3 #[.slice ro2 rn rc2, .slice (some a) nn nc2] 25) (hb : Below w0.heap.size w0 wr)
  (ha : a = ⟨g, 0, none⟩) (had : ∀ j, (⟨(a.add (k * 9)).block, (a.add (k * 9)).off + j, none⟩ : Addr) = ⟨g, k * 9 + j, none⟩) (hk : NL[k]? = some (x, q)) (l : Int) :
  Og w0.heap.size (wr.setCell ⟨(a.add (k * 9)).block, (a.add (k * 9)).off + 7, none⟩ (.int .i64 l)) ro2 rn rc2 (some a) nn nc2 (NL.set k ({ x with lev := l }, q)) ⟨R, (NL.set k ({ x with lev := l }, q)).map (·.1)⟩ ∧
   hrow (wr.setCell ⟨(a.add (k * 9)).block, (a.add (k * 9)).off + 7, none⟩ (.int .i64 l)) g0 #[.slice ro rn rc, .slice no nn nc] 25 ∧ hrow (wr.setCell ⟨(a.add (k * 9)).block, (a.add (k * 9)).off + 7, none⟩ (.int .i64 l)) g3 #[.slice ro2 rn rc2, .slice (some a) nn nc2] 25 ∧ Below w0.heap.size w0 (wr.setCell ⟨(a.add (k * 9)).block, (a.add (k * 9)).off + 7, none⟩ (.int .i64 l)) := by
 rw [had 7]
 subst ha
 have hgb := hO.nod.own.lt g rfl
 have far : ∀ {g' : Nat} {cs : Array Value}, hrow wr g' cs 25 → hrow (wr.setCell ⟨g, k * 9 + 7, none⟩ (.int .i64 l)) g' cs 25 := fun h => h.fr (Fr.setCell wr ⟨g, k * 9 + 7, none⟩ _) (fun e => owns_hrow hO.nod.own rfl h (by decide) e.symm)
 refine ⟨⟨?_, hO.nod.lev hk l, rfl, by rw [List.length_set]; exact hO.len⟩, far h0, far h3, hb.setCell (p := ⟨g, k * 9 + 7, none⟩) hgb.1 _⟩
 refine ownsRow_setCell_other hO.rul (fun e => ?_) _
 exact absurd (owns_type hO.rul hO.nod.own e rfl) (by decide)

section
variable (w : World) (ro : Option Addr) (rn rc : Nat) (no : Option Addr) (nn nc : Nat) (NK : List (Nd × (Option Addr × Nat))) (G : Gr) (hG : GrW w ro rn rc no nn nc NK G) (wo : Option Addr) (wn wc : Nat) (W : List Nat) (hW : InW w wo wn wc W) (hcl : ClsOk G)
include hG hW hcl
theorem levels_any (rule place : Int) (lo : Option Addr) (ln lc : Nat) (LL : List Int) (hLL : Sv w lo ln lc 1 (inc LL)) (hr : rn ≤ 140737488355328) (hn : nn ≤ 140737488355328) (hkb : ∀ p ∈ NK, p.1.kids.length ≤ 140737488355328) :
  Calls Tryz.prog 5 #[.agg #[.slice ro rn rc, .slice no nn nc], .slice wo wn wc, .int .i64 rule, .int .i64 place, .slice lo ln lc] w fun r w' => r = .returned (.bool true) ∧ Below w.heap.size w w' := by
 have HG := Lib.hid (fun w' (hb : Below w.heap.size w w') => hG.below hb)
 have HW := Lib.hid (fun w' (hb : Below w.heap.size w w') => hW.below hb)
 have HLv := Lib.hid (fun w' (hb : Below w.heap.size w w') => hLL.below hb)
 have HCl := Lib.hid hcl
 have hrb := hG.rul.bound
 have hnb := hG.nod.sv.bound
 have hwb := hW.sv.bound
 have hlb := hLL.bound
 have hll := hLL.int_len
 have HLl := Lib.hid hll
 have HNm := Lib.hid hG.nam
 have htx : ∀ x ∈ G.nodes, x.text.size ≤ 9223372036854775807 := fun x hx => by
  rw [← hG.eq] at hx
  obtain ⟨p, hp, rfl⟩ := List.mem_map.1 hx
  exact hG.nod.txt p hp
 have HTx := Lib.hid htx
 have HNn := Lib.hid (hG.nod.sv.n_eq ndc_len (by decide))
 have HEq := Lib.hid hG.eq
 have HSz := Lib.hid (fun w' (hb : Below w.heap.size w w') => size_any w' ro no rn rc nn nc NK G (hG.below hb) hr hn hkb)
 have B0 := Lib.hid (Below.refl w.heap.size w)
 clear hG hW hcl hkb hLL hll htx
 go_enter Tryz.func5, Tryz.ntmps5
 go_upto_region 1 with (fail)
 have hb : Below w.heap.size w (w.alloc (.cells #[.slice ro rn rc, .slice no nn nc] 25)) := (Below.refl _ _).alloc (Nat.le_refl _) _
 have OO := Lib.hid (hrow.new w #[.slice ro rn rc, .slice no nn nc] 25)
 have Bz0 := Lib.hid (B0.out.trans (hb.mono B0.out.size))
 clear hb B0
 generalize w.alloc (.cells #[.slice ro rn rc, .slice no nn nc] 25) = z0 at *
 generalize w.heap.size = g0 at OO ⊢
 go_wp2_with fail
 refine (awake_any _).mono ?_
 rintro e xa ⟨rfl, hb⟩
 have OO := Lib.hid (OO.out.below hb)
 have Bxa := Lib.hid (Bz0.out.trans (hb.mono Bz0.out.size))
 clear hb Bz0
 obtain ⟨a0, a1⟩ := (OO.out).c2
 go_wp2_with fail
 refine (HSz.out _ Bxa.out).mono ?_
 rintro e x1 ⟨⟨m, rfl, hsm⟩, hb⟩
 have OO := Lib.hid (OO.out.below hb)
 have Bx1 := Lib.hid (Bxa.out.trans (hb.mono Bxa.out.size))
 clear hb Bxa
 clear a0 a1
 have HSm := Lib.hid hsm
 clear hsm HSz
 obtain ⟨a0, a1⟩ := (OO.out).c2
 by_cases hm : 200 < m
 ·have hm' : 200 < (m : Int) := by omega
  go_wp2_with fail
  go_ret
  exact ⟨rfl, Bx1.out⟩
 have hm' : (m : Int) ≤ 200 := by omega
 obtain ⟨hr2, hn2, hk2⟩ := HSm.out (by omega)
 have hk4 : ∀ p ∈ NK, p.1.kids.length ≤ 100000 := fun p hp => by have := hk2 p hp; omega
 have HK4 := Lib.hid hk4
 clear HSm hk2 hk4
 by_cases hw6 : 60 < wn
 ·have hw6' : 60 < (wn : Int) := by omega
  go_wp2_with fail
  go_ret
  exact ⟨rfl, Bx1.out⟩
 have hw6' : (wn : Int) ≤ 60 := by omega
 by_cases hl0 : ln = 0
 ·subst hl0
  go_wp2_with fail
  go_ret
  exact ⟨rfl, Bx1.out⟩
 have hl1 : ((ln : Int) == 0) = false := by simp only [beq_eq_false_iff_ne, ne_eq]; omega
 have HL := Lib.hid (rlong_any x1 ro rn rc no nn nc NK G (HG.out _ Bx1.out) wo wn wc W (HW.out _ Bx1.out) HCl.out rule place (by omega))
 go_wp2_with fail
 refine (HL.out).mono ?_
 rintro e x2 ⟨⟨b, rfl, hsh⟩, hb⟩
 have OO := Lib.hid (OO.out.below hb)
 have Bx2 := Lib.hid (Bx1.out.trans (hb.mono Bx1.out.size))
 clear hb Bx1
 clear a0 a1
 have HSh := Lib.hid hsh
 clear hsh HL
 obtain ⟨a0, a1⟩ := (OO.out).c2
 cases b with
 | true =>
  go_wp2_with fail
  go_ret
  exact ⟨rfl, Bx2.out⟩
 | false =>
  have HS := Lib.hid (HSh.out rfl)
  clear HSh
  go_wp2_with fail
  have HX2 := Lib.hid Bx2.out.size
  refine (copyGr_any x2 ro no rn rc nn nc NK G (HG.out _ Bx2.out) (by omega) (by omega) HK4.out).mono ?_
  rintro e x3 ⟨ro2, rn2, rc2, no2, nn2, nc2, NL, rfl, hc, hb⟩
  have OO := Lib.hid (OO.out.below hb)
  have Bx3 := Lib.hid (Bx2.out.trans (hb.mono Bx2.out.size))
  clear hb Bx2
  have OG := Lib.hid hc
  clear hc
  clear a0 a1
  have hrn : rn = rn2 := by
   have h1 := OG.out.rul.1
   rw [fl_len ruc_len] at h1
   have h2 := (HG.out _ Bx3.out).rul.n_eq ruc_len (by decide)
   omega
  have hnn : nn = nn2 := by
   have h1 := OG.out.len
   have h2 : NL.length = G.nodes.length := by rw [← OG.out.eq]; simp
   have h3 := HNn.out
   have h4 : NK.length = G.nodes.length := by rw [← HEq.out]; simp
   omega
  subst hrn hnn
  have OG := Lib.hid (OG.out.mono HX2.out)
  clear HX2
  go_upto_region 6 with (fail)
  have hb : Below x3.heap.size x3 (x3.alloc (.cells #[.slice ro2 rn rc2, .slice no2 nn nc2] 25)) := (Below.refl _ _).alloc (Nat.le_refl _) _
  have IN := Lib.hid (hrow.new x3 #[.slice ro2 rn rc2, .slice no2 nn nc2] 25)
  have OO := Lib.hid (OO.out.below hb)
  have OG := Lib.hid (OG.out.below hb)
  have Bz3 := Lib.hid (Bx3.out.trans (hb.mono Bx3.out.size))
  clear hb Bx3
  generalize x3.alloc (.cells #[.slice ro2 rn rc2, .slice no2 nn nc2] 25) = z3 at *
  generalize x3.heap.size = g3 at *
  go_wp2_with fail
  go_loopw [12] (fun i wr => ∃ k : Nat, k ≤ nn ∧ i = .int .i64 k ∧ Hid (∃ NL, Lw G k NL ∧ Og w.heap.size wr ro2 rn rc2 no2 nn nc2 NL ⟨G.rules, NL.map (·.1)⟩ ∧ hrow wr g0 #[.slice ro rn rc, .slice no nn nc] 25 ∧ hrow wr g3 #[.slice ro2 rn rc2, .slice no2 nn nc2] 25 ∧ Below w.heap.size w wr)) (fun i _ => nn - (intOf i).toNat)
  case atStart => exact ⟨0, by omega, rfl, NL, ⟨by rw [OG.out.eq]; exact Lev.refl G, fun j _ => by rw [OG.out.eq]⟩, ⟨OG.out.rul, OG.out.nod, rfl, OG.out.len⟩, OO.out, IN.out, Bz3.out⟩
  case round =>
   obtain ⟨k, hk, rfl, HI⟩ := hrel
   clear OG OO IN Bz3
   obtain ⟨NL, hI1, hI2, hI3, hI4, hI5⟩ := HI.out
   have LW := Lib.hid hI1; have OG := Lib.hid hI2; have OO := Lib.hid hI3; have IN := Lib.hid hI4; have BB := Lib.hid hI5
   clear HI hI1 hI2 hI3 hI4 hI5
   obtain ⟨c0, c1⟩ := (IN.out).c2
   by_cases hlt : k < nn
   ·have hlt' : (k : Int) < nn := by omega
    have hkl : k < NL.length := by have := OG.out.len; omega
    have hown := OG.out.nod.own
    rw [← OG.out.len] at hown
    have hg : ∃ g, no2 = some ⟨g, 0, none⟩ := by
     rcases hown.2 with ⟨e, h0⟩ | ⟨g, c3, cur, e, _⟩
     ·omega
     ·simp only [Value.slice.injEq] at e; exact ⟨g, e.1⟩
    obtain ⟨g, rfl⟩ := hg
    obtain ⟨a, ha⟩ : ∃ a : Addr, a = ⟨g, 0, none⟩ := ⟨_, rfl⟩
    have hp : NL[k]? = some NL[k] := List.getElem?_eq_getElem hkl
    have hadd : ∀ j, (⟨(a.add (k * 9)).block, (a.add (k * 9)).off + j, none⟩ : Addr) = ⟨g, k * 9 + j, none⟩ := fun j => by subst ha; unfold Addr.add; split <;> simp_all
    have hadd0 : a.add (k * 9) = ⟨g, k * 9, none⟩ := by subst ha; unfold Addr.add; split <;> simp_all
    have hcl : ∀ j v, j < 9 → (ndc NL[k])[j]? = some v → wr.cell? ⟨g, k * 9 + j, none⟩ = some v := fun j v hj hv => by
     rw [World.ownsRow.cellAt hown (k * 9 + j) (by omega), fl_get ndc_len _ k j hkl hj]; exact hv
    have hfz : wr.frozen? ⟨g, k * 9 + 7, none⟩ = false := World.ownsRow.frozenAt hown _
    have HAd := Lib.hid hadd; have HAe := Lib.hid ha
    generalize NL[k] = p at *
    obtain ⟨x, q⟩ := p
    have n0 : wr.cell? (a.add (k * 9)) = some (.int .i64 x.kind) := by rw [hadd0]; exact hcl 0 _ (by decide) rfl
    have n7 : wr.cell? ⟨(a.add (k * 9)).block, (a.add (k * 9)).off + 7, none⟩ = some (.int .i64 x.lev) := by rw [hadd]; exact hcl 7 _ (by decide) rfl
    have n7f : wr.frozen? ⟨(a.add (k * 9)).block, (a.add (k * 9)).off + 7, none⟩ = false := by rw [hadd]; exact hfz
    have HPk := Lib.hid hp
    rw [← HAe.out] at c1 OG IN
    clear hown hp hadd hadd0 hcl hfz ha hkl
    by_cases hc : x.kind = 5 ∧ 0 ≤ x.lev ∧ x.lev ≤ 99
    ·obtain ⟨h5, h0, h9⟩ := hc
     have hq : 0 ≤ (k : Int) % ln ∧ (k : Int) % ln < ln := ⟨Int.emod_nonneg _ (by omega), Int.emod_lt_of_pos _ (by omega)⟩
     have hqn : k % ln < LL.length := by rw [HLl.out]; exact Nat.mod_lt _ (by omega)
     obtain ⟨al, rfl, l0⟩ := (HLv.out wr BB.out).intc (k % ln) hqn
     generalize bt LL (k % ln) = v at *
     have HP := Lib.hid (fun w' => pick_any w' v 100 (by decide) (by decide))
     have LW2 := Lib.hid (LW.out.put HPk.out h5 h0 h9 (v % 100) (Int.emod_nonneg _ (by decide)) (by have := Int.emod_lt_of_pos v (show (0 : Int) < 100 by decide); omega))
     have hk5 : (x.kind == 5) = true := by rw [h5]; rfl
     have HH5 := Lib.hid h5
     have HS2 := Lib.hid (lev_set OG.out OO.out IN.out BB.out HAe.out HAd.out HPk.out (v % 100))
     clear hqn h5
     go_wp2_with fail
     go_region_with (first | (go_at_call 21; refine (HP.out _).mono ?_; rintro e w' ⟨rfl, rfl⟩))
     all_goals
      go_wp2_with fail
      go_roundw
      case rel => exact ⟨k + 1, by omega, by go_num, _, LW2.out, HAe.out ▸ HS2.out.1.drew, HS2.out.2.1, HAe.out ▸ HS2.out.2.2.1, HS2.out.2.2.2.drew⟩
      case measure => simp [intOf]; omega
    ·have hc' : (x.kind == 5) = false ∨ ((x.kind == 5) = true ∧ x.lev < 0) ∨ ((x.kind == 5) = true ∧ 0 ≤ x.lev ∧ 99 < x.lev) := by simp only [beq_eq_false_iff_ne, ne_eq, beq_iff_eq]; omega
     clear hc
     rcases hc' with h5 | ⟨h5, h0⟩ | ⟨h5, h0, h9⟩
     all_goals
      go_wp2_with fail
      go_roundw
      case rel => exact ⟨k + 1, by omega, by go_num, NL, LW.out.skip, HAe.out ▸ OG.out, OO.out, HAe.out ▸ IN.out, BB.out⟩
      case measure => simp [intOf]; omega
   ·have hke : k = nn := by omega
    subst hke
    have hge : (k : Int) ≤ k := by omega
    have hG' : Lev G ⟨G.rules, NL.map (·.1)⟩ := LW.out.lev
    have HLev := Lib.hid hG'
    have HTx2 : Hid (∀ x ∈ NL.map (·.1), x.text.size ≤ 9223372036854775807) := fun x hx => by
     obtain ⟨j, hj⟩ := List.mem_iff_getElem?.1 hx
     rcases hG'.nd j with ⟨_, b⟩ | ⟨y, l, a, b, c⟩
     ·rw [show (NL.map (·.1))[j]? = none from b] at hj; cases hj
     ·rw [show (NL.map (·.1))[j]? = _ from b] at hj; cases hj; exact HTx.out y (List.mem_of_getElem? a)
    have HGr := Lib.hid (OG.out.grw HNm.out HTx2.out)
    clear hG' LW OG HTx2 hlt
    have hot : ∃ ot, outW G W rule place = ot := ⟨_, rfl⟩
    obtain ⟨⟨oi, oe, od, ot, on, oE⟩, hot⟩ := hot
    have HO := Lib.hid hot
    have HO2 := Lib.hid ((HLev.out.out W rule place).trans hot)
    have HS2 := Lib.hid (HLev.out.short HS.out)
    have HCl2 := Lib.hid (HLev.out.cls HCl.out)
    obtain ⟨n, hn⟩ : ∃ n, n = ot.length := ⟨_, rfl⟩
    have HNt := Lib.hid hn
    clear hot hn
    obtain ⟨a0, a1⟩ := (OO.out).c2
    go_wp2_with fail
    refine (fM wr ro rn rc no k nc NK G (HG.out _ BB.out) wo wn wc W (HW.out _ BB.out) HCl.out rule place HS.out HO.out HNt.out).mono ?_
    rintro e x5 ⟨ao, cap, rfl, hx, -, hb⟩
    have OO := Lib.hid (OO.out.below hb)
    have IN := Lib.hid (IN.out.below hb)
    have HGr := Lib.hid (HGr.out.below hb)
    have Bx5 := Lib.hid (BB.out.trans (hb.mono BB.out.size))
    clear hb BB
    have XT := Lib.hid hx
    clear hx
    clear a0 a1
    clear c0 c1
    go_upto_region 12 with (fail)
    have hb : Below x5.heap.size x5 (x5.alloc (.cells #[.bool oi, .int .i64 oe, .int .i64 od, .slice ao n cap] 34)) := (Below.refl _ _).alloc (Nat.le_refl _) _
    have FX := Lib.hid (hrow.new x5 #[.bool oi, .int .i64 oe, .int .i64 od, .slice ao n cap] 34)
    have OO := Lib.hid (OO.out.below hb)
    have IN := Lib.hid (IN.out.below hb)
    have HGr := Lib.hid (HGr.out.below hb)
    have XT := Lib.hid (XT.out.below hb)
    have Bz6 := Lib.hid (Bx5.out.trans (hb.mono Bx5.out.size))
    clear hb Bx5
    generalize x5.alloc (.cells #[.bool oi, .int .i64 oe, .int .i64 od, .slice ao n cap] 34) = z6 at *
    generalize x5.heap.size = g6 at *
    obtain ⟨c0, c1⟩ := (IN.out).c2
    go_wp2_with fail
    refine (fM z6 ro2 rn rc2 no2 k nc2 NL _ HGr.out wo wn wc W (HW.out _ Bz6.out) HCl2.out rule place HS2.out HO2.out HNt.out).mono ?_
    rintro e x7 ⟨bo, bc, rfl, hy, -, hb⟩
    have OO := Lib.hid (OO.out.below hb)
    have IN := Lib.hid (IN.out.below hb)
    have HGr := Lib.hid (HGr.out.below hb)
    have XT := Lib.hid (XT.out.below hb)
    have FX := Lib.hid (FX.out.below hb)
    have Bx7 := Lib.hid (Bz6.out.trans (hb.mono Bz6.out.size))
    clear hb Bz6
    have YT := Lib.hid hy
    clear hy
    clear c0 c1
    go_upto_region 13 with (fail)
    have hb : Below x7.heap.size x7 (x7.alloc (.cells #[.bool oi, .int .i64 oe, .int .i64 od, .slice bo n bc] 34)) := (Below.refl _ _).alloc (Nat.le_refl _) _
    have FY := Lib.hid (hrow.new x7 #[.bool oi, .int .i64 oe, .int .i64 od, .slice bo n bc] 34)
    have OO := Lib.hid (OO.out.below hb)
    have IN := Lib.hid (IN.out.below hb)
    have HGr := Lib.hid (HGr.out.below hb)
    have XT := Lib.hid (XT.out.below hb)
    have FX := Lib.hid (FX.out.below hb)
    have YT := Lib.hid (YT.out.below hb)
    have Bz8 := Lib.hid (Bx7.out.trans (hb.mono Bx7.out.size))
    clear hb Bx7
    generalize x7.alloc (.cells #[.bool oi, .int .i64 oe, .int .i64 od, .slice bo n bc] 34) = z8 at *
    generalize x7.heap.size = g8 at *
    obtain ⟨a0, a1⟩ := (OO.out).c2
    go_wp2_with fail
    refine (fC z8 ro rn rc no k nc NK G (HG.out _ Bz8.out) wo wn wc W (HW.out _ Bz8.out) HCl.out rule place HS.out HO.out HNt.out).mono ?_
    rintro e x9 ⟨rfl, hb⟩
    have OO := Lib.hid (OO.out.below hb)
    have IN := Lib.hid (IN.out.below hb)
    have HGr := Lib.hid (HGr.out.below hb)
    have XT := Lib.hid (XT.out.below hb)
    have FX := Lib.hid (FX.out.below hb)
    have YT := Lib.hid (YT.out.below hb)
    have FY := Lib.hid (FY.out.below hb)
    have Bx9 := Lib.hid (Bz8.out.trans (hb.mono Bz8.out.size))
    clear hb Bz8
    clear a0 a1
    obtain ⟨c0, c1⟩ := (IN.out).c2
    go_wp2_with fail
    refine (fC x9 ro2 rn rc2 no2 k nc2 NL _ HGr.out wo wn wc W (HW.out _ Bx9.out) HCl2.out rule place HS2.out HO2.out HNt.out).mono ?_
    rintro e x10 ⟨rfl, hb⟩
    have OO := Lib.hid (OO.out.below hb)
    have IN := Lib.hid (IN.out.below hb)
    have HGr := Lib.hid (HGr.out.below hb)
    have XT := Lib.hid (XT.out.below hb)
    have FX := Lib.hid (FX.out.below hb)
    have YT := Lib.hid (YT.out.below hb)
    have FY := Lib.hid (FY.out.below hb)
    have Bx10 := Lib.hid (Bx9.out.trans (hb.mono Bx9.out.size))
    clear hb Bx9
    clear c0 c1
    obtain ⟨p0, p1, p2, p3⟩ := (FX.out).c4
    obtain ⟨q0, q1, q2, q3⟩ := (FY.out).c4
    go_wp2_with fail
    refine (fS x10 oi oe od n ao bo cap bc ot HNt.out XT.out.sv YT.out.sv).mono ?_
    rintro e x11 ⟨rfl, hb⟩
    have OO := Lib.hid (OO.out.below hb)
    have IN := Lib.hid (IN.out.below hb)
    have HGr := Lib.hid (HGr.out.below hb)
    have XT := Lib.hid (XT.out.below hb)
    have FX := Lib.hid (FX.out.below hb)
    have YT := Lib.hid (YT.out.below hb)
    have FY := Lib.hid (FY.out.below hb)
    have Bx11 := Lib.hid (Bx10.out.trans (hb.mono Bx10.out.size))
    clear hb Bx10
    go_wp2_with fail
    go_ret
    exact ⟨rfl, Bx11.out⟩
end
end Go.Proofs.YtdnkffplkleolaaGreat
