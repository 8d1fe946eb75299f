/- Walks and plain laws: Gd Ge Ju Gf Gg. -/
import Derived.Test.YtgjhepblpdnkcaaGreatDoorM15
import Derived.Test.YtgjhepblpdnkcaaGreatDoorM11
import Derived.Test.YtgjhepblpdnkcaaGreatDoorM07
import Derived.Test.YtgjhepblpdnkcaaGreatDoorM12
namespace Go.Proofs.YtgjhepblpdnkcaaGreatDoor
open Go.RowKit Go.Shelf Go.ChangeMaps
attribute [local go_sem] Oper.semAt_some
set_option maxRecDepth 100000
set_option maxHeartbeats 8000000

theorem ntr_info : (Tryz.prog.info? 86).map (·.size) = some 6 := by decide +kernel
theorem rtr_info : (Tryz.prog.info? 29).map (·.size) = some 5 := by decide +kernel
theorem ntree_ld {y : World} {g : Nat} {v1 v2 v3 v4 v5 v6 : Value} (h : hrow y g #[v1, v2, v3, v4, v5, v6] 86) : (loadVar 86 ⟨g, 0, none⟩).run Tryz.prog y = .ok (.agg #[v1, v2, v3, v4, v5, v6]) y :=
 run_loadVar_row (P := Tryz.prog) y g _ _ _ _ _ h Tryz.underlying86 rfl (by show _ = some 6; decide +kernel)
theorem load_rtree {ops : Array Oper} {rest : List Oper} {o : Oper} {a : Act} {w : World} {Q : Exit → Act → World → Prop} (hgd : o.guard = none) (x : Operand) (ho : o.op = .load 29 x)
  (g : Nat) (hx : a.eval x = .pointer (some ⟨g, 0, none⟩)) (cs : Array Value) (hg : hrow w g cs 29) (hs : cs.size = 5)
  (h : wpList Tryz.prog ops Q rest (a.put o.dst (.agg cs)) w) : wpList Tryz.prog ops Q (o :: rest) a w :=
 wpList_load_row hgd _ x ho g hx _ _ _ _ hg.h Tryz.underlying29 rfl (hs ▸ rtr_info) h
theorem store_ntree {ops : Array Oper} {rest : List Oper} {o : Oper} {a : Act} {w : World} {Q : Exit → Act → World → Prop} (hgd : o.guard = none) (x y : Operand) (ho : o.op = .store 86 x y)
  (g : Nat) (cs old : Array Value) (hx : a.eval x = .pointer (some ⟨g, 0, none⟩)) (hy : a.eval y = .agg cs) (hg : hrow w g old 86) (hs : cs.size = 6) (hs0 : old.size = 6) (h1 : cs.all (·.oneCell') = true)
  (h : wpList Tryz.prog ops Q rest (a.put o.dst undef) (w.setRow g cs)) : wpList Tryz.prog ops Q (o :: rest) a w :=
 wpList_store_row hgd _ x y ho g _ hx hy _ _ hg.h (hs ▸ ntr_info) (by rw [hs, hs0]) h1 h
theorem setRow_same {w : World} {g : Nat} {cs : Array Value} {t : TypeId} (h : hrow w g cs t) : w.setRow g cs = w := by
 have h0 := h.h
 cases w with
 | mk heap tape drawn os output =>
  simp only [World.setRow, World.mk.injEq, and_true]
  apply Array.ext_getElem?
  intro k
  rw [Array.getElem?_modify]
  by_cases hk : g = k
  ·subst hk
   rw [if_pos rfl]
   have h1 : heap[g]? = some (Obj.cells cs t (0, 0)) := h0
   rw [h1]; rfl
  ·rw [if_neg hk]
/-- The store of what stands there already, at a step of a drawn region. -/
theorem wpQuiet_store_same {P : Program} {ops : Array Oper} {C : World → Prop} {rest : List Oper} {o : Oper} {a : Act} {Q : Act → Prop} (hw : Region.wanted o (yielded ops a.tmps) = true) (ty : TypeId) (x y : Operand) (ho : o.op = .store ty x y)
  (g : Nat) (cs : Array Value) (hx : a.eval x = .pointer (some ⟨g, 0, none⟩)) (hy : a.eval y = .agg cs) (t : TypeId) (hC : ∀ w, C w → hrow w g cs t) (hi : (P.info? ty).map (·.size) = some cs.size) (h1 : cs.all (·.oneCell') = true)
  (h : wpQuiet P ops C Q rest (a.put o.dst undef)) : wpQuiet P ops C Q (o :: rest) a :=
 wpQuiet_step fun K hK => by
  rw [if_pos hw]
  refine ⟨_, fun w hc => ?_, hK _ h⟩
  have hr := run_storeVar_row (P := P) w g t ty cs cs (hC w hc).h hi rfl h1
  rw [setRow_same (hC w hc)] at hr
  unfold Oper.quietAt execOp
  simp only [ho, hx, hy, Instr.storeAt, Instr.sureAddr, Sem.run_bind, Sem.run_pure, Result.andThen_ok, hr]
  exact ⟨rfl, rfl⟩
theorem results_ct {P : Program} {fn : Func} {p q : Tmp} {tp : TypeId} (h : fn.results = #[.cell p tp, .tmp q]) (tmps : Array Value) (w : World) (a : Addr) (u : Value)
  (hp : tmps.getD p undef = .pointer (some a)) (h1 : (loadVar tp a).run P w = .ok u w) : (results fn tmps).run P w = .ok (.tuple #[u, tmps.getD q undef]) w := by
 have hp' : tmps[p]?.getD undef = .pointer (some a) := by simpa using hp
 simp [results, h, hp', asAddr, h1]
theorem three0 (y : World) (g : Nat) (hg : y.heap.size = g) (a b : Array Value) (ta tb : TypeId) : ∃ z, (y.alloc (.cells a ta)).alloc (.cells b tb) = z ∧ hrow z g a ta ∧ hrow z (g + 1) b tb ∧ Below y.heap.size y z := by
 subst hg
 have h2 := hrow.new (y.alloc (.cells a ta)) b tb
 rw [World.size_alloc] at h2
 exact ⟨_, rfl, (hrow.new y a ta).below ((Below.refl _ _).alloc (Nat.le_refl _) _), h2, al2 (Below.refl _ _) _ _⟩
/-- What a tree at work is. -/
def OpnP (w : World) (c : Array Value) (R : List Ru) (b : Bool) (e : Ending) (w' : World) : Prop := ∃ gm, e = .returned (.tuple #[.agg (c.push (.map (some gm))), .bool b]) ∧ MapS w' gm (fun s => fixF R s 0) ∧ Below w.heap.size w w'
theorem open_any (w : World) (ro no ao bo co : Option Addr) (rc nn nc an ac bn bc cn cc : Nat) (R : List Ru) (hR : Sv w ro R.length rc 2 (R.flatMap ruc)) (hL : R.length ≤ 1000000) :
  Calls Tryz.prog 38 #[.agg #[.slice ro R.length rc, .slice no nn nc, .slice ao an ac, .slice bo bn bc, .slice co cn cc]] w fun e w' => OpnP w #[.slice ro R.length rc, .slice no nn nc, .slice ao an ac, .slice bo bn bc, .slice co cn cc] R (decide (an = R.length) && (decide (bn = nn) && decide (cn = bn))) e w' := by
 have hmm := @run_makeMap Tryz.prog
 obtain ⟨g, hg⟩ : ∃ g, w.heap.size = g := ⟨_, rfl⟩
 obtain ⟨z, hz, z1, z2, zb⟩ := three0 w g hg #[.slice ro R.length rc, .slice no nn nc, .slice ao an ac, .slice bo bn bc, .slice co cn cc] #[.slice none 0 0, .slice none 0 0, .slice none 0 0, .slice none 0 0, .slice none 0 0, .map none] 29 86
 have HRS := Lib.hid (hR.below zb); have HL := Lib.hid hL
 have HZ := Lib.hid hz; have HG := Lib.hid hg; have H1 := Lib.hid z1; have H2 := Lib.hid z2; have HB := Lib.hid zb
 have hlt : ∀ a, ro = some a → 0 < R.length → a.block < g := fun a ha h0 => by
  obtain ⟨a', e, hc⟩ := Sv.at ruc_len hR (by decide) 0 h0
  rw [ha] at e; cases e
  have := World.block_lt_of_cell? w _ (hc 0 _ rfl)
  rw [add_block, add_block] at this
  omega
 have HLT := Lib.hid hlt
 clear hR hL hz hg z1 z2 zb hlt
 refine (callsIn_wide (n := 3)).1 ?_
 refine callsIn_of_wp_marks Tryz.func38 rfl trivial ?_ rfl
 simp only [Tryz.ntmps38, List.size_toArray, List.length_cons, List.length_nil, Nat.reduceAdd, Nat.reduceSub, Array.replicate_succ, Array.replicate_zero, List.push_toArray, List.append_toArray, List.nil_append, List.cons_append]
 refine wpIn_wide.2 ?_
 go_upto_region 1 with (fail)
 rw [HZ.out, HG.out]
 have HS2 : Hid (hrow (z.alloc (.map #[] 0)) (g + 1) #[.slice none 0 0, .slice none 0 0, .slice none 0 0, .slice none 0 0, .slice none 0 0, .map none] 86) := H2.out.below ((Below.refl _ _).alloc (Nat.le_refl _) _)
 have HONE : Hid ((#[.slice ro R.length rc, .slice no nn nc, .slice ao an ac, .slice bo bn bc, .slice co cn cc, .map (some z.heap.size)] : Array Value).all (·.oneCell') = true) := by unfold Hid; simp [Value.oneCell']
 go_upto_region 2 with (first | (refine load_rtree rfl (.tmp 1) rfl g rfl _ H1.out rfl ?_) | (refine store_ntree rfl (.tmp 2) (.tmp 8) rfl (g + 1) #[.slice ro R.length rc, .slice no nn nc, .slice ao an ac, .slice bo bn bc, .slice co cn cc, .map (some z.heap.size)] _ rfl rfl HS2.out rfl rfl HONE.out ?_))
 have hal := (Below.refl z.heap.size z).alloc (Nat.le_refl _) (.map #[] 0)
 have hfs := Fr.setRow (z.alloc (.map #[] 0)) (g + 1) #[.slice ro R.length rc, .slice no nn nc, .slice ao an ac, .slice bo bn bc, .slice co cn cc, .map (some z.heap.size)]
 have HZS : Hid (z.heap.size = g + 2) := by rw [← HZ.out, World.size_alloc, World.size_alloc, HG.out]; rfl
 have hA5 : hrow ((z.alloc (.map #[] 0)).setRow (g + 1) #[.slice ro R.length rc, .slice no nn nc, .slice ao an ac, .slice bo bn bc, .slice co cn cc, .map (some z.heap.size)]) g #[.slice ro R.length rc, .slice no nn nc, .slice ao an ac, .slice bo bn bc, .slice co cn cc] 29 := (H1.out.below hal).fr hfs (fun e => by omega)
 have hB5 : hrow ((z.alloc (.map #[] 0)).setRow (g + 1) #[.slice ro R.length rc, .slice no nn nc, .slice ao an ac, .slice bo bn bc, .slice co cn cc, .map (some z.heap.size)]) (g + 1) #[.slice ro R.length rc, .slice no nn nc, .slice ao an ac, .slice bo bn bc, .slice co cn cc, .map (some z.heap.size)] 86 := setRow_heap _ _ _ _ _ _ HS2.out
 have hM5 : MapS ((z.alloc (.map #[] 0)).setRow (g + 1) #[.slice ro R.length rc, .slice no nn nc, .slice ao an ac, .slice bo bn bc, .slice co cn cc, .map (some z.heap.size)]) z.heap.size (putF []) := by
  have h0 : (z.alloc (.map #[] 0)).heap[z.heap.size]? = some (.map #[] 0) := heap_alloc_new _ _
  refine ⟨#[], 0, (hfs.block _ (by rw [World.size_alloc]; omega) (fun e => by have := HZS.out; omega)).trans h0, fun x hx => by simp at hx, fun s => rfl⟩
 have hBw : Below w.heap.size w ((z.alloc (.map #[] 0)).setRow (g + 1) #[.slice ro R.length rc, .slice no nn nc, .slice ao an ac, .slice bo bn bc, .slice co cn cc, .map (some z.heap.size)]) := (HB.out.trans (hal.mono HB.out.size)).trans (hfs.below (by have := HG.out; rw [World.size_alloc]; have := HZS.out; omega) (fun k hk e => by have := HG.out; omega))
 have hR5 := (HRS.out.below hal).fr hfs (fun a ha hn e => by
  have hn0 : 0 < R.length := by rcases Nat.eq_zero_or_pos R.length with h | h; simp [h] at hn; exact h
  have := HLT.out a ha hn0; omega)
 have HA5 := Lib.hid hA5; have HB5 := Lib.hid hB5; have HM5 := Lib.hid hM5; have HBW := Lib.hid hBw; have HR5 := Lib.hid hR5
 clear hal hfs hA5 hB5 hM5 hBw hR5 HS2 HONE H1 H2 HB HRS
 revert HA5 HB5 HM5 HBW HR5 HZS
 generalize (z.alloc (.map #[] 0)).setRow (g + 1) #[.slice ro R.length rc, .slice no nn nc, .slice ao an ac, .slice bo bn bc, .slice co cn cc, .map (some z.heap.size)] = z5
 generalize z.heap.size = gm
 intro HZS HA5 HB5 HM5 HBW HR5
 have k0 := HA5.out.cell 0
 go_wp2_with fail
 refine (rback_any _ _ _ _).mono ?_
 rintro e xb ⟨rfl, hxb⟩
 have hbb : Below z5.heap.size z5 xb := by rw [hxb]; exact (Below.refl _ _).alloc (Nat.le_refl _) _
 have HBX := Lib.hid (show hrow xb z5.heap.size #[.slice ro R.length rc] 22 by rw [hxb]; exact hrow.new _ _ _)
 have HGX : Hid (gm < z5.heap.size) := HM5.out.lt
 have HSQ := Lib.hid (rback1_stops R ro rc z5.heap.size gm 2 xb (HBX.out.cell 0) (HR5.out.below hbb) (by have := HGX.out; omega) (fun a ha h0 e => by have := HLT.out a ha h0; have := HZS.out; omega) HL.out)
 have HI0 : Hid (OpI g (g + 1) gm #[.slice ro R.length rc, .slice no nn nc, .slice ao an ac, .slice bo bn bc, .slice co cn cc] #[.slice ro R.length rc, .slice no nn nc, .slice ao an ac, .slice bo bn bc, .slice co cn cc, .map (some gm)] xb [] xb) := ⟨HA5.out.below hbb, HB5.out.below hbb, HM5.out.below hbb, Fr.refl _ _⟩
 have HGB : Hid (gm < xb.heap.size) := by have := hbb.size; have := HGX.out; unfold Hid; omega
 have HBE := Lib.hid (HBW.out.trans (hbb.mono HBW.out.size))
 clear hbb hxb HA5 HB5 HM5 HBW HR5 HBX HGX k0
 go_wp2_with fail
 refine (wpIn_wide (n := 3)).1 ?_
 refine wpIn_backR rfl HSQ.out HGB.out HI0.out ?assign ?body ?done
 case assign =>
  intro l pre x W K hI hK hW
  have HK := Lib.hid hK; have HI' := Lib.hid hI
  clear hK hI
  simp only [List.setIfInBounds_toArray, List.set_cons_succ, List.set_cons_zero] at HK ⊢
  unfold ruD at *
  gi_wp2
  have hb := (Below.refl _ W).alloc (Nat.le_refl _) (.cells #[.string x.2.name, .int .i64 x.2.body] 49)
  exact HK.out W.heap.size _ ((KeepsOthers.alloc _ _).from _) (kpC_fr (Fr.of_below (F := fun _ => False) hb) (fun _ e => e.elim)) (HI'.out.below hb) hW (hrow.new _ _ _)
 case body =>
  intro l pre x Bx W hI hBx hW
  have HI' := Lib.hid hI
  have k5 := hI.b.cell 5
  have k9 := hW.cell 0
  obtain ⟨W', hmu, ⟨es, clock, rfl⟩, hm⟩ := hI.m.put (P := Tryz.prog) (t := 84) (kt := 9) (e := 3) strU (by kernel_rfl) x.2.name x.1
  have HMO := Lib.hid (hI.more HGB.out (by have := HZS.out; omega) (by have := HZS.out; omega) hm)
  have HXW := Lib.hid (Nat.le_trans hBx (Nat.le_of_lt hW.lt))
  clear hI hm hBx hW
  unfold ruD at *
  simp only [List.setIfInBounds_toArray, List.set_cons_succ, List.set_cons_zero]
  refine wpIn_block ?_
  gi_wp2
  exact ⟨HMO.out.1, HMO.out.2.1, HMO.out.2.2, Nat.le_trans HXW.out HMO.out.1.size⟩
 case done =>
  intro D W hD hI hK
  have HI' := Lib.hid hI
  have HK := Lib.hid hK
  have HM := Lib.hid (show MapS W gm (fun s => fixF R s 0) by have := hI.m; rwa [putF_all] at this)
  have HDX := Lib.hid hD
  have HGX : Hid (g + 1 < xb.heap.size) := HI0.out.b.lt
  have HBF := Lib.hid (HBE.out.trans (hI.fr.below HBE.out.size (fun k hk e => by have := HZS.out; have := HG.out; omega)))
  have HB6 := Lib.hid hI.b
  have HA6 := Lib.hid hI.a
  clear hI hK hD HSQ HI0 HI' HL HLT HBE
  obtain ⟨rn, hrn⟩ : ∃ n, R.length = n := ⟨_, rfl⟩
  rw [hrn] at HB6 HA6 ⊢
  have HRN := Lib.hid hrn
  clear hrn
  have c0 : ∀ y : Later W, y.val.cell? ⟨g, 0, none⟩ = some (.slice ro rn rc) := fun y => (HA6.out.below y.ok).cell 0
  have c1 : ∀ y : Later W, y.val.cell? ⟨g, 1, none⟩ = some (.slice no nn nc) := fun y => (HA6.out.below y.ok).cell 1
  have c2 : ∀ y : Later W, y.val.cell? ⟨g, 2, none⟩ = some (.slice ao an ac) := fun y => (HA6.out.below y.ok).cell 2
  have c3 : ∀ y : Later W, y.val.cell? ⟨g, 3, none⟩ = some (.slice bo bn bc) := fun y => (HA6.out.below y.ok).cell 3
  have c4 : ∀ y : Later W, y.val.cell? ⟨g, 4, none⟩ = some (.slice co cn cc) := fun y => (HA6.out.below y.ok).cell 4
  have HPT := Lib.hid (later_all (fun y : Later W => ntree_ld (HB6.out.below y.ok)))
  have HST : Hid (∀ z, (∃ y : Later W, z = y.val) → hrow z (g + 1) #[.slice ro rn rc, .slice no nn nc, .slice ao an ac, .slice bo bn bc, .slice co cn cc, .map (some gm)] 86) := fun z ⟨y, e⟩ => by subst e; exact HB6.out.below y.ok
  have HONE : Hid ((#[.slice ro rn rc, .slice no nn nc, .slice ao an ac, .slice bo bn bc, .slice co cn cc, .map (some gm)] : Array Value).all (·.oneCell') = true) := by unfold Hid; simp [Value.oneCell']
  by_cases h1 : an = rn
  ·have b1 : ((an : Int) == (rn : Int)) = true := by rw [h1]; simp
   by_cases h2 : bn = nn
   ·have b2 : ((bn : Int) == (nn : Int)) = true := by rw [h2]; simp
    by_cases h3 : cn = bn
    ·have b3 : ((cn : Int) == (bn : Int)) = true := by rw [h3]; simp
     have HBB : Hid ((decide (an = rn) && (decide (bn = nn) && decide (cn = bn))) = true) := by unfold Hid; simp [h1, h2, h3]
     clear h1 h2 h3
     go_upto_region 6 with (fail)
     refine wp_region_later (by kernel_rfl) (by kernel_rfl) ?_
     repeat (first | go_big_quiet_step (fail) | (refine wpQuiet_load_part rfl 86 (.tmp 2) rfl ⟨g + 1, 0, none⟩ rfl _ HPT.out ?_; simp only [Act.put, List.setIfInBounds_toArray, List.set_cons_succ, List.set_cons_zero]) | (refine wpQuiet_store_same rfl 86 (.tmp 2) (.tmp 20) rfl (g + 1) #[.slice ro rn rc, .slice no nn nc, .slice ao an ac, .slice bo bn bc, .slice co cn cc, .map (some gm)] rfl rfl 86 HST.out ntr_info HONE.out ?_; simp only [Act.put]))
     refine wpQuiet_nil ?_
     intro w5 hw5
     obtain ⟨y, rfl⟩ := hw5
     have HB7 := Lib.hid (HB6.out.below y.ok)
     have HM7 := Lib.hid (HM.out.below y.ok)
     have HF7 := Lib.hid (HBF.out.trans (y.ok.mono HBF.out.size))
     have HK7 : Hid (y.val.heap[D]? = some (.deferred (some []))) := (y.ok.block D (Array.getElem?_eq_some_iff.1 HK.out).1).trans HK.out
     clear c0 c1 c2 c3 c4 HPT HB6 HA6 HM HBF HK HST
     generalize y.val = w6 at *
     clear y
     go_wp2_with fail
     have hgrow := grownBy_putObj' w6 D (.deferred none)
     have hB9 := HB7.out.fr (Fr.grown hgrow) (fun e => by cases e; have := HDX.out; have := HGX.out; omega)
     have hM9 := HM7.out.block (hgrow.block gm HM7.out.lt (fun e => by cases e; have := HDX.out; have := HGB.out; omega))
     have hbl := HF7.out.trans ((Fr.grown hgrow).below HF7.out.size (fun k hk e => by cases e; have := HDX.out; have := HGX.out; have := HG.out; omega))
     refine ⟨by simp, .inl ⟨_, _, rfl, run_takeDeferred HK7.out, ?_⟩⟩
     refine ⟨_, results_ct rfl _ _ _ _ rfl (ntree_ld hB9), ?_⟩
     rw [HRN.out, HBB.out]
     exact ⟨gm, rfl, hM9, hbl⟩
    ·have b3 : ((cn : Int) == (bn : Int)) = false := by rw [beq_eq_false_iff_ne]; omega
     have HBB : Hid ((decide (an = rn) && (decide (bn = nn) && decide (cn = bn))) = false) := by unfold Hid; simp [h3]
     clear h1 h2 h3
     go_upto_region 6 with (fail)
     refine wp_region_later (by kernel_rfl) (by kernel_rfl) ?_
     repeat (first | go_big_quiet_step (fail) | (refine wpQuiet_load_part rfl 86 (.tmp 2) rfl ⟨g + 1, 0, none⟩ rfl _ HPT.out ?_; simp only [Act.put, List.setIfInBounds_toArray, List.set_cons_succ, List.set_cons_zero]) | (refine wpQuiet_store_same rfl 86 (.tmp 2) (.tmp 20) rfl (g + 1) #[.slice ro rn rc, .slice no nn nc, .slice ao an ac, .slice bo bn bc, .slice co cn cc, .map (some gm)] rfl rfl 86 HST.out ntr_info HONE.out ?_; simp only [Act.put]))
     refine wpQuiet_nil ?_
     intro w5 hw5
     obtain ⟨y, rfl⟩ := hw5
     have HB7 := Lib.hid (HB6.out.below y.ok)
     have HM7 := Lib.hid (HM.out.below y.ok)
     have HF7 := Lib.hid (HBF.out.trans (y.ok.mono HBF.out.size))
     have HK7 : Hid (y.val.heap[D]? = some (.deferred (some []))) := (y.ok.block D (Array.getElem?_eq_some_iff.1 HK.out).1).trans HK.out
     clear c0 c1 c2 c3 c4 HPT HB6 HA6 HM HBF HK HST
     generalize y.val = w6 at *
     clear y
     go_wp2_with fail
     have hgrow := grownBy_putObj' w6 D (.deferred none)
     have hB9 := HB7.out.fr (Fr.grown hgrow) (fun e => by cases e; have := HDX.out; have := HGX.out; omega)
     have hM9 := HM7.out.block (hgrow.block gm HM7.out.lt (fun e => by cases e; have := HDX.out; have := HGB.out; omega))
     have hbl := HF7.out.trans ((Fr.grown hgrow).below HF7.out.size (fun k hk e => by cases e; have := HDX.out; have := HGX.out; have := HG.out; omega))
     refine ⟨by simp, .inl ⟨_, _, rfl, run_takeDeferred HK7.out, ?_⟩⟩
     refine ⟨_, results_ct rfl _ _ _ _ rfl (ntree_ld hB9), ?_⟩
     rw [HRN.out, HBB.out]
     exact ⟨gm, rfl, hM9, hbl⟩
   ·have b2 : ((bn : Int) == (nn : Int)) = false := by rw [beq_eq_false_iff_ne]; omega
    have HBB : Hid ((decide (an = rn) && (decide (bn = nn) && decide (cn = bn))) = false) := by unfold Hid; simp [h2]
    clear h1 h2
    go_upto_region 6 with (fail)
    refine wp_region_later (by kernel_rfl) (by kernel_rfl) ?_
    repeat (first | go_big_quiet_step (fail) | (refine wpQuiet_load_part rfl 86 (.tmp 2) rfl ⟨g + 1, 0, none⟩ rfl _ HPT.out ?_; simp only [Act.put, List.setIfInBounds_toArray, List.set_cons_succ, List.set_cons_zero]) | (refine wpQuiet_store_same rfl 86 (.tmp 2) (.tmp 20) rfl (g + 1) #[.slice ro rn rc, .slice no nn nc, .slice ao an ac, .slice bo bn bc, .slice co cn cc, .map (some gm)] rfl rfl 86 HST.out ntr_info HONE.out ?_; simp only [Act.put]))
    refine wpQuiet_nil ?_
    intro w5 hw5
    obtain ⟨y, rfl⟩ := hw5
    have HB7 := Lib.hid (HB6.out.below y.ok)
    have HM7 := Lib.hid (HM.out.below y.ok)
    have HF7 := Lib.hid (HBF.out.trans (y.ok.mono HBF.out.size))
    have HK7 : Hid (y.val.heap[D]? = some (.deferred (some []))) := (y.ok.block D (Array.getElem?_eq_some_iff.1 HK.out).1).trans HK.out
    clear c0 c1 c2 c3 c4 HPT HB6 HA6 HM HBF HK HST
    generalize y.val = w6 at *
    clear y
    go_wp2_with fail
    have hgrow := grownBy_putObj' w6 D (.deferred none)
    have hB9 := HB7.out.fr (Fr.grown hgrow) (fun e => by cases e; have := HDX.out; have := HGX.out; omega)
    have hM9 := HM7.out.block (hgrow.block gm HM7.out.lt (fun e => by cases e; have := HDX.out; have := HGB.out; omega))
    have hbl := HF7.out.trans ((Fr.grown hgrow).below HF7.out.size (fun k hk e => by cases e; have := HDX.out; have := HGX.out; have := HG.out; omega))
    refine ⟨by simp, .inl ⟨_, _, rfl, run_takeDeferred HK7.out, ?_⟩⟩
    refine ⟨_, results_ct rfl _ _ _ _ rfl (ntree_ld hB9), ?_⟩
    rw [HRN.out, HBB.out]
    exact ⟨gm, rfl, hM9, hbl⟩
  ·have b1 : ((an : Int) == (rn : Int)) = false := by rw [beq_eq_false_iff_ne]; omega
   have HBB : Hid ((decide (an = rn) && (decide (bn = nn) && decide (cn = bn))) = false) := by unfold Hid; simp [h1]
   clear h1
   go_upto_region 6 with (fail)
   refine wp_region_later (by kernel_rfl) (by kernel_rfl) ?_
   repeat (first | go_big_quiet_step (fail) | (refine wpQuiet_load_part rfl 86 (.tmp 2) rfl ⟨g + 1, 0, none⟩ rfl _ HPT.out ?_; simp only [Act.put, List.setIfInBounds_toArray, List.set_cons_succ, List.set_cons_zero]) | (refine wpQuiet_store_same rfl 86 (.tmp 2) (.tmp 20) rfl (g + 1) #[.slice ro rn rc, .slice no nn nc, .slice ao an ac, .slice bo bn bc, .slice co cn cc, .map (some gm)] rfl rfl 86 HST.out ntr_info HONE.out ?_; simp only [Act.put]))
   refine wpQuiet_nil ?_
   intro w5 hw5
   obtain ⟨y, rfl⟩ := hw5
   have HB7 := Lib.hid (HB6.out.below y.ok)
   have HM7 := Lib.hid (HM.out.below y.ok)
   have HF7 := Lib.hid (HBF.out.trans (y.ok.mono HBF.out.size))
   have HK7 : Hid (y.val.heap[D]? = some (.deferred (some []))) := (y.ok.block D (Array.getElem?_eq_some_iff.1 HK.out).1).trans HK.out
   clear c0 c1 c2 c3 c4 HPT HB6 HA6 HM HBF HK HST
   generalize y.val = w6 at *
   clear y
   go_wp2_with fail
   have hgrow := grownBy_putObj' w6 D (.deferred none)
   have hB9 := HB7.out.fr (Fr.grown hgrow) (fun e => by cases e; have := HDX.out; have := HGX.out; omega)
   have hM9 := HM7.out.block (hgrow.block gm HM7.out.lt (fun e => by cases e; have := HDX.out; have := HGB.out; omega))
   have hbl := HF7.out.trans ((Fr.grown hgrow).below HF7.out.size (fun k hk e => by cases e; have := HDX.out; have := HGX.out; have := HG.out; omega))
   refine ⟨by simp, .inl ⟨_, _, rfl, run_takeDeferred HK7.out, ?_⟩⟩
   refine ⟨_, results_ct rfl _ _ _ _ rfl (ntree_ld hB9), ?_⟩
   rw [HRN.out, HBB.out]
   exact ⟨gm, rfl, hM9, hbl⟩
end Go.Proofs.YtgjhepblpdnkcaaGreatDoor
namespace Go.Proofs.YtgjhepblpdnkcaaGreatDoor
open Go.RowKit Go.ChangeMaps
set_option maxRecDepth 100000
set_option maxHeartbeats 8000000

/-- The first number of which something is so. -/
def frst (p : Nat → Bool) : Nat → Nat → Option Nat
 | 0, _ => none
 | n + 1, k => if p k then some k else frst p n (k + 1)
theorem frst_none {p : Nat → Bool} : ∀ (n k : Nat), frst p n k = none ↔ ∀ j, k ≤ j → j < k + n → p j = false
 | 0, k => by simp [frst]; omega
 | n + 1, k => by
  unfold frst
  by_cases h : p k = true
  ·rw [if_pos h]
   constructor
   ·intro e; cases e
   ·intro e; have := e k (Nat.le_refl _) (by omega); rw [h] at this; cases this
  ·rw [if_neg h, frst_none n (k + 1)]
   constructor
   ·intro e j h1 h2
    rcases Nat.eq_or_lt_of_le h1 with h3 | h3
    ·subst h3; simpa using h
    ·exact e j (by omega) (by omega)
   ·intro e j h1 h2; exact e j (by omega) (by omega)
theorem frst_some {p : Nat → Bool} : ∀ (n k i : Nat), frst p n k = some i → k ≤ i ∧ i < k + n ∧ p i = true ∧ ∀ j, k ≤ j → j < i → p j = false
 | 0, k, i, h => by simp [frst] at h
 | n + 1, k, i, h => by
  unfold frst at h
  by_cases hp : p k = true
  ·rw [if_pos hp] at h
   cases h
   exact ⟨Nat.le_refl _, by omega, hp, fun j h1 h2 => by omega⟩
  ·rw [if_neg hp] at h
   obtain ⟨h1, h2, h3, h4⟩ := frst_some n (k + 1) i h
   refine ⟨by omega, by omega, h3, fun j g1 g2 => ?_⟩
   rcases Nat.eq_or_lt_of_le g1 with h5 | h5
   ·subst h5; simpa using hp
   ·exact h4 j (by omega) g2
/-- What the first of them is told as. -/
def frV (o : Option Nat) : Array Value := match o with | some i => #[.int .i64 i, .bool true] | none => #[.int .i64 0, .bool false]
theorem first_any (w : World) (n : Nat) (hn : n ≤ 1000000000) (p : Nat → Bool) (fn : Nat) (v : Value) (hen : ∀ (args : Array Value) (x : World), (callFunc fn args).run Tryz.prog x = .ok (.enter fn args) x) (hf : ∀ k, k < n → ∀ x, Below w.heap.size w x → Calls Tryz.prog fn #[v, .int .i64 k] x fun e w' => e = .returned (.bool (p k)) ∧ Below x.heap.size x w') :
  Calls Tryz.prog 67 #[.int .i64 n, .func (.func fn) #[v] #[]] w fun e w' => e = .returned (.tuple (frV (frst p n 0))) ∧ Below w.heap.size w w' := by
 have HF := Lib.hid hf; have HN := Lib.hid hn
 have HB := Lib.hid (Below.refl w.heap.size w)
 clear hf hn
 go_enter Tryz.func67, Tryz.ntmps67
 go_wp2_with fail
 go_loopw [6, 8] (fun _ v8 wr => ∃ k : Nat, k ≤ n ∧ v8 = .int .i64 k ∧ Hid (frst p n 0 = frst p (n - k) k) ∧ Hid (Below w.heap.size w wr)) (fun _ v8 _ => n - (intOf v8).toNat)
 case atStart => exact ⟨0, Nat.zero_le _, rfl, rfl, HB.out⟩
 case round =>
  clear HB
  obtain ⟨k, hk, rfl, HE, HB⟩ := hrel
  by_cases hlt : k < n
  ·have hltI : (k : Int) < n := by omega
   have hkb : (k : Int) + 1 ≤ 1000000000 := by have := HN.out; omega
   have HLT := Lib.hid hlt
   have HC := Lib.hid (HF.out k hlt wr HB.out)
   have HNX : Hid (frst p (n - k) k = if p k then some k else frst p (n - (k + 1)) (k + 1)) := by
    unfold Hid
    rw [show n - k = (n - (k + 1)) + 1 by omega]; rfl
   obtain ⟨b, hb⟩ : ∃ b, p k = b := ⟨_, rfl⟩
   rw [hb] at HC HNX
   clear hlt hk hb
   go_wp2_with fail
   refine HC.out.mono ?_
   rintro e x ⟨rfl, hb⟩
   have HB2 := Lib.hid (HB.out.trans (hb.mono HB.out.size))
   clear hb HB HC
   cases b with
   | true =>
    go_wp2_with fail
    go_ret2
    refine ⟨?_, HB2.out⟩
    rw [HE.out, HNX.out]; rfl
   | false =>
    go_wp2_with fail
    go_roundw
    case rel => exact ⟨k + 1, by have := HLT.out; omega, by go_num, by unfold Hid; rw [HE.out, HNX.out]; rfl, HB2.out⟩
    case measure => have := HLT.out; simp [intOf]; omega
  ·have hltI : ¬ (k : Int) < n := by omega
   obtain rfl : k = n := by omega
   clear hlt hk
   go_wp2_with fail
   go_ret2
   refine ⟨?_, HB.out⟩
   rw [HE.out, Nat.sub_self]; rfl
end Go.Proofs.YtgjhepblpdnkcaaGreatDoor
namespace Go.Proofs.YtgjhepblpdnkcaaGreatDoor
open Go.RowKit

/-- A node's cells, its kids' slice among them; and the same, as they lie at a node. -/
abbrev Nk := Nd × (Option Addr × Nat)
/-- A tree's rows; each row's block has its tag. The nodes' cells are of NK, the kids' rows of NL. -/
structure TrR (w : World) (τ : Nat → Nat) (v1 v2 v3 v4 v5 : Value) (R : List Ru) (NK NL : List Nk) (RA NA : List Int) (NM : List ByteArray) : Prop where
 new : ∀ k, w.heap.size ≤ k → τ k = 0
 t2 : RowT w τ 2 49 2 v1 R.length (R.flatMap ruc)
 t3 : RowT w τ 3 45 9 v2 NK.length (NK.flatMap ndc)
 t4 : RowT w τ 4 3 1 v3 RA.length (inc RA)
 t5 : RowT w τ 5 3 1 v4 NA.length (inc NA)
 t6 : RowT w τ 6 9 1 v5 NM.length (NM.map Value.string)
 kid : ∀ i (h : i < NL.length), RowT w τ (7 + i) 3 1 (.slice NL[i].2.1 NL[i].1.kids.length NL[i].2.2) NL[i].1.kids.length (inc NL[i].1.kids)
variable {w w' : World} {gt : Nat} {τ : Nat → Nat} {v1 v2 v3 v4 v5 v' : Value} {R : List Ru} {NK NL : List Nk} {RA NA : List Int} {NM : List ByteArray}
/-- What touches none of its blocks keeps it. -/
theorem TrR.fr {F : Nat → Prop} (h : TrR w τ v1 v2 v3 v4 v5 R NK NL RA NA NM) (hf : Fr F w w') (hF : ∀ k, k < w.heap.size → 2 ≤ τ k → ¬ F k) : TrR w' τ v1 v2 v3 v4 v5 R NK NL RA NA NM where
 new := fun k hk => h.new k (Nat.le_trans hf.size hk)
 t2 := h.t2.keep hf (fun k hk e => hF k hk (by omega)) (fun _ _ => rfl)
 t3 := h.t3.keep hf (fun k hk e => hF k hk (by omega)) (fun _ _ => rfl)
 t4 := h.t4.keep hf (fun k hk e => hF k hk (by omega)) (fun _ _ => rfl)
 t5 := h.t5.keep hf (fun k hk e => hF k hk (by omega)) (fun _ _ => rfl)
 t6 := h.t6.keep hf (fun k hk e => hF k hk (by omega)) (fun _ _ => rfl)
 kid := fun i hi => (h.kid i hi).keep hf (fun k hk e => hF k hk (by omega)) (fun _ _ => rfl)
theorem TrR.below (h : TrR w τ v1 v2 v3 v4 v5 R NK NL RA NA NM) (hb : Below w.heap.size w w') : TrR w' τ v1 v2 v3 v4 v5 R NK NL RA NA NM :=
 h.fr (F := fun _ => False) (Fr.of_below hb) (fun _ _ _ => id)
theorem tag_new {g : Nat} (hn : ∀ k, w.heap.size ≤ k → τ k = 0) (hs : w.heap.size ≤ w'.heap.size) : ∀ k, w'.heap.size ≤ k → tagN τ w.heap.size w'.heap.size g k = 0 := fun k hk => (tagN_new hk).trans (hn k (Nat.le_trans hs hk))
theorem TrR.rule (h : TrR w τ v1 v2 v3 v4 v5 R NK NL RA NA NM) (r : Ru) (ho : w'.ownsRow 0 49 2 v' (R.length + 1) (R.flatMap ruc ++ ruc r)) (hg : w.grownBy w' v1.ownBlock) (hb : ∀ k, v'.ownBlock = some k → v1.ownBlock = some k ∨ w.heap.size ≤ k) :
  TrR w' (tagN τ w.heap.size w'.heap.size 2) v' v2 v3 v4 v5 (R ++ [r]) NK NL RA NA NM where
 new := tag_new h.new hg.size
 t2 := h.t2.step (by rw [List.length_append, List.flatMap_append]; simpa using ho) hb
 t3 := h.t3.beside h.t2 (by decide) hg
 t4 := h.t4.beside h.t2 (by decide) hg
 t5 := h.t5.beside h.t2 (by decide) hg
 t6 := h.t6.beside h.t2 (by decide) hg
 kid := fun i hi => (h.kid i hi).beside h.t2 (by omega) hg
theorem TrR.node (h : TrR w τ v1 v2 v3 v4 v5 R NK NL RA NA NM) (x : Nk) (ho : w'.ownsRow 0 45 9 v' (NK.length + 1) (NK.flatMap ndc ++ ndc x)) (hg : w.grownBy w' v2.ownBlock) (hb : ∀ k, v'.ownBlock = some k → v2.ownBlock = some k ∨ w.heap.size ≤ k) (hx : x.1.kids = []) (hx2 : x.2 = (none, 0)) :
  TrR w' (tagN τ w.heap.size w'.heap.size 3) v1 v' v3 v4 v5 R (NK ++ [x]) (NL ++ [x]) RA NA NM where
 new := tag_new h.new hg.size
 t2 := h.t2.beside h.t3 (by decide) hg
 t3 := h.t3.step (by rw [List.length_append, List.flatMap_append]; simpa using ho) hb
 t4 := h.t4.beside h.t3 (by decide) hg
 t5 := h.t5.beside h.t3 (by decide) hg
 t6 := h.t6.beside h.t3 (by decide) hg
 kid := fun i hi => by
  rcases Nat.lt_or_ge i NL.length with h1 | h1
  ·rw [List.getElem_append_left h1]
   exact (h.kid i h1).beside h.t3 (by omega) hg
  ·have h2 : i = NL.length := by simp at hi; omega
   subst h2
   rw [List.getElem_append_right (Nat.le_refl _)]
   simp only [Nat.sub_self, List.getElem_cons_zero, hx, hx2]
   exact RowT.nil _ _ _ _ _
theorem TrR.ra (h : TrR w τ v1 v2 v3 v4 v5 R NK NL RA NA NM) (x : Int) (ho : w'.ownsRow 0 3 1 v' (RA.length + 1) (inc RA ++ [.int .i64 x])) (hg : w.grownBy w' v3.ownBlock) (hb : ∀ k, v'.ownBlock = some k → v3.ownBlock = some k ∨ w.heap.size ≤ k) :
  TrR w' (tagN τ w.heap.size w'.heap.size 4) v1 v2 v' v4 v5 R NK NL (RA ++ [x]) NA NM where
 new := tag_new h.new hg.size
 t2 := h.t2.beside h.t4 (by decide) hg
 t3 := h.t3.beside h.t4 (by decide) hg
 t4 := h.t4.step (by rw [List.length_append]; simpa [inc] using ho) hb
 t5 := h.t5.beside h.t4 (by decide) hg
 t6 := h.t6.beside h.t4 (by decide) hg
 kid := fun i hi => (h.kid i hi).beside h.t4 (by omega) hg
theorem TrR.na (h : TrR w τ v1 v2 v3 v4 v5 R NK NL RA NA NM) (x : Int) (ho : w'.ownsRow 0 3 1 v' (NA.length + 1) (inc NA ++ [.int .i64 x])) (hg : w.grownBy w' v4.ownBlock) (hb : ∀ k, v'.ownBlock = some k → v4.ownBlock = some k ∨ w.heap.size ≤ k) :
  TrR w' (tagN τ w.heap.size w'.heap.size 5) v1 v2 v3 v' v5 R NK NL RA (NA ++ [x]) NM where
 new := tag_new h.new hg.size
 t2 := h.t2.beside h.t5 (by decide) hg
 t3 := h.t3.beside h.t5 (by decide) hg
 t4 := h.t4.beside h.t5 (by decide) hg
 t5 := h.t5.step (by rw [List.length_append]; simpa [inc] using ho) hb
 t6 := h.t6.beside h.t5 (by decide) hg
 kid := fun i hi => (h.kid i hi).beside h.t5 (by omega) hg
theorem TrR.nm (h : TrR w τ v1 v2 v3 v4 v5 R NK NL RA NA NM) (x : ByteArray) (ho : w'.ownsRow 0 9 1 v' (NM.length + 1) (NM.map Value.string ++ [.string x])) (hg : w.grownBy w' v5.ownBlock) (hb : ∀ k, v'.ownBlock = some k → v5.ownBlock = some k ∨ w.heap.size ≤ k) :
  TrR w' (tagN τ w.heap.size w'.heap.size 6) v1 v2 v3 v4 v' R NK NL RA NA (NM ++ [x]) where
 new := tag_new h.new hg.size
 t2 := h.t2.beside h.t6 (by decide) hg
 t3 := h.t3.beside h.t6 (by decide) hg
 t4 := h.t4.beside h.t6 (by decide) hg
 t5 := h.t5.beside h.t6 (by decide) hg
 t6 := h.t6.step (by rw [List.length_append]; simpa using ho) hb
 kid := fun i hi => (h.kid i hi).beside h.t6 (by omega) hg
/-- A kid more. -/
def kidP (x : Nk) (k : Int) (q : Option Addr × Nat) : Nk := ({ x.1 with kids := x.1.kids ++ [k] }, q)
theorem TrR.kd (h : TrR w τ v1 v2 v3 v4 v5 R NK NL RA NA NM) {n : Nat} (hn : n < NL.length) (k : Int) (q : Option Addr × Nat)
  (ho : w'.ownsRow 0 3 1 (.slice q.1 (NL[n].1.kids.length + 1) q.2) (NL[n].1.kids.length + 1) (inc NL[n].1.kids ++ [.int .i64 k])) (hg : w.grownBy w' (Value.slice NL[n].2.1 NL[n].1.kids.length NL[n].2.2).ownBlock)
  (hb : ∀ b, (Value.slice q.1 (NL[n].1.kids.length + 1) q.2).ownBlock = some b → (Value.slice NL[n].2.1 NL[n].1.kids.length NL[n].2.2).ownBlock = some b ∨ w.heap.size ≤ b) :
  TrR w' (tagN τ w.heap.size w'.heap.size (7 + n)) v1 v2 v3 v4 v5 R NK (NL.set n (kidP NL[n] k q)) RA NA NM where
 new := tag_new h.new hg.size
 t2 := h.t2.beside (h.kid n hn) (by omega) hg
 t3 := h.t3.beside (h.kid n hn) (by omega) hg
 t4 := h.t4.beside (h.kid n hn) (by omega) hg
 t5 := h.t5.beside (h.kid n hn) (by omega) hg
 t6 := h.t6.beside (h.kid n hn) (by omega) hg
 kid := fun i hi => by
  have hi' : i < NL.length := by simpa using hi
  by_cases he : n = i
  ·subst he
   rw [List.getElem_set_self]
   have := (h.kid n hn).step ho hb
   simpa [kidP, inc] using this
  ·rw [List.getElem_set_ne he]
   exact (h.kid i hi').beside (h.kid n hn) (by omega) hg
theorem set9_8 (l r : List Value) (hl : l.length = 9) (u : Value) : (l ++ r).set 8 u = l.set 8 u ++ r := by
 rw [List.set_append_left _ _ (by omega)]
theorem ndc_kidP (x : Nk) (k : Int) (q : Option Addr × Nat) : (ndc x).set 8 (.slice q.1 (x.1.kids.length + 1) q.2) = ndc (kidP x k q) := by
 simp [ndc, kidP]
theorem flat_kid : ∀ (NK : List Nk) (n : Nat) (hn : n < NK.length) (k : Int) (q : Option Addr × Nat), (NK.flatMap ndc).set (n * 9 + 8) (.slice q.1 (NK[n].1.kids.length + 1) q.2) = (NK.set n (kidP NK[n] k q)).flatMap ndc
 | x :: NK, 0, _, k, q => by
  simp only [List.flatMap_cons, Nat.zero_mul, Nat.zero_add, List.getElem_cons_zero, List.set_cons_zero]
  rw [set9_8 _ _ (ndc_len x), ndc_kidP]
 | x :: NK, n + 1, hn, k, q => by
  simp only [List.flatMap_cons, List.getElem_cons_succ, List.set_cons_succ]
  rw [List.set_append_right _ _ (by rw [ndc_len]; omega), ndc_len, show (n + 1) * 9 + 8 - 9 = n * 9 + 8 by omega, flat_kid NK n (by simpa using hn) k q]
/-- The kids' slice is laid into the node's cell. -/
theorem TrR.lay (h : TrR w τ v1 v2 v3 v4 v5 R NK NL RA NA NM) {g c n : Nat} (hv : v2 = .slice (some ⟨g, 0, none⟩) NK.length c) (hn : n < NK.length) (k : Int) (q : Option Addr × Nat) :
  TrR (w.setCell ⟨g, n * 9 + 8, none⟩ (.slice q.1 (NK[n].1.kids.length + 1) q.2)) τ v1 v2 v3 v4 v5 R (NK.set n (kidP NK[n] k q)) NL RA NA NM := by
 subst hv
 have htg : τ g = 3 := h.t3.2 g rfl
 have hf := Fr.setCell w ⟨g, n * 9 + 8, none⟩ (.slice q.1 (NK[n].1.kids.length + 1) q.2)
 have hs := (h.t3.1.stored (n * 9 + 8) (.slice q.1 (NK[n].1.kids.length + 1) q.2)).1
 exact {
  new := fun b hb => h.new b (Nat.le_trans hf.size hb)
  t2 := h.t2.keep hf (fun b _ e hg => by have hg' : b = g := hg; subst hg'; omega) (fun _ _ => rfl)
  t3 := ⟨by rw [List.length_set, ← flat_kid NK n hn k q]; exact hs, h.t3.2⟩
  t4 := h.t4.keep hf (fun b _ e hg => by have hg' : b = g := hg; subst hg'; omega) (fun _ _ => rfl)
  t5 := h.t5.keep hf (fun b _ e hg => by have hg' : b = g := hg; subst hg'; omega) (fun _ _ => rfl)
  t6 := h.t6.keep hf (fun b _ e hg => by have hg' : b = g := hg; subst hg'; omega) (fun _ _ => rfl)
  kid := fun i hi => (h.kid i hi).keep hf (fun b _ e hg => by have hg' : b = g := hg; subst hg'; omega) (fun _ _ => rfl) }
end Go.Proofs.YtgjhepblpdnkcaaGreatDoor
namespace Go.Proofs.YtgjhepblpdnkcaaGreatDoor
open Go.RowKit Go.ChangeMaps
set_option maxRecDepth 100000
set_option maxHeartbeats 8000000

/-- A tree, as it lies: rules, nodes, places, names. -/
structure TnW (w : World) (ro no ao bo co : Option Addr) (rc nc ac bc cc : Nat) (R : List Ru) (NK : List Nk) (RA NA : List Int) (NM : List ByteArray) : Prop where
 r : Sv w ro R.length rc 2 (R.flatMap ruc)
 n : Sv w no NK.length nc 9 (NK.flatMap ndc)
 ra : Sv w ao RA.length ac 1 (inc RA)
 na : Sv w bo NA.length bc 1 (inc NA)
 nm : Sv w co NM.length cc 1 (NM.map Value.string)
theorem TnW.below {w w' : World} {ro no ao bo co : Option Addr} {rc nc ac bc cc : Nat} {R : List Ru} {NK : List Nk} {RA NA : List Int} {NM : List ByteArray} (h : TnW w ro no ao bo co rc nc ac bc cc R NK RA NA NM) (hb : Below w.heap.size w w') : TnW w' ro no ao bo co rc nc ac bc cc R NK RA NA NM :=
 ⟨h.r.below hb, h.n.below hb, h.ra.below hb, h.na.below hb, h.nm.below hb⟩
theorem msi_und : Tryz.prog.underlying 84 = some (.map 9 3) := by kernel_rfl
theorem int_zero (w : World) : (zeroValue 3).run Tryz.prog w = .ok (.int .i64 0) w := by kernel_rfl
def twiB (R : List Ru) (k : Nat) : Bool := decide (fixF R (ruAt R k).name 0 ≠ some k)
def losB (R : List Ru) (NK : List Nk) (NM : List ByteArray) (n : Nat) : Bool := decide ((NK.getD n (⟨0, 0, 0, 0, 0, ⟨#[]⟩, 0, 0, []⟩, (none, 0))).1.kind = 5) && (fixF R (NM.getD n ⟨#[]⟩) 0).isNone
theorem twice_any (w : World) (ro no ao bo co : Option Addr) (rc nn nc an ac bn bc cn cc gm : Nat) (R : List Ru) (k : Nat) (hR : Sv w ro R.length rc 2 (R.flatMap ruc)) (hM : MapS w gm (fun s => fixF R s 0)) (hk : k < R.length) :
  Calls Tryz.prog 68 #[.agg #[.slice ro R.length rc, .slice no nn nc, .slice ao an ac, .slice bo bn bc, .slice co cn cc, .map (some gm)], .int .i64 k] w fun e w' => e = .returned (.bool (twiB R k)) ∧ Below w.heap.size w w' := by
 obtain ⟨g, hg⟩ : ∃ g, w.heap.size = g := ⟨_, rfl⟩
 have hb := (Below.refl w.heap.size w).alloc (Nat.le_refl _) (.cells #[.slice ro R.length rc, .slice no nn nc, .slice ao an ac, .slice bo bn bc, .slice co cn cc, .map (some gm)] 86)
 obtain ⟨z, hz⟩ : ∃ z, w.alloc (.cells #[.slice ro R.length rc, .slice no nn nc, .slice ao an ac, .slice bo bn bc, .slice co cn cc, .map (some gm)] 86) = z := ⟨_, rfl⟩
 have hr := hrow.new w #[.slice ro R.length rc, .slice no nn nc, .slice ao an ac, .slice bo bn bc, .slice co cn cc, .map (some gm)] 86
 rw [hz] at hb hr
 rw [hg] at hr
 have hRz := hR.below hb
 have hMz := hM.below hb
 obtain ⟨a, rfl, hc⟩ := Sv.at ruc_len hRz (by decide) k hk
 have hbd := hRz.bound
 have hn0 : z.cell? (a.add (k * 2)) = some (.string R[k].name) := by
  have := hc 0 _ rfl
  rwa [show (a.add (k * 2)).add 0 = a.add (k * 2) by unfold Addr.add; simp] at this
 have hkI : (k : Int) < R.length := by omega
 obtain ⟨s, hs⟩ : ∃ s, R[k].name = s := ⟨_, rfl⟩
 rw [hs] at hn0
 obtain ⟨j, hj, hjk⟩ := fixF_self R 0 k hk
 rw [hs] at hj
 have hlk0 := fun (v : Later z) => (hMz.below v.ok).look (P := Tryz.prog) (t := 84) (kt := 9) (e := 3) strU msi_und (int_zero v.val) s false
 simp only [hj] at hlk0
 have c0 : ∀ v : Later z, v.val.cell? ⟨g, 0, none⟩ = some (.slice (some a) R.length rc) := fun v => (hr.below v.ok).cell 0
 have c5 : ∀ v : Later z, v.val.cell? ⟨g, 5, none⟩ = some (.map (some gm)) := fun v => (hr.below v.ok).cell 5
 have n0 : ∀ v : Later z, v.val.cell? (a.add (k * 2)) = some (.string s) := fun v => (v.ok.cell (World.block_lt_of_cell? z _ hn0)).trans hn0
 have HZ := Lib.hid hz; have HG := Lib.hid hg; have HB := Lib.hid hb
 have HT : Hid (twiB R k = decide ((j : Int) ≠ k)) := by
  unfold Hid twiB
  rw [ruAt_in hk, hs, hj]
  congr 1
  simp only [ne_eq, Option.some.injEq, eq_iff_iff]
  omega
 clear hR hM hz hg hb hr hRz hMz hc hn0 hs hj hjk hk
 go_enter Tryz.func68, Tryz.ntmps68
 go_upto_region 1 with (fail)
 rw [HZ.out, HG.out]
 by_cases hjj : j = k
 ·have hq : ((j : Int) != k) = false := by rw [hjj]; simp
  have HTT : Hid (twiB R k = false) := by unfold Hid; rw [HT.out, hjj]; simp
  clear hjj
  refine wp_region_later (by kernel_rfl) (by kernel_rfl) ?_
  repeat (go_big_quiet_step (fail))
  refine wpQuiet_nil ?_
  intro w5 hw5
  obtain ⟨y, rfl⟩ := hw5
  have HB5 := Lib.hid (HB.out.trans (y.ok.mono HB.out.size))
  go_wp2_with fail
  go_ret
  exact ⟨by rw [HTT.out]; rfl, HB5.out⟩
 ·have hq : ((j : Int) != k) = true := by rw [bne_iff_ne]; omega
  have HTT : Hid (twiB R k = true) := by unfold Hid; rw [HT.out]; simp; omega
  clear hjj
  refine wp_region_later (by kernel_rfl) (by kernel_rfl) ?_
  repeat (go_big_quiet_step (fail))
  refine wpQuiet_nil ?_
  intro w5 hw5
  obtain ⟨y, rfl⟩ := hw5
  have HB5 := Lib.hid (HB.out.trans (y.ok.mono HB.out.size))
  go_wp2_with fail
  go_ret
  exact ⟨by rw [HTT.out]; rfl, HB5.out⟩
theorem lost_any (w : World) (ro no ao bo co : Option Addr) (rc nc an ac bn bc cc gm : Nat) (R : List Ru) (NK : List Nk) (NM : List ByteArray) (k : Nat) (hN : Sv w no NK.length nc 9 (NK.flatMap ndc)) (hS : Sv w co NM.length cc 1 (NM.map Value.string)) (hM : MapS w gm (fun s => fixF R s 0)) (hk : k < NK.length) (hk2 : k < NM.length) :
  Calls Tryz.prog 69 #[.agg #[.slice ro R.length rc, .slice no NK.length nc, .slice ao an ac, .slice bo bn bc, .slice co NM.length cc, .map (some gm)], .int .i64 k] w fun e w' => e = .returned (.bool (losB R NK NM k)) ∧ Below w.heap.size w w' := by
 obtain ⟨rn, hrn⟩ : ∃ n, R.length = n := ⟨_, rfl⟩
 rw [hrn]
 clear hrn
 obtain ⟨g, hg⟩ : ∃ g, w.heap.size = g := ⟨_, rfl⟩
 have hb := (Below.refl w.heap.size w).alloc (Nat.le_refl _) (.cells #[.slice ro rn rc, .slice no NK.length nc, .slice ao an ac, .slice bo bn bc, .slice co NM.length cc, .map (some gm)] 86)
 obtain ⟨z, hz⟩ : ∃ z, w.alloc (.cells #[.slice ro rn rc, .slice no NK.length nc, .slice ao an ac, .slice bo bn bc, .slice co NM.length cc, .map (some gm)] 86) = z := ⟨_, rfl⟩
 have hr := hrow.new w #[.slice ro rn rc, .slice no NK.length nc, .slice ao an ac, .slice bo bn bc, .slice co NM.length cc, .map (some gm)] 86
 rw [hz] at hb hr
 rw [hg] at hr
 have hNz := hN.below hb
 have hSz := hS.below hb
 have hMz := hM.below hb
 obtain ⟨a, rfl, hc⟩ := Sv.at ndc_len hNz (by decide) k hk
 obtain ⟨b, rfl, hs0⟩ := hSz.str k hk2
 have hbd := hNz.bound
 have hbd2 := hSz.bound
 obtain ⟨s, hs⟩ : ∃ s, NM[k] = s := ⟨_, rfl⟩
 rw [hs] at hs0
 obtain ⟨x, hx⟩ : ∃ x, NK[k] = x := ⟨_, rfl⟩
 have hn0 : z.cell? (a.add (k * 9)) = some (.int .i64 x.1.kind) := by
  have := hc 0 _ rfl
  rw [show (a.add (k * 9)).add 0 = a.add (k * 9) by unfold Addr.add; simp] at this
  rw [this, hx]
 have HL : Hid (losB R NK NM k = (decide (x.1.kind = 5) && (fixF R s 0).isNone)) := by
  unfold Hid losB
  rw [List.getD_eq_getElem?_getD, List.getElem?_eq_getElem hk, List.getD_eq_getElem?_getD, List.getElem?_eq_getElem hk2, Option.getD_some, Option.getD_some, hx, hs]
 have hkI : (k : Int) < NK.length := by omega
 have hkI2 : (k : Int) < NM.length := by omega
 have HNK := Lib.hid hn0
 have HRR := Lib.hid hr
 have hlk0 := fun (v : Later z) => (hMz.below v.ok).look (P := Tryz.prog) (t := 84) (kt := 9) (e := 3) strU msi_und (int_zero v.val) s true
 have c4 : ∀ v : Later z, v.val.cell? ⟨g, 4, none⟩ = some (.slice (some b) NM.length cc) := fun v => (hr.below v.ok).cell 4
 have c5 : ∀ v : Later z, v.val.cell? ⟨g, 5, none⟩ = some (.map (some gm)) := fun v => (hr.below v.ok).cell 5
 have n0 : ∀ v : Later z, v.val.cell? (b.add k) = some (.string s) := fun v => (v.ok.cell (World.block_lt_of_cell? z _ hs0)).trans hs0
 have HZ := Lib.hid hz; have HG := Lib.hid hg; have HB := Lib.hid hb
 clear hN hS hM hz hg hb hr hNz hSz hMz hc hn0 hs hx hk hk2 hs0
 go_enter Tryz.func69, Tryz.ntmps69
 go_upto_region 1 with (fail)
 rw [HZ.out, HG.out]
 cases hF : fixF R s 0 with
 | some j =>
  simp only [hF] at hlk0
  have HLL : Hid (losB R NK NM k = false) := by unfold Hid; rw [HL.out, hF]; simp
  clear hF
  refine wp_region_later (by kernel_rfl) (by kernel_rfl) ?_
  repeat (go_big_quiet_step (fail))
  refine wpQuiet_nil ?_
  intro w5 hw5
  obtain ⟨y, rfl⟩ := hw5
  have HB5 := Lib.hid (HB.out.trans (y.ok.mono HB.out.size))
  have k1 : y.val.cell? ⟨g, 1, none⟩ = some (.slice (some a) NK.length nc) := (HRR.out.below y.ok).cell 1
  have k2 : y.val.cell? (a.add (k * 9)) = some (.int .i64 x.1.kind) := (y.ok.cell (World.block_lt_of_cell? z _ HNK.out)).trans HNK.out
  by_cases hq : x.1.kind = 5
  ·have hq2 : (x.1.kind == 5) = true := by rw [hq]; rfl
   clear hq
   go_wp2_with fail
   go_ret
   exact ⟨by rw [HLL.out]; rfl, HB5.out⟩
  ·have hq2 : (x.1.kind == 5) = false := by rw [beq_eq_false_iff_ne]; exact hq
   clear hq
   go_wp2_with fail
   go_ret
   exact ⟨by rw [HLL.out]; rfl, HB5.out⟩
 | none =>
  simp only [hF] at hlk0
  have HLL : Hid (losB R NK NM k = decide (x.1.kind = 5)) := by unfold Hid; rw [HL.out, hF]; simp
  clear hF
  refine wp_region_later (by kernel_rfl) (by kernel_rfl) ?_
  repeat (go_big_quiet_step (fail))
  refine wpQuiet_nil ?_
  intro w5 hw5
  obtain ⟨y, rfl⟩ := hw5
  have HB5 := Lib.hid (HB.out.trans (y.ok.mono HB.out.size))
  have k1 : y.val.cell? ⟨g, 1, none⟩ = some (.slice (some a) NK.length nc) := (HRR.out.below y.ok).cell 1
  have k2 : y.val.cell? (a.add (k * 9)) = some (.int .i64 x.1.kind) := (y.ok.cell (World.block_lt_of_cell? z _ HNK.out)).trans HNK.out
  by_cases hq : x.1.kind = 5
  ·have hq2 : (x.1.kind == 5) = true := by rw [hq]; rfl
   have HQ := Lib.hid hq
   clear hq
   go_wp2_with fail
   go_ret
   exact ⟨by rw [HLL.out, HQ.out]; rfl, HB5.out⟩
  ·have hq2 : (x.1.kind == 5) = false := by rw [beq_eq_false_iff_ne]; exact hq
   have HQ := Lib.hid hq
   clear hq
   go_wp2_with fail
   go_ret
   exact ⟨by rw [HLL.out, decide_eq_false HQ.out]; rfl, HB5.out⟩
end Go.Proofs.YtgjhepblpdnkcaaGreatDoor
namespace Go.Proofs.YtgjhepblpdnkcaaGreatDoor
open Go.RowKit Go.ChangeMaps Go.Shelf
set_option maxRecDepth 100000
set_option maxHeartbeats 8000000

theorem load_ntree {ops : Array Oper} {rest : List Oper} {o : Oper} {a : Act} {w : World} {Q : Exit → Act → World → Prop} (hgd : o.guard = none) (x : Operand) (ho : o.op = .load 86 x)
  (g : Nat) (hx : a.eval x = .pointer (some ⟨g, 0, none⟩)) (cs : Array Value) (hg : hrow w g cs 86) (hs : cs.size = 6)
  (h : wpList Tryz.prog ops Q rest (a.put o.dst (.agg cs)) w) : wpList Tryz.prog ops Q (o :: rest) a w :=
 wpList_load_row hgd _ x ho g hx _ _ _ _ hg.h Tryz.underlying86 rfl (hs ▸ ntr_info) h
def whoB (R : List Ru) (NK : List Nk) (RA NA : List Int) (NM : List ByteArray) : Bool := decide (RA.length = R.length) && (decide (NA.length = NK.length) && decide (NM.length = NA.length))
/-- The first rule with a name that a rule ahead of it has; the first call of a name that no rule has. -/
def twcF (R : List Ru) (NK : List Nk) (RA NA : List Int) (NM : List ByteArray) : Option Nat := if whoB R NK RA NA NM then frst (twiB R) RA.length 0 else none
def lstF (R : List Ru) (NK : List Nk) (RA NA : List Int) (NM : List ByteArray) : Option Nat := if whoB R NK RA NA NM then frst (losB R NK NM) NA.length 0 else none
theorem Twice_any (w : World) (ro no ao bo co : Option Addr) (rc nc ac bc cc : Nat) (R : List Ru) (NK : List Nk) (RA NA : List Int) (NM : List ByteArray) (hT : TnW w ro no ao bo co rc nc ac bc cc R NK RA NA NM) (hl1 : R.length ≤ 1000000) (hl2 : RA.length ≤ 1000000) :
  Calls Tryz.prog 28 #[.agg #[.slice ro R.length rc, .slice no NK.length nc, .slice ao RA.length ac, .slice bo NA.length bc, .slice co NM.length cc]] w fun e w' => e = .returned (.tuple (frV (twcF R NK RA NA NM))) ∧ Below w.heap.size w w' := by
 have hmf : ∀ (fn : Fn) (first cap : Array Value) (w : World), (Instr.makeFunc fn first cap).run Tryz.prog w = .ok (.func fn first cap) w := fun _ _ _ _ => rfl
 obtain ⟨g, hg⟩ : ∃ g, w.heap.size = g := ⟨_, rfl⟩
 have hb := (Below.refl w.heap.size w).alloc (Nat.le_refl _) (.cells #[.slice ro R.length rc, .slice no NK.length nc, .slice ao RA.length ac, .slice bo NA.length bc, .slice co NM.length cc] 29)
 obtain ⟨z, hz⟩ : ∃ z, w.alloc (.cells #[.slice ro R.length rc, .slice no NK.length nc, .slice ao RA.length ac, .slice bo NA.length bc, .slice co NM.length cc] 29) = z := ⟨_, rfl⟩
 have hr := hrow.new w #[.slice ro R.length rc, .slice no NK.length nc, .slice ao RA.length ac, .slice bo NA.length bc, .slice co NM.length cc] 29
 rw [hz] at hb hr
 rw [hg] at hr
 have HO := Lib.hid (open_any z ro no ao bo co rc NK.length nc RA.length ac NA.length bc NM.length cc R (hT.below hb).r hl1)
 have HT := Lib.hid (hT.below hb)
 have HZ := Lib.hid hz; have HG := Lib.hid hg; have HB := Lib.hid hb; have HR := Lib.hid hr; have HL := Lib.hid hl2
 clear hT hz hg hb hr hl1 hl2
 unfold OpnP at HO
 go_enter Tryz.func28, Tryz.ntmps28
 go_upto_region 1 with (fail)
 rw [HZ.out, HG.out]
 go_wp2_with (refine load_rtree rfl (.tmp 1) rfl g rfl _ HR.out rfl ?_)
 refine HO.out.mono ?_
 rintro e x ⟨gm, rfl, hm, hbx⟩
 have hbl := (Below.refl x.heap.size x).alloc (Nat.le_refl _) (.cells #[.slice ro R.length rc, .slice no NK.length nc, .slice ao RA.length ac, .slice bo NA.length bc, .slice co NM.length cc, .map (some gm)] 86)
 have HN := Lib.hid (hrow.new x #[.slice ro R.length rc, .slice no NK.length nc, .slice ao RA.length ac, .slice bo NA.length bc, .slice co NM.length cc, .map (some gm)] 86)
 have HM := Lib.hid (hm.below hbl)
 have hbb := hbx.trans (hbl.mono hbx.size)
 have HT2 := Lib.hid (HT.out.below hbb)
 have HR2 := Lib.hid (HR.out.below hbb)
 have HB2 := Lib.hid (HB.out.trans (hbb.mono HB.out.size))
 clear hm hbx hbl hbb HO HT HR HB HZ HG
 obtain ⟨b, hb⟩ : ∃ b, (decide (RA.length = R.length) && (decide (NA.length = NK.length) && decide (NM.length = NA.length))) = b := ⟨_, rfl⟩
 have HBB := Lib.hid hb
 simp only [List.push_toArray, List.cons_append, List.nil_append] at *
 rw [hb]
 clear hb
 go_upto_region 2 with (fail)
 revert HN HM HT2 HR2 HB2
 generalize x.alloc (.cells #[.slice ro R.length rc, .slice no NK.length nc, .slice ao RA.length ac, .slice bo NA.length bc, .slice co NM.length cc, .map (some gm)] 86) = y
 generalize x.heap.size = g4
 intro HN HM HT2 HR2 HB2
 cases b with
 | true =>
  have hw := HBB.out
  simp only [Bool.and_eq_true, decide_eq_true_eq] at hw
  obtain ⟨h1, h2, h3⟩ := hw
  have HF := Lib.hid (first_any y RA.length (by have := HL.out; omega) (twiB R) 68 (.agg #[.slice ro R.length rc, .slice no NK.length nc, .slice ao RA.length ac, .slice bo NA.length bc, .slice co NM.length cc, .map (some gm)]) (enters_of Tryz.func68 (by kernel_rfl) rfl) (fun k hk v hv => by
   have h := HT2.out.below hv
   exact twice_any v ro no ao bo co rc NK.length nc RA.length ac NA.length bc NM.length cc gm R k h.r (HM.out.below hv) (by omega)))
  have kc := HR2.out.cell 2
  clear h1 h2 h3
  go_wp2_with (refine load_ntree rfl (.tmp 4) rfl g4 rfl _ HN.out rfl ?_)
  refine HF.out.mono ?_
  rintro e v ⟨rfl, hbv⟩
  have HB3 := Lib.hid (HB2.out.trans (hbv.mono HB2.out.size))
  have HW : Hid (twcF R NK RA NA NM = frst (twiB R) RA.length 0) := by unfold Hid twcF whoB; rw [HBB.out]; rfl
  clear hbv HF kc
  cases hf : frst (twiB R) RA.length 0 with
  | none =>
   have HFF := Lib.hid hf
   unfold frV
   clear hf
   go_wp2_with fail
   go_ret2
   exact ⟨by rw [HW.out, HFF.out]; rfl, HB3.out⟩
  | some i =>
   have HFF := Lib.hid hf
   unfold frV
   clear hf
   go_wp2_with fail
   go_ret2
   exact ⟨by rw [HW.out, HFF.out]; rfl, HB3.out⟩
 | false =>
  have HW : Hid (twcF R NK RA NA NM = none) := by unfold Hid twcF whoB; rw [HBB.out]; rfl
  go_wp2_with fail
  go_ret2
  exact ⟨by rw [HW.out]; rfl, HB2.out⟩
theorem Lost_any (w : World) (ro no ao bo co : Option Addr) (rc nc ac bc cc : Nat) (R : List Ru) (NK : List Nk) (RA NA : List Int) (NM : List ByteArray) (hT : TnW w ro no ao bo co rc nc ac bc cc R NK RA NA NM) (hl1 : R.length ≤ 1000000) (hl2 : NA.length ≤ 1000000) :
  Calls Tryz.prog 30 #[.agg #[.slice ro R.length rc, .slice no NK.length nc, .slice ao RA.length ac, .slice bo NA.length bc, .slice co NM.length cc]] w fun e w' => e = .returned (.tuple (frV (lstF R NK RA NA NM))) ∧ Below w.heap.size w w' := by
 have hmf : ∀ (fn : Fn) (first cap : Array Value) (w : World), (Instr.makeFunc fn first cap).run Tryz.prog w = .ok (.func fn first cap) w := fun _ _ _ _ => rfl
 obtain ⟨g, hg⟩ : ∃ g, w.heap.size = g := ⟨_, rfl⟩
 have hb := (Below.refl w.heap.size w).alloc (Nat.le_refl _) (.cells #[.slice ro R.length rc, .slice no NK.length nc, .slice ao RA.length ac, .slice bo NA.length bc, .slice co NM.length cc] 29)
 obtain ⟨z, hz⟩ : ∃ z, w.alloc (.cells #[.slice ro R.length rc, .slice no NK.length nc, .slice ao RA.length ac, .slice bo NA.length bc, .slice co NM.length cc] 29) = z := ⟨_, rfl⟩
 have hr := hrow.new w #[.slice ro R.length rc, .slice no NK.length nc, .slice ao RA.length ac, .slice bo NA.length bc, .slice co NM.length cc] 29
 rw [hz] at hb hr
 rw [hg] at hr
 have HO := Lib.hid (open_any z ro no ao bo co rc NK.length nc RA.length ac NA.length bc NM.length cc R (hT.below hb).r hl1)
 have HT := Lib.hid (hT.below hb)
 have HZ := Lib.hid hz; have HG := Lib.hid hg; have HB := Lib.hid hb; have HR := Lib.hid hr; have HL := Lib.hid hl2
 clear hT hz hg hb hr hl1 hl2
 unfold OpnP at HO
 go_enter Tryz.func30, Tryz.ntmps30
 go_upto_region 1 with (fail)
 rw [HZ.out, HG.out]
 go_wp2_with (refine load_rtree rfl (.tmp 1) rfl g rfl _ HR.out rfl ?_)
 refine HO.out.mono ?_
 rintro e x ⟨gm, rfl, hm, hbx⟩
 have hbl := (Below.refl x.heap.size x).alloc (Nat.le_refl _) (.cells #[.slice ro R.length rc, .slice no NK.length nc, .slice ao RA.length ac, .slice bo NA.length bc, .slice co NM.length cc, .map (some gm)] 86)
 have HN := Lib.hid (hrow.new x #[.slice ro R.length rc, .slice no NK.length nc, .slice ao RA.length ac, .slice bo NA.length bc, .slice co NM.length cc, .map (some gm)] 86)
 have HM := Lib.hid (hm.below hbl)
 have hbb := hbx.trans (hbl.mono hbx.size)
 have HT2 := Lib.hid (HT.out.below hbb)
 have HR2 := Lib.hid (HR.out.below hbb)
 have HB2 := Lib.hid (HB.out.trans (hbb.mono HB.out.size))
 clear hm hbx hbl hbb HO HT HR HB HZ HG
 obtain ⟨b, hb⟩ : ∃ b, (decide (RA.length = R.length) && (decide (NA.length = NK.length) && decide (NM.length = NA.length))) = b := ⟨_, rfl⟩
 have HBB := Lib.hid hb
 simp only [List.push_toArray, List.cons_append, List.nil_append] at *
 rw [hb]
 clear hb
 go_upto_region 2 with (fail)
 revert HN HM HT2 HR2 HB2
 generalize x.alloc (.cells #[.slice ro R.length rc, .slice no NK.length nc, .slice ao RA.length ac, .slice bo NA.length bc, .slice co NM.length cc, .map (some gm)] 86) = y
 generalize x.heap.size = g4
 intro HN HM HT2 HR2 HB2
 cases b with
 | true =>
  have hw := HBB.out
  simp only [Bool.and_eq_true, decide_eq_true_eq] at hw
  obtain ⟨h1, h2, h3⟩ := hw
  have HF := Lib.hid (first_any y NA.length (by have := HL.out; omega) (losB R NK NM) 69 (.agg #[.slice ro R.length rc, .slice no NK.length nc, .slice ao RA.length ac, .slice bo NA.length bc, .slice co NM.length cc, .map (some gm)]) (enters_of Tryz.func69 (by kernel_rfl) rfl) (fun k hk v hv => by
   have h := HT2.out.below hv
   exact lost_any v ro no ao bo co rc nc RA.length ac NA.length bc cc gm R NK NM k h.n h.nm (HM.out.below hv) (by omega) (by omega)))
  have kc := HR2.out.cell 3
  clear h1 h2 h3
  go_wp2_with (refine load_ntree rfl (.tmp 4) rfl g4 rfl _ HN.out rfl ?_)
  refine HF.out.mono ?_
  rintro e v ⟨rfl, hbv⟩
  have HB3 := Lib.hid (HB2.out.trans (hbv.mono HB2.out.size))
  have HW : Hid (lstF R NK RA NA NM = frst (losB R NK NM) NA.length 0) := by unfold Hid lstF whoB; rw [HBB.out]; rfl
  clear hbv HF kc
  cases hf : frst (losB R NK NM) NA.length 0 with
  | none =>
   have HFF := Lib.hid hf
   unfold frV
   clear hf
   go_wp2_with fail
   go_ret2
   exact ⟨by rw [HW.out, HFF.out]; rfl, HB3.out⟩
  | some i =>
   have HFF := Lib.hid hf
   unfold frV
   clear hf
   go_wp2_with fail
   go_ret2
   exact ⟨by rw [HW.out, HFF.out]; rfl, HB3.out⟩
 | false =>
  have HW : Hid (lstF R NK RA NA NM = none) := by unfold Hid lstF whoB; rw [HBB.out]; rfl
  go_wp2_with fail
  go_ret2
  exact ⟨by rw [HW.out]; rfl, HB2.out⟩
end Go.Proofs.YtgjhepblpdnkcaaGreatDoor
