/- The reader: all. -/
import Derived.Test.YtmpccinbeepbgaaCE
import Derived.Deep.RegionHeld3
namespace Go.Proofs.Ytmpccinbeepbgaa
open Go.RowKit

/-- append(s, l...) at a step of a region that draws, s the call's own, l not empty. -/
theorem step_apps {P : Program} {ops : Array Oper} {o : Oper} {a : Act} {w0 wr : World} {K : Act → World → Prop} {Q : Exit → Act → World → Prop} {E : Prop} (hgd : o.guard = none) (s x : Operand) (t e : TypeId) {size bytes : Nat} {z : Value}
    (ho : o.op = .call { callee := .builtin .append, args := #[s, x], argTypes := #[t, t] }) (he : Elem P t e size bytes z)
    (v : Value) (n : Nat) (xs : List Value) (hs : a.eval s = v) (hO : Own w0 wr e size v n xs) (ao : Option Addr) (m cap : Nat) (ys : List Value) (hx : a.eval x = .slice ao m cap) (hsl : Sv wr ao m cap size ys) (h1 : ∀ u ∈ ys, u.oneCell' = true)
    (hm : 0 < m) (hlen : (n + m) * bytes ≤ 140737488355328 ∧ n + m ≤ maxLen)
    (h : ∀ v' w', Own w0 w' e size v' (n + m) (xs ++ ys) → K (a.put o.dst v') w') : if Region.wanted o (yielded ops a.tmps) = true then Oper.wp P o a wr K Q else E := by
  obtain ⟨ht, hi, hzs, hpos⟩ := he
  obtain ⟨i, hi, hz0, hz1, hz2⟩ := info_parts hi
  have hl := hsl.len
  have : 0 < m * size := Nat.mul_pos hm hpos
  obtain ⟨ad, rfl, _⟩ := hsl.cell 0 (by omega)
  refine step_append_lies wr hgd s x t ho w0.heap.size e i z size bytes ht hi hz0 hz1 hz2 hzs hpos v n xs hs hO.1 ad m cap ys hx hl (fun j u hj => ?_) h1 hm hlen.2 hlen.1 hO.2.size _ rfl ?_
  · obtain ⟨ad', h, hc⟩ := hsl.cell j (List.getElem?_eq_some_iff.1 hj).1
    cases h
    exact hc.trans hj
  · intro g cap' w' hown hg _ _
    exact h _ w' ⟨hown, hO.2.grown hg hO.2.size (fun kk hkk => (hO.1.lt kk hkk).1)⟩

def atOf (w : World) (rd : Nat) : Nat := match w.cell? ⟨rd, 2, none⟩ with | some (.int _ i) => i.toNat | _ => 0

/-- In the loop of all. -/
structure AlSt (w wr : World) (rd : Nat) (lo : Option Addr) (ln lc : Nat) (wo : Option Addr) (wn wc : Nat) (l : Tab) (wl : List Int) (lv p : Nat) (v : Value) (c s : Nat) (t : List Tw) (m : Nat) : Prop where
  rdr : Rd wr rd lo ln lc wo wn wc l wl c s
  fr : Fr (fun k => k = rd) w wr
  hr : Hr l wl lv p c
  kd : KD l wl p c t m
  kids : Kd wr rd v t
  nxt : ∀ j e, ix l (bt wl c) = some j → Pr l wl (c + 1) e → Hr l wl (lf l j) p c

theorem AlSt.below {w wr w' : World} {rd : Nat} {lo : Option Addr} {ln lc : Nat} {wo : Option Addr} {wn wc : Nat} {l : Tab} {wl : List Int} {lv p : Nat} {v : Value} {c s : Nat} {t : List Tw} {m : Nat}
    (h : AlSt w wr rd lo ln lc wo wn wc l wl lv p v c s t m) (hb : Below wr.heap.size wr w') : AlSt w w' rd lo ln lc wo wn wc l wl lv p v c s t m :=
  ⟨h.rdr.below hb, h.fr.trans (Fr.of_below hb) (fun _ _ h => h), h.hr, h.kd, h.kids.fr (Fr.of_below hb), h.nxt⟩

set_option maxRecDepth 100000 in
set_option maxHeartbeats 2000000 in
theorem all_step {l : Tab} {wl : List Int} (hl : RightT l) (hw : wl.length ≤ 400000) (n : Nat) (hO : OneC l wl n) (hA : ∀ m, m < n → AllC l wl m) : AllC l wl n := by
  intro w rd lo ln lc wo wn wc p s lv hn hp hlv hR
  have HR := Lib.hid hR
  obtain ⟨h1, h2⟩ := hR.byt.bound
  have HLw := Lib.hid hR.byt.byte_len
  have HAl := Lib.hid hA; have HN := Lib.hid hn; have HW := Lib.hid hw
  have HOn := Lib.hid (hO w rd lo ln lc wo wn wc p s hn hp hR)
  have c2 : w.cell? ⟨rd, 2, none⟩ = some (.int .i64 p) := hR.row.cell 2
  have HLv := Lib.hid hlv
  clear hA hn hw hR hO hlv
  go_enter Try.func47, Try.ntmps47
  go_wp2_with fail
  refine HOn.out.mono ?_
  rintro e w2 ⟨c, s2, hR2, hF2, hcase⟩
  rcases hcase with ⟨rfl, hno⟩ | ⟨v, t, m, rfl, hpr, hkd, hkids⟩
  · have HNo := Lib.hid hno; have HR2 := Lib.hid hR2; have HF2 := Lib.hid hF2
    clear hno hR2 hF2
    go_wp2_with fail
    go_ret2
    exact ⟨c, s2, HR2.out, HF2.out, .inl ⟨rfl, HNo.out⟩⟩
  · have HSt : Hid (AlSt w w2 rd lo ln lc wo wn wc l wl lv p v c s2 t m) := ⟨hR2, hF2, hr_iff.2 (.inl hpr), hkd, hkids, fun j e _ _ => hr_iff.2 (.inl hpr)⟩
    clear hR2 hF2 hpr hkd hkids
    go_wp2_with fail
    go_loopw [7] (fun v wr => ∃ c s t m, Hid (AlSt w wr rd lo ln lc wo wn wc l wl lv p v c s t m)) (fun _ wr => wl.length - atOf wr rd)
    case atStart => exact ⟨c, s2, t, m, HSt⟩
    case round =>
      clear HSt HOn
      obtain ⟨c, s, t, m, hI⟩ := hrel
      have c1 : wr.cell? ⟨rd, 1, none⟩ = some (.slice wo wn wc) := hI.out.rdr.row.cell 1
      have c2 : wr.cell? ⟨rd, 2, none⟩ = some (.int .i64 c) := hI.out.rdr.row.cell 2
      have c3 : wr.cell? ⟨rd, 3, none⟩ = some (.int .i64 s) := hI.out.rdr.row.cell 3
      by_cases hcw : c < wn
      · have hcw' : (c : Int) < wn := by omega
        by_cases hcs : c + 1 = s
        · subst hcs
          have HMx : Hid (Mx l wl lv p c) := Mx.of hl hI.out.hr (fun j e _ _ he => by
            rcases hI.out.rdr.stop with h | h
            · omega
            · exact h e he)
          have hd : ((((c : Int) + 1) != ((c + 1 : Nat) : Int))) = false := by simp
          have hwr : IntKind.i64.wrap ((c : Int) + 1) = (c : Int) + 1 := IntWalk.i64_in _ (by omega)
          go_wp2_with fail
          go_quiet (fail)
          go_wp2_with fail
          go_ret2
          have hb := below_drewN (Below.refl wr.heap.size wr)
          exact ⟨c, c + 1, hI.out.rdr.below (hb _), hI.out.fr.trans (Fr.of_below (hb _)) (fun _ _ h => h), .inr ⟨_, t, m, rfl, HMx.out, hI.out.kd, hI.out.kids.fr (Fr.of_below (hb _))⟩⟩
        · have hd : ((((c : Int) + 1) != (s : Int))) = true := by simp; omega
          have hwr : IntKind.i64.wrap ((c : Int) + 1) = (c : Int) + 1 := IntWalk.i64_in _ (by omega)
          go_wp2_with fail
          go_quiet (fail)
          clear hd
          have HAt : Hid (atOf wr rd = c) := by unfold Hid atOf; rw [c2]; simp
          have HI3 : Hid (AlSt w (wr.drewN nq) rd lo ln lc wo wn wc l wl lv p u7 c s t m) := hI.out.below (below_drewN (Below.refl wr.heap.size wr) nq)
          clear hI c1 c3 hwr
          have HCs := Lib.hid hcs; clear hcs
          obtain ⟨a, rfl, _⟩ := HI3.out.rdr.byt.byte c (by have := HLw.out; omega)
          go_wp2_with fail
          revert HI3
          generalize wr.drewN nq = w3
          intro HI3
          have HL3 := Lib.hid (fun y : Later w3 => HI3.out.below y.ok)
          have e0 : ∀ y : Later w3, y.val.cell? ⟨rd, 0, none⟩ = some (.slice lo ln lc) := fun y => (HL3.out y).rdr.row.cell 0
          have e1 : ∀ y : Later w3, y.val.cell? ⟨rd, 1, none⟩ = some (.slice (some a) wn wc) := fun y => (HL3.out y).rdr.row.cell 1
          have hcb : ∀ y : Later w3, y.val.cell? (a.add c) = some (.int .u8 (bt wl c)) := fun y => by
            obtain ⟨a', ha, h⟩ := (HL3.out y).rdr.byt.byte c (by have := HLw.out; omega)
            cases ha; exact h
          have HOf := Lib.hid (fun y : Later w3 => of74_any y.val lo lc ln l (HL3.out y).rdr.ops (bt wl c) lv)
          have hc0 : (0 : Int) ≤ c := by omega
          clear c2
          refine wp_region_later (by kernel_rfl) (by kernel_rfl) ?_
          repeat (go_big_quiet_step ((go_at_call 74; exact Calls.later (HOf.out _))))
          refine wpQuiet_nil ?_
          intro w5 hw5
          obtain ⟨y, rfl⟩ := hw5
          have HI5 := Lib.hid (HL3.out y)
          clear HL3 e0 e1 hcb HOf HI3
          generalize y.val = w5 at *
          by_cases hbd : ∃ j, ix l (bt wl c) = some j ∧ lv ≤ j
          · obtain ⟨j, hj, hlj⟩ := hbd
            have e1 : ixI l (bt wl c) = j := by unfold ixI; rw [hj]
            have e2 : (decide ((lv : Int) ≤ (j : Int)) && decide ((0 : Int) ≤ (j : Int))) = true := by simp; omega
            rw [e1, e2]
            have HJ := Lib.hid hj; have HLj := Lib.hid hlj
            clear hj hlj e1 e2
            have c2 : w5.cell? ⟨rd, 2, none⟩ = some (.int .i64 c) := HI5.out.rdr.row.cell 2
            have f2 : w5.frozen? ⟨rd, 2, none⟩ = false := HI5.out.rdr.row.frozen 2
            have c0 : w5.cell? ⟨rd, 0, none⟩ = some (.slice lo ln lc) := HI5.out.rdr.row.cell 0
            have HR6 : Hid (Rd (w5.setCell ⟨rd, 2, none⟩ (.int .i64 ((c : Int) + 1))) rd lo ln lc (some a) wn wc l wl (c + 1) s) :=
              HI5.out.rdr.fr (Fr.setCell w5 ⟨rd, 2, none⟩ _) (HI5.out.rdr.row.setCell 2 _) HI5.out.rdr.stop
            have HF6 := Lib.hid (Fr.setCell w5 ⟨rd, 2, none⟩ (.int .i64 ((c : Int) + 1)))
            go_wp2_with fail
            revert HR6 HF6
            generalize w5.setCell ⟨rd, 2, none⟩ (.int .i64 ((c : Int) + 1)) = w6
            intro HR6 HF6
            have hjl := (ix_some HJ.out).1
            refine (behind_any w6 lo lc ln l HR6.out.ops j hjl (by have := hl.le; omega)).mono ?_
            rintro e w7 ⟨rfl, hb7⟩
            have HR7 := Lib.hid (HR6.out.below hb7)
            have HF7 := Lib.hid ((HF6.out.trans (Fr.of_below hb7) (fun _ _ h => h)).weak (fun _ h => h))
            clear hb7
            go_wp2_with fail
            have hbhl := lf_bd l j
            have hpc := HI5.out.hr.bd
            refine (HAl.out (wl.length - (c + 1)) (by have := HN.out; have := HLw.out; omega) w7 rd lo ln lc (some a) wn wc (c + 1) s (bh l j) (Nat.le_refl _) (by have := HLw.out; omega) (by omega) HR7.out).mono ?_
            rintro e w8 ⟨b, s8, hR8, hF8, hcase⟩
            clear hbhl hpc
            have HF8 := Lib.hid (HF7.out.trans hF8 (fun _ _ h => h))
            have HR8 := Lib.hid hR8
            clear hR8 hF8
            rcases hcase with ⟨rfl, hno⟩ | ⟨v8, t8, m8, rfl, hmx, hkd, hkids⟩
            · have HMx : Hid (Mx l wl lv p c) := Mx.of hl HI5.out.hr (fun j' e hj' _ he => hno e he)
              have HNo := Lib.hid hno
              clear hno
              have g2 : w8.cell? ⟨rd, 2, none⟩ = some (.int .i64 b) := HR8.out.row.cell 2
              have g3 : w8.cell? ⟨rd, 3, none⟩ = some (.int .i64 s8) := HR8.out.row.cell 3
              have f2 : w8.frozen? ⟨rd, 2, none⟩ = false := HR8.out.row.frozen 2
              have f3 : (w8.setCell ⟨rd, 2, none⟩ (.int .i64 c)).frozen? ⟨rd, 3, none⟩ = false := (HR8.out.row.setCell 2 (.int .i64 c)).frozen 3
              have hLt8 : rd < w8.heap.size := HR8.out.row.lt
              go_wp2_with fail
              go_ret2
              have hfs : Fr (fun k => k = rd) w8 ((w8.setCell ⟨rd, 2, none⟩ (.int .i64 c)).setCell ⟨rd, 3, none⟩ (.int .i64 ((c : Int) + 1))) := (Fr.setCell w8 ⟨rd, 2, none⟩ _).trans (Fr.setCell _ ⟨rd, 3, none⟩ _) (fun _ _ h => h)
              have hfa := (HF8.out.trans hfs (fun _ _ h => h))
              exact ⟨c, c + 1, HR8.out.fr hfs ((HR8.out.row.setCell 2 _).setCell 3 _) (.inr HNo.out), HI5.out.fr.trans hfa (fun _ _ h => h), .inr ⟨_, t, m, rfl, HMx.out, HI5.out.kd, HI5.out.kids.fr hfa⟩⟩
            · have hhr := HI5.out.hr
              have hbb := lf_bd l j
              have hsp : Sp l wl j p b c := by
                obtain ⟨e, he⟩ := hmx.1.first
                exact ⟨hjl, (ix_some HJ.out).2.symm, HI5.out.nxt j e HJ.out he, hmx.1⟩
              have hpcb := hsp.bd
              have HSp := Lib.hid hsp
              have HK8 := Lib.hid (KD.sp hsp HI5.out.kd hkd)
              have HH8 := Lib.hid (hhr.join HJ.out HLj.out (hmx.1.weak (by have := HLj.out; omega)))
              have HX8 := Lib.hid (inv_next hl hsp hmx)
              have HFo1 := Lib.hid (HI5.out.kd.fo hl.le HW.out (by omega))
              have HFo2 := Lib.hid (hkd.fo hl.le HW.out hpcb.2.2)
              have HKa := Lib.hid (HI5.out.kids.fr HF8.out)
              have HKb := Lib.hid hkids
              have HBd := Lib.hid hpcb
              clear hhr hbb hsp hpcb hkd hkids hmx
              go_wp2_with fail
              obtain ⟨ka, kc, hv7, hka, _⟩ := HKa.out
              obtain ⟨kb, kd, hv8, hkb, _⟩ := HKb.out
              cases hv7
              cases hv8
              have HTa := Lib.hid (fun w' (hb : Below w8.heap.size w8 w') => twig_any w' ka kc t.length t m (hka.below hb) HFo1.out j p c)
              have HTb := Lib.hid (fun w' (hb : Below w8.heap.size w8 w') (x y : Int) => twig_any w' kb kd t8.length t8 m8 (hkb.below hb) HFo2.out (bh l j) x y)
              have HBh := Lib.hid (fun w' (hb : Below w8.heap.size w8 w') => behind_any w' lo lc ln l (HR8.out.below hb).ops j hjl (by have := hl.le; omega))
              have r0 : w8.cell? ⟨rd, 0, none⟩ = some (.slice lo ln lc) := HR8.out.row.cell 0
              have r2 : w8.cell? ⟨rd, 2, none⟩ = some (.int .i64 b) := HR8.out.row.cell 2
              have HD0 := Lib.hid ((Below.refl w8.heap.size w8).drew)
              have hltr : rd < w8.heap.size := HR8.out.row.lt
              clear hka hkb
              rename_i s0 c20 c0' t0 m0 KK hr2 Q1 aa Q2 hr1 hr0
              have HAA := Lib.hid aa
              have HLn : Hid ((t.length + 1 + (t8.length + 1)) * 40 ≤ 140737488355328 ∧ t.length + 1 + (t8.length + 1) ≤ maxLen) := by
                have := HFo1.out.len; have := HFo2.out.len; unfold Hid maxLen; omega
              have HOn := Lib.hid (twc_one (⟨0, bh l j, IntKind.i64.wrap ((c : Int) + 1), b, m8⟩ :: t8))
              have HWr : Hid (IntKind.i64.wrap ((c : Int) + 1) = (c : Int) + 1) := IntWalk.i64_in _ (by have := HBd.out; have := HLw.out; omega)
              clear aa c20 hr2 hr1 hr0 c2 f2 c0 hcw hcw' hp hc0
              go_region_held3 (fun w' => w'.cell? ⟨rd, 0, none⟩ = some (.slice lo ln lc) ∧ w'.cell? ⟨rd, 2, none⟩ = some (.int .i64 b))
                (first | (exact ⟨(HDc.out.cell (p := ⟨rd, 0, none⟩) hltr).trans r0, (HDc.out.cell (p := ⟨rd, 2, none⟩) hltr).trans r2⟩) | (exact ⟨(HDb.out.cell (p := ⟨rd, 0, none⟩) hltr).trans r0, (HDb.out.cell (p := ⟨rd, 2, none⟩) hltr).trans r2⟩) | (exact ⟨(HDa2.out.cell (p := ⟨rd, 0, none⟩) hltr).trans r0, (HDa2.out.cell (p := ⟨rd, 2, none⟩) hltr).trans r2⟩) | (exact ⟨(HDa.out.cell (p := ⟨rd, 0, none⟩) hltr).trans r0, (HDa.out.cell (p := ⟨rd, 2, none⟩) hltr).trans r2⟩) | go_keep)
                ((first
                  | (go_at_call 75; refine (HBh.out _ HDa.out).mono ?_; rintro ea2 wa2 ⟨rfl, hba2⟩; have HBa2 := Lib.hid hba2; have HDa2 := Lib.hid (HDa.out.trans (hba2.mono HDa.out.size)); clear hba2)
                  | (go_at_call 31; refine (HTb.out _ HDa2.out _ _).mono ?_; rintro eb wb2 ⟨vb, rfl, hob⟩; obtain ⟨bo, bc, rfl, hsb⟩ := hob.sv; have HOb := Lib.hid hob; have HSb := Lib.hid hsb; have HDb := Lib.hid (HDa2.out.trans (hob.2.mono HDa2.out.size)); clear hob hsb)
                  | (go_at_call 31; refine (HTa.out _ HD0.out).mono ?_; rintro ea wa ⟨va, rfl, hoa⟩; have HOa := Lib.hid hoa; have HDa := Lib.hid (HD0.out.trans (hoa.2.mono HD0.out.size)); clear hoa)
                  | (refine step_apps (w0 := w8.drew) (by rfl) _ _ 36 57 (by rfl) elemTw va (t.length + 1) _ (by rfl) (HOa.out.below (HBa2.out.trans (HOb.out.2.mono HBa2.out.size))) bo (t8.length + 1) bc _ (by rfl) HSb.out HOn.out (Nat.succ_pos _) HLn.out ?_; intro vc wcc hoc; have HOc := Lib.hid hoc; have HDc := Lib.hid (HD0.out.trans (hoc.2.mono HD0.out.size)); clear hoc)))
              rw [HWr.out] at HOc
              have HK : Hid (Kd wcc rd vc ((tw j p c m :: t) ++ (tw (bh l j) (c + 1) b m8 :: t8))) := by
                refine Kd.of_own (w0 := w8.drew) ?_ (by simpa using hltr)
                have := HOc.out
                rw [← List.flatMap_append] at this
                rw [show ((tw j p c m :: t) ++ (tw (bh l j) (c + 1) b m8 :: t8)).length = t.length + 1 + (t8.length + 1) by simp; omega]
                exact this
              have HSt : Hid (AlSt w wcc rd lo ln lc (some a) wn wc l wl lv p vc b s8 ((tw j p c m :: t) ++ (tw (bh l j) (c + 1) b m8 :: t8)) 2) :=
                ⟨HR8.out.below HDc.out, (HI5.out.fr.trans HF8.out (fun _ _ h => h)).trans (Fr.of_below HDc.out) (fun _ _ h => h), HH8.out, HK8.out, HK.out, HX8.out⟩
              have HAt2 : Hid (atOf wcc rd = b) := by
                have := HSt.out.rdr.row.cell 2
                unfold Hid atOf; rw [this]; simp
              have aa := HAA.out
              clear HAA HOc HOb HSb HTa HTb HBh HLn HOn HOa HDa HDa2 HDb r0 r2
              go_wp2_with fail
              go_roundw
              case rel => exact ⟨_, _, _, _, HSt⟩
              case measure => rw [HAt.out, HAt2.out]; have := HBd.out; omega
          · have e2 : (decide ((lv : Int) ≤ ixI l (bt wl c)) && decide (0 ≤ ixI l (bt wl c))) = false := by
              unfold ixI
              cases hj : ix l (bt wl c) with
              | none => simp
              | some j =>
                have : ¬ lv ≤ j := fun h => hbd ⟨j, hj, h⟩
                simp; omega
            have HMx : Hid (Mx l wl lv p c) := Mx.of hl HI5.out.hr (fun j e hj h _ => hbd ⟨j, hj, h⟩)
            rw [e2]
            clear e2 hbd
            go_wp2_with fail
            go_ret2
            exact ⟨c, s, HI5.out.rdr, HI5.out.fr, .inr ⟨_, t, m, rfl, HMx.out, HI5.out.kd, HI5.out.kids⟩⟩
      · have HMx : Hid (Mx l wl lv p c) := Mx.of hl hI.out.hr (fun j e hj _ _ => by
          have h3 : bt wl c = -1 := by unfold bt; rw [List.getD_eq_getElem?_getD, List.getElem?_eq_none (by have := HLw.out; omega)]; rfl
          rw [h3, ix_not hl (.inr (.inr (.inr (by decide))))] at hj; cases hj)
        have hdp : decide ((c : Int) < wn) = false := decide_eq_false (by omega)
        go_wp2_with fail
        go_quiet (fail)
        go_wp2_with fail
        go_ret2
        have hb := below_drewN (Below.refl wr.heap.size wr)
        exact ⟨c, s, hI.out.rdr.below (hb _), hI.out.fr.trans (Fr.of_below (hb _)) (fun _ _ h => h), .inr ⟨_, t, m, rfl, HMx.out, hI.out.kd, hI.out.kids.fr (Fr.of_below (hb _))⟩⟩
end Go.Proofs.Ytmpccinbeepbgaa
