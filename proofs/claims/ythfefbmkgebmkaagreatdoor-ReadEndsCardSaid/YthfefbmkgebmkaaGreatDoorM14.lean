/- Walks and plain laws: Kg Kh Ju Jv Jw Jq. -/
import Derived.Test.YthfefbmkgebmkaaGreatDoorM13
import Derived.Test.YthfefbmkgebmkaaGreatDoorM10
import Derived.Test.YthfefbmkgebmkaaGreatDoorM09
namespace Go.Proofs.YthfefbmkgebmkaaGreatDoor
open Go.RowKit Go.Shelf
attribute [local go_sem] Oper.semAt_some
set_option maxRecDepth 100000
set_option maxHeartbeats 8000000

theorem callsIn_round {l n : Nat} {P : Program} {f : FuncId} {args : Array Value} {w : World} {R : Ending → World → Prop} (h : Calls P f args w R) : CallsIn (Fence.wide.inRound l) n P f args w R := (callsIn_wide (n := n)).2 h
theorem SgnI.below {L : List Wd} {B gr d i n : Nat} {w : World} {v : Value} {wr x : World} (h : SgnI L B gr d i w v wr n) (hb : Below wr.heap.size wr x) : SgnI L B gr d i w v x n :=
 ⟨owns_fr h.own (Fr.of_below (F := fun _ => False) hb) (fun _ _ => id), h.rd.below hb, h.fr.trans (Fr.of_below (F := fun _ => False) hb) (fun _ _ e => e.elim)⟩
theorem SufI.below {L : List Wd} {B gr d i n : Nat} {w : World} {v : Value} {G : Nat} {pf : Pt} {jf : Nat} {wr x : World} {p : Pt} {b j : Nat} (h : SufI L B gr d i n w v G pf jf wr p b j) (hb : Below wr.heap.size wr x) : SufI L B gr d i n w v G pf jf x p b j where
 cell := h.cell.below hb
 pt := PtW.fr (G := fun _ => False) (Fr.of_below hb) (fun _ _ => id) (fun _ h => h) _ _ h.pt
 eq := h.eq
 lt := h.lt
 ge := h.ge
 own := owns_fr h.own (Fr.of_below (F := fun _ => False) hb) (fun _ _ => id)
 ne := h.ne
 rd := h.rd.below hb
 fr := h.fr.trans (Fr.of_below (F := fun _ => False) hb) (fun _ _ e => e.elim)
theorem item_walk (L : List Wd) (gr B i d n : Nat) (w : World) (q : Rs Pt) (hW : WsOk L) (hL : L.length ≤ 100000) (hrd : RdW L B gr i d w) (hi : i + n < L.length) (hd : d ≤ 500)
  (hs : ∀ k, k < n → (hereW L (i + k) [33] || hereW L (i + k) [38]) = true) (hs2 : (hereW L (i + n) [33] || hereW L (i + n) [38]) = false) (hqb : ∀ p j, q = .ok p j → j < L.length ∧ i + n < j)
  (HX : ∀ B x, RdW L B gr (i + n) d x → Calls Tryz.prog 94 #[ptr gr] x fun e w' => PrP L B gr d q x e w') :
  Calls Tryz.prog 79 #[ptr gr] w fun e w' => PrP L B gr d (itmR L i n q) w e w' := by
 have HL := Lib.hid hL; have HD := Lib.hid hd; have HWs := Lib.hid hW; have HXs := Lib.hid HX; have HS := Lib.hid hs; have HS2 := Lib.hid hs2; have HQ := Lib.hid hqb; have HI := Lib.hid hi
 have HBw := Lib.hid hrd.le
 have HGR : Hid (gr < B) := hrd.lt
 have HI0 := Lib.hid (SgnI.start hrd)
 clear hrd hi hd hL hW HX hs hs2 hqb
 refine (callsIn_wide (n := 3)).1 ?_
 refine callsIn_of_wp_marks Tryz.func79 rfl trivial ?_ rfl
 simp only [Tryz.ntmps79, List.size_toArray, List.length_cons, List.length_nil, Nat.reduceAdd, Nat.reduceSub, Array.replicate_succ, Array.replicate_zero, List.push_toArray, List.append_toArray, List.nil_append, List.cons_append]
 refine wpIn_wide.2 ?_
 unfold ptr at *
 go_wp2_with fail
 go_loopw [3] (fun v wr => ∃ k, k ≤ n ∧ Hid (SgnI L B gr d i w v wr k)) (fun _ wr => i + n - posOf wr gr)
 case atStart => exact ⟨0, Nat.zero_le _, HI0.out⟩
 case round =>
  obtain ⟨k, hk, HR⟩ := hrel
  have hik : i + k < L.length := by have := HI.out; omega
  have hhl := here_lit L B gr (i + k) d wr HR.out.rd hik [[33], [38]] 2 #[.string ⟨#[33]⟩, .string ⟨#[38]⟩] rfl rfl (by decide)
  simp only [List.any_cons, List.any_nil, Bool.or_false] at hhl
  have HH := Lib.hid hhl
  clear hhl
  by_cases hkn : k < n
  ·rw [HS.out k hkn] at HH
   have HT := Lib.hid (fun x (hx : Below wr.heap.size wr x) => take_any L B gr (i + k) d x (HR.out.rd.below hx) hik HL.out)
   have HN : Hid (k ≤ 1000000) := by have := HL.out; unfold Hid; omega
   have HK := Lib.hid hkn
   have HIK := Lib.hid hik
   clear hik hkn hk
   unfold ptr at HT
   go_wp2_with fail
   refine HH.out.mono ?_
   rintro e x1 ⟨rfl, hb1⟩
   have HT1 := Lib.hid (HT.out x1 hb1); have HB1 := Lib.hid hb1
   clear HH HT hb1
   go_wp2_with fail
   refine HT1.out.mono ?_
   rintro e x2 ⟨rfl, hr2, hf2⟩
   have HF2 := Lib.hid ((Fr.of_below (F := fun k => k = gr) HB1.out).trans hf2 (fun _ _ h => h))
   have HR2 := Lib.hid hr2
   have HO2 := Lib.hid (owns_fr HR.out.own HF2.out (fun q hq e => by have := (HR.out.own.lt q hq).1; have := HGR.out; have := HBw.out; omega))
   have HS3 : Hid (w.heap.size ≤ x2.heap.size) := Nat.le_trans HR.out.fr.size HF2.out.size
   clear HT1 hr2 hf2 HB1
   unfold wdD wdA
   go_wp2_with (refine app_word2 rfl (.tmp 13) (.tmp 18) rfl w.heap.size u3 k _ rfl HO2.out _ (wdAt L (i + k)) rfl rfl HN.out HS3.out ?_; intro v' w' ho hg hb; have HM := Lib.hid (SgnI.more HR.out HBw.out HF2.out HR2.out ho hg); clear ho hg hb)
   go_roundw
   case rel => exact ⟨k + 1, by have := HK.out; omega, HM.out⟩
   case measure =>
    have h1 := HM.out.rd.pos; have h2 := HR.out.rd.pos; have h3 := HK.out
    rw [h1, h2]; omega
  ·obtain rfl : k = n := by omega
   rw [HS2.out] at HH
   clear hik hkn hk
   go_wp2_with fail
   refine HH.out.mono ?_
   rintro e x1 ⟨rfl, hb1⟩
   have HR1 := Lib.hid (HR.out.below hb1)
   have HX1 := Lib.hid (HXs.out x1.heap.size x1 (HR1.out.rd.base (by have := HR1.out.fr.size; have := HGR.out; have := HBw.out; omega) (Nat.le_refl _)))
   clear HH hb1 HXs HR
   cases q with
   | err c a =>
    go_wp2_with fail
    refine HX1.out.mono ?_
    rintro e x2 ⟨rfl, hf⟩
    have HF := Lib.hid (HR1.out.fr.trans hf (fun _ _ h => h))
    clear hf HX1 HR1
    unfold badE
    go_wp2_with fail
    exact ⟨rfl, HF.out⟩
   | ok p j =>
    go_wp2_with fail
    refine HX1.out.mono ?_
    rintro e x2 ⟨b, rfl, hp, hr, hf⟩
    have HJ := Lib.hid (HQ.out p j rfl)
    have HI2 := Lib.hid (SufI.start HR1.out HBw.out hp (hr.base (Nat.lt_of_lt_of_le HGR.out (Nat.le_refl _)) (by have := HR1.out.fr.size; have := hf.size; have := HBw.out; omega)) hf HJ.out.1 (Nat.lt_of_lt_of_le HGR.out HBw.out))
    clear hp hr hf HX1
    have HE : Hid (itmR L i k (Rs.ok p j) = Rs.ok (wrapB L i k (sufF L L.length p j).1) (sufF L L.length p j).2) := rfl
    revert HE HI2
    generalize (sufF L L.length p j).1 = pf
    generalize (sufF L L.length p j).2 = jf
    intro HI2 HE
    unfold ptr
    go_wp2_with fail
    unfold ptr at HI2
    revert HI2
    generalize x2.alloc (.cells #[.pointer (some ⟨b, 0, none⟩)] 86) = x3
    generalize x2.heap.size = G
    intro HI2
    clear HJ HQ HR1
    have HS2' : Hid (∀ q, q < k → (hereW L (i + q) [33] || hereW L (i + q) [38]) = true) := HS.out
    clear HS HS2
    go_loopw [] (fun wr => ∃ (p' : Pt) (b' j' : Nat), Hid (SufI L B gr d i k w u3 G pf jf wr p' b' j')) (fun wr => L.length - posOf wr gr)
    case atStart => exact ⟨_, _, _, HI2.out⟩
    case round =>
     obtain ⟨p', b', j', HR⟩ := hrel
     have hhl := here_lit L B gr j' d wr HR.out.rd HR.out.lt [[42], [43], [63]] 3 #[.string ⟨#[42]⟩, .string ⟨#[43]⟩, .string ⟨#[63]⟩] rfl rfl (by decide)
     simp only [List.any_cons, List.any_nil, Bool.or_false] at hhl
     have HH := Lib.hid hhl
     clear hhl
     cases hany : (hereW L j' [42] || (hereW L j' [43] || hereW L j' [63])) with
     | true =>
      rw [hany] at HH
      obtain ⟨K, hK⟩ : ∃ K : Nat, (hereW L j' [42] = true ∧ K = 8) ∨ (hereW L j' [43] = true ∧ K = 9) ∨ (hereW L j' [63] = true ∧ K = 10) := by
       simp only [Bool.or_eq_true] at hany
       rcases hany with h | h | h
       ·exact ⟨8, .inl ⟨h, rfl⟩⟩
       ·exact ⟨9, .inr (.inl ⟨h, rfl⟩)⟩
       ·exact ⟨10, .inr (.inr ⟨h, rfl⟩)⟩
      have HK := Lib.hid hK
      have HT := Lib.hid (fun x (hx : Below wr.heap.size wr x) => take_any L B gr j' d x (HR.out.rd.below hx) HR.out.lt HL.out)
      clear hK hany
      unfold ptr at HT
      go_wp2_with fail
      refine HH.out.mono ?_
      rintro e x4 ⟨rfl, hb4⟩
      have HT1 := Lib.hid (HT.out x4 hb4); have HB4 := Lib.hid hb4
      clear HH HT hb4
      go_wp2_with fail
      refine HT1.out.mono ?_
      rintro e x5 ⟨rfl, hr5, hf5⟩
      have HF5 := Lib.hid ((Fr.of_below (F := fun k => k = gr) HB4.out).trans hf5 (fun _ _ h => h))
      have HR5 := Lib.hid hr5
      clear HT1 hr5 hf5 HB4
      have hjL := HR.out.lt
      obtain ⟨wd, hwd⟩ : ∃ wd, wdAt L j' = wd := ⟨_, rfl⟩
      have HWD := Lib.hid hwd
      rw [hwd]
      clear hwd hjL
      unfold wdD wdA
      go_upto_region 7 with (fail)
      have hb6 := (Below.refl _ x5).alloc (Nat.le_refl _) (.cells #[.int .i64 wd.kind, .int .i64 wd.at_, .int .i64 wd.nx, .string (tx wd.tx), .int .i64 wd.lv, .int .u64 (clsW wd.cl 0), .int .u64 (clsW wd.cl 1), .int .u64 (clsW wd.cl 2), .int .u64 (clsW wd.cl 3)] 44)
      have HW6 := Lib.hid (hrow.new x5 #[.int .i64 wd.kind, .int .i64 wd.at_, .int .i64 wd.nx, .string (tx wd.tx), .int .i64 wd.lv, .int .u64 (clsW wd.cl 0), .int .u64 (clsW wd.cl 1), .int .u64 (clsW wd.cl 2), .int .u64 (clsW wd.cl 3)] 44)
      have HF6 := Lib.hid (HF5.out.trans (Fr.of_below (F := fun k => k = gr) hb6) (fun _ _ h => h))
      have HR6 := Lib.hid (HR5.out.below hb6)
      clear hb6 HF5 HR5
      revert HW6 HF6 HR6
      generalize x5.alloc (.cells #[.int .i64 wd.kind, .int .i64 wd.at_, .int .i64 wd.nx, .string (tx wd.tx), .int .i64 wd.lv, .int .u64 (clsW wd.cl 0), .int .u64 (clsW wd.cl 1), .int .u64 (clsW wd.cl 2), .int .u64 (clsW wd.cl 3)] 44) = x6
      generalize x5.heap.size = g5
      intro HW6 HF6 HR6
      have HG6 := Lib.hid (HR.out.cell.fr HF6.out (fun e => by have h1 := HR.out.ge; have h2 := HGR.out; have h3 := HBw.out; have : G = gr := e; omega))
      have HP6 := Lib.hid (PtW.fr (H := fun k => B ≤ k ∧ k ≠ G) HF6.out (fun k hk e => by have h1 := hk.1; have h2 := HGR.out; have : k = gr := e; omega) (fun _ h => h) _ _ HR.out.pt)
      obtain ⟨y, hy⟩ : ∃ y, x6.drew = y := ⟨_, rfl⟩
      have hb7 : Below x6.heap.size x6 y := by rw [← hy]; exact (Below.refl _ _).drew
      have HW7 := Lib.hid (HW6.out.below hb7)
      have HG7 := Lib.hid (HG6.out.below hb7)
      have HR7 := Lib.hid (HR6.out.below hb7)
      have HF7 := Lib.hid (HF6.out.trans (Fr.of_below (F := fun k => k = gr) hb7) (fun _ _ h => h))
      have HP7 := Lib.hid (PtW.fr (G := fun _ => False) (H := fun k => B ≤ k ∧ k ≠ G) (Fr.of_below hb7) (fun _ _ => id) (fun _ h => h) _ _ HP6.out)
      have HY := Lib.hid hy
      clear hb7 HW6 HG6 HR6 HF6 HP6 hy
      have HZ : Hid (∀ l0 : Bool, Below y.heap.size y (bif l0 then y.alloc (.map bhE 3) else y)) := by
       intro l0
       cases l0 with
       | true => exact (Below.refl _ _).alloc (Nat.le_refl _) _
       | false => exact Below.refl _ _
      have HLK : Hid ((Instr.lookup 171 (.map (some y.heap.size)) (.string (tx wd.tx)) false).run Tryz.prog (y.alloc (.map bhE 3)) = .ok (.int .i64 K) (y.alloc (.map bhE 3))) := by
       refine look_bh (heap_alloc_new _ _) _ K ?_
       rw [← HWD.out]
       rcases HK.out with ⟨h, e⟩ | ⟨h, e⟩ | ⟨h, e⟩
       ·exact .inl ⟨by rw [(here_kind h).2]; rfl, e⟩
       ·exact .inr (.inl ⟨by rw [(here_kind h).2]; rfl, e⟩)
       ·exact .inr (.inr ⟨by rw [(here_kind h).2]; rfl, e⟩)
      refine (wpIn_wide (n := 3)).1 ?_
      refine wpIn_over_region rfl rfl 31 (.map (some y.heap.size)) (.pointer (some ⟨g5, 3, none⟩)) (.string (tx wd.tx)) (.int .i64 K) (.pointer (some ⟨g5, 1, none⟩)) (.int .i64 wd.at_) (.pointer (some ⟨b', 0, none⟩)) (y.alloc (.map bhE 3)) (by decide +kernel) (by decide +kernel) (by decide +kernel) ?h0 ?h1 ?h2 ?h3 ?h4 ?h5 ?h6 ?ht
      case h0 =>
       rw [HY.out]
       intro l1 l2 l4 l5 l6
       refine ⟨_, rfl, fun K hK => ?_⟩
       simp only [tmO, cond_true, cond_false, List.setIfInBounds_toArray, List.set_cons_succ, List.set_cons_zero, Nat.reduceAdd, Array.getD_eq_getD_getElem?, List.getElem?_toArray, List.getElem?_cons_succ, List.getElem?_cons_zero, Option.getD_some] at hK ⊢
       gi_wp2
       refine ⟨trivial, (callsIn_wide.2 (behind_any y)).mono ?_⟩
       rintro e w' ⟨rfl, rfl⟩
       gi_wp2
       exact hK
      case h1 =>
       rw [HY.out]
       intro l0 l4 l5 l6
       generalize (bif l0 then y.alloc (.map bhE 3) else y) = z
       refine ⟨_, rfl, fun K hK => ?_⟩
       simp only [tmO, cond_true, cond_false, List.setIfInBounds_toArray, List.set_cons_succ, List.set_cons_zero, Nat.reduceAdd, Array.getD_eq_getD_getElem?, List.getElem?_toArray, List.getElem?_cons_succ, List.getElem?_cons_zero, Option.getD_some] at hK ⊢
       gi_wp2
       exact hK
      case h2 =>
       rw [HY.out]
       intro l0 l4 l5 l6
       have hz := HZ.out l0
       generalize (bif l0 then y.alloc (.map bhE 3) else y) = z at *
       have c3 := (HW7.out.below hz).cell 3
       refine ⟨_, rfl, fun K hK => ?_⟩
       simp only [tmO, cond_true, cond_false, List.setIfInBounds_toArray, List.set_cons_succ, List.set_cons_zero, Nat.reduceAdd, Array.getD_eq_getD_getElem?, List.getElem?_toArray, List.getElem?_cons_succ, List.getElem?_cons_zero, Option.getD_some] at hK ⊢
       clear hz
       gi_wp2
       exact hK
      case h3 =>
       intro l4 l5 l6
       have hlk := HLK.out
       refine ⟨_, rfl, fun K hK => ?_⟩
       simp only [tmO, cond_true, cond_false, List.setIfInBounds_toArray, List.set_cons_succ, List.set_cons_zero, Nat.reduceAdd, Array.getD_eq_getD_getElem?, List.getElem?_toArray, List.getElem?_cons_succ, List.getElem?_cons_zero, Option.getD_some] at hK ⊢
       gi_wp2
       exact hK
      case h4 =>
       rw [HY.out]
       intro l0 l1 l2 l3 l6
       generalize (bif l0 then y.alloc (.map bhE 3) else y) = z
       refine ⟨_, rfl, fun K hK => ?_⟩
       simp only [tmO, cond_true, cond_false, List.setIfInBounds_toArray, List.set_cons_succ, List.set_cons_zero, Nat.reduceAdd, Array.getD_eq_getD_getElem?, List.getElem?_toArray, List.getElem?_cons_succ, List.getElem?_cons_zero, Option.getD_some] at hK ⊢
       gi_wp2
       exact hK
      case h5 =>
       rw [HY.out]
       intro l0 l1 l2 l3 l6
       have hz := HZ.out l0
       generalize (bif l0 then y.alloc (.map bhE 3) else y) = z at *
       have c1 := (HW7.out.below hz).cell 1
       refine ⟨_, rfl, fun K hK => ?_⟩
       simp only [tmO, cond_true, cond_false, List.setIfInBounds_toArray, List.set_cons_succ, List.set_cons_zero, Nat.reduceAdd, Array.getD_eq_getD_getElem?, List.getElem?_toArray, List.getElem?_cons_succ, List.getElem?_cons_zero, Option.getD_some] at hK ⊢
       clear hz
       gi_wp2
       exact hK
      case h6 =>
       rw [HY.out]
       intro l0 l1 l2 l3 l4 l5
       have hz := HZ.out l0
       generalize (bif l0 then y.alloc (.map bhE 3) else y) = z at *
       have cG := (HG7.out.below hz).cell 0
       unfold ptr at cG
       refine ⟨_, rfl, fun K hK => ?_⟩
       simp only [tmO, cond_true, cond_false, List.setIfInBounds_toArray, List.set_cons_succ, List.set_cons_zero, Nat.reduceAdd, Array.getD_eq_getD_getElem?, List.getElem?_toArray, List.getElem?_cons_succ, List.getElem?_cons_zero, Option.getD_some] at hK ⊢
       clear hz
       gi_wp2
       exact hK
      case ht =>
       have hz := HZ.out true
       simp only [cond_true] at hz
       have HR8 := Lib.hid (HR7.out.below hz)
       have HF8 := Lib.hid (HF7.out.trans (Fr.of_below (F := fun k => k = gr) hz) (fun _ _ h => h))
       have HV := Lib.hid (over_anyF (fun k => B ≤ k ∧ k ≠ G) K wd.at_ b' p' (y.alloc (.map bhE 3)) (PtW.fr (G := fun _ => False) (Fr.of_below hz) (fun _ _ => id) (fun _ h => h) _ _ HP7.out) (fun k hk => ⟨by have := HR8.out.le; omega, by have := (HG7.out.below hz).lt; omega⟩))
       have HG8 := Lib.hid (HG7.out.below hz)
       clear hz HW7 HG7 HR7 HF7 HP7 HY HZ HLK
       revert HR8 HF8 HV HG8
       generalize hwz : y.alloc (.map bhE 3) = z
       intro HR8 HF8 HV HG8
       clear hwz
       unfold ptr at HV
       refine ⟨_, _, rfl, rfl, ?_⟩
       simp only [tmO, cond_true, List.setIfInBounds_toArray, List.set_cons_succ, List.set_cons_zero, Nat.reduceAdd, Array.getD_eq_getD_getElem?, List.getElem?_toArray, List.getElem?_cons_succ, List.getElem?_cons_zero, Option.getD_some]
       gi_wp2
       refine ⟨trivial, (callsIn_wide.2 HV.out).mono ?_⟩
       rintro e x8 ⟨b8, rfl, hp8, hb8⟩
       have HR9 := Lib.hid (HR8.out.below hb8)
       have HF9 := Lib.hid (HF8.out.trans (Fr.of_below (F := fun k => k = gr) hb8) (fun _ _ h => h))
       have HP9 := Lib.hid hp8
       have hg9 := HG8.out.below hb8
       have c9 := hg9.cell 0
       have f9 := hg9.frozen 0
       clear hp8 hb8 HV HR8 HF8 HG8 hg9
       unfold ptr at c9
       have HM : Hid (SufI L B gr d i k w u3 G pf jf (x8.setCell ⟨G, 0, none⟩ (ptr b8)) (ovr K (wdAt L j').at_ p') b8 (j' + 1)) := SufI.more HR.out HWs.out HBw.out (Nat.lt_of_lt_of_le HGR.out HBw.out) HK.out HF9.out HR9.out (by rw [HWD.out]; exact HP9.out)
       unfold ptr at HM
       gi_wp2
       exact ⟨⟨_, _, _, HM.out⟩, by have h1 := HM.out.rd.pos; have h2 := HR.out.rd.pos; have h3 := HM.out.lt; have h4 := HR.out.lt; rw [h1, h2]; omega⟩
     | false =>
      rw [hany] at HH
      simp only [Bool.or_eq_false_iff] at hany
      obtain ⟨rfl, rfl⟩ := HR.out.done hany.1 hany.2.1 hany.2.2
      obtain ⟨ao, cap, rfl, -⟩ := Sv.of_owns HR.out.own
      clear hany
      go_wp2_with fail
      refine HH.out.mono ?_
      rintro e x4 ⟨rfl, hb4⟩
      have HR4 := Lib.hid (HR.out.below hb4)
      clear HH hb4 HI2
      go_wp2_with fail
      refine (back_any _ _ _ _).mono ?_
      rintro e xb ⟨rfl, hxb⟩
      have hbb : Below x4.heap.size x4 xb := by rw [hxb]; exact (Below.refl _ _).alloc (Nat.le_refl _) _
      have HRb := Lib.hid (HR4.out.below hbb)
      have HBX := Lib.hid (show hrow xb x4.heap.size #[.slice ao k cap] 50 by rw [hxb]; exact hrow.new _ _ _)
      have HGX : Hid (G < x4.heap.size) := HR4.out.cell.lt
      clear hbb hxb HR4
      generalize x4.heap.size = gb at *
      have hown := HRb.out.own
      obtain ⟨ao', cap', e0, hsv⟩ := Sv.of_owns hown
      cases e0
      have HSV := Lib.hid hsv
      have HAO : Hid (∀ a, ao = some a → a.block ≠ G) := fun a ha e => HRb.out.ne (by subst ha; exact congrArg some e)
      have hlen := sgnL_len L i k
      have HLN := Lib.hid hlen
      have HSQ := Lib.hid (back1_stops (sgnL L i k) ao cap gb G 2 xb (by rw [hlen]; exact HBX.out.cell 0) (by rw [hlen]; exact HSV.out) (Nat.ne_of_gt HGX.out) HAO.out (by have := HI.out; have := HL.out; omega))
      have HB0 : Hid (BkI L B gr d j' G w p' [] xb) := ⟨⟨b', HRb.out.cell, HRb.out.pt⟩, HRb.out.rd, HRb.out.fr⟩
      have HGE := Lib.hid HRb.out.ge
      have HGL : Hid (G < xb.heap.size) := HRb.out.cell.lt
      have HWB : Hid (w.heap.size ≤ xb.heap.size) := HRb.out.fr.size
      clear hown hsv hlen HSV HAO HRb HR HBX HGX
      go_wp2_with fail
      refine (wpIn_wide (n := 3)).1 ?_
      refine wpIn_back rfl HSQ.out HBw.out HWB.out HB0.out ?assign ?body ?done
      case assign =>
       intro l pre x W K hI hK hW
       have HK := Lib.hid hK; have HI' := Lib.hid hI
       clear hK hI
       simp only [List.setIfInBounds_toArray, List.set_cons_succ, List.set_cons_zero] at HK ⊢
       unfold wdD wdA at *
       gi_wp2
       have hb := (Below.refl _ W).alloc (Nat.le_refl _) (.cells #[.int .i64 x.2.kind, .int .i64 x.2.at_, .int .i64 x.2.nx, .string (tx x.2.tx), .int .i64 x.2.lv, .int .u64 (clsW x.2.cl 0), .int .u64 (clsW x.2.cl 1), .int .u64 (clsW x.2.cl 2), .int .u64 (clsW x.2.cl 3)] 44)
       exact HK.out W.heap.size _ ((KeepsOthers.alloc _ _).from _) (kpC_fr (Fr.of_below (F := fun _ => False) hb) (fun _ e => e.elim)) (HI'.out.below hb) hW (hrow.new _ _ _)
      case body =>
       intro l pre x Bx W hI hBx hW
       have HI' := Lib.hid hI
       obtain ⟨⟨b', hg, hp⟩, hr, hf⟩ := hI
       unfold wdD wdA at hW ⊢
       obtain ⟨y, hy⟩ : ∃ y, W.drew = y := ⟨_, rfl⟩
       have hb7 : Below W.heap.size W y := by rw [← hy]; exact (Below.refl _ _).drew
       have HW7 := Lib.hid (hW.below hb7)
       have HG7 := Lib.hid (hg.below hb7)
       have HP7 := Lib.hid (PtW.fr (G := fun _ => False) (H := fun k => B ≤ k ∧ k ≠ G) (Fr.of_below hb7) (fun _ _ => id) (fun _ h => h) _ _ hp)
       have HB7 := Lib.hid hb7
       have HLE := Lib.hid (hr.below hb7).le
       have HY := Lib.hid hy
       have HXW := Lib.hid (Nat.le_trans hBx (Nat.le_of_lt hW.lt))
       clear hb7 hW hg hp hr hf hy hBx
       have HZ : Hid (∀ l0 : Bool, Below y.heap.size y (bif l0 then y.alloc (.map ahE 2) else y)) := by
        intro l0
        cases l0 with
        | true => exact (Below.refl _ _).alloc (Nat.le_refl _) _
        | false => exact Below.refl _ _
       have HLK : Hid ((Instr.lookup 171 (.map (some y.heap.size)) (.string (tx x.2.tx)) false).run Tryz.prog (y.alloc (.map ahE 2)) = .ok (.int .i64 (ahT x.2.tx)) (y.alloc (.map ahE 2))) := look_ah2 (heap_alloc_new _ _) _
       simp only [List.setIfInBounds_toArray, List.set_cons_succ, List.set_cons_zero]
       refine wpIn_block ?_
       refine wpIn_over_region rfl rfl 43 (.map (some y.heap.size)) (.pointer (some ⟨Bx, 3, none⟩)) (.string (tx x.2.tx)) (.int .i64 (ahT x.2.tx)) (.pointer (some ⟨Bx, 1, none⟩)) (.int .i64 x.2.at_) (.pointer (some ⟨b', 0, none⟩)) (y.alloc (.map ahE 2)) (by decide +kernel) (by decide +kernel) (by decide +kernel) ?h0 ?h1 ?h2 ?h3 ?h4 ?h5 ?h6 ?ht
       case h0 =>
        rw [HY.out]
        intro l1 l2 l4 l5 l6
        refine ⟨_, rfl, fun K hK => ?_⟩
        simp only [tmO, cond_true, cond_false, List.setIfInBounds_toArray, List.set_cons_succ, List.set_cons_zero, Nat.reduceAdd, Array.getD_eq_getD_getElem?, List.getElem?_toArray, List.getElem?_cons_succ, List.getElem?_cons_zero, Option.getD_some] at hK ⊢
        gi_wp2
        refine ⟨trivial, (callsIn_round (ahead_any y)).mono ?_⟩
        rintro e w' ⟨rfl, rfl⟩
        gi_wp2
        exact hK
       case h1 =>
        rw [HY.out]
        intro l0 l4 l5 l6
        generalize (bif l0 then y.alloc (.map ahE 2) else y) = z
        refine ⟨_, rfl, fun K hK => ?_⟩
        simp only [tmO, cond_true, cond_false, List.setIfInBounds_toArray, List.set_cons_succ, List.set_cons_zero, Nat.reduceAdd, Array.getD_eq_getD_getElem?, List.getElem?_toArray, List.getElem?_cons_succ, List.getElem?_cons_zero, Option.getD_some] at hK ⊢
        gi_wp2
        exact hK
       case h2 =>
        rw [HY.out]
        intro l0 l4 l5 l6
        have hz := HZ.out l0
        generalize (bif l0 then y.alloc (.map ahE 2) else y) = z at *
        have c3 := (HW7.out.below hz).cell 3
        refine ⟨_, rfl, fun K hK => ?_⟩
        simp only [tmO, cond_true, cond_false, List.setIfInBounds_toArray, List.set_cons_succ, List.set_cons_zero, Nat.reduceAdd, Array.getD_eq_getD_getElem?, List.getElem?_toArray, List.getElem?_cons_succ, List.getElem?_cons_zero, Option.getD_some] at hK ⊢
        clear hz
        gi_wp2
        exact hK
       case h3 =>
        intro l4 l5 l6
        have hlk := HLK.out
        refine ⟨_, rfl, fun K hK => ?_⟩
        simp only [tmO, cond_true, cond_false, List.setIfInBounds_toArray, List.set_cons_succ, List.set_cons_zero, Nat.reduceAdd, Array.getD_eq_getD_getElem?, List.getElem?_toArray, List.getElem?_cons_succ, List.getElem?_cons_zero, Option.getD_some] at hK ⊢
        gi_wp2
        exact hK
       case h4 =>
        rw [HY.out]
        intro l0 l1 l2 l3 l6
        generalize (bif l0 then y.alloc (.map ahE 2) else y) = z
        refine ⟨_, rfl, fun K hK => ?_⟩
        simp only [tmO, cond_true, cond_false, List.setIfInBounds_toArray, List.set_cons_succ, List.set_cons_zero, Nat.reduceAdd, Array.getD_eq_getD_getElem?, List.getElem?_toArray, List.getElem?_cons_succ, List.getElem?_cons_zero, Option.getD_some] at hK ⊢
        gi_wp2
        exact hK
       case h5 =>
        rw [HY.out]
        intro l0 l1 l2 l3 l6
        have hz := HZ.out l0
        generalize (bif l0 then y.alloc (.map ahE 2) else y) = z at *
        have c1 := (HW7.out.below hz).cell 1
        refine ⟨_, rfl, fun K hK => ?_⟩
        simp only [tmO, cond_true, cond_false, List.setIfInBounds_toArray, List.set_cons_succ, List.set_cons_zero, Nat.reduceAdd, Array.getD_eq_getD_getElem?, List.getElem?_toArray, List.getElem?_cons_succ, List.getElem?_cons_zero, Option.getD_some] at hK ⊢
        clear hz
        gi_wp2
        exact hK
       case h6 =>
        rw [HY.out]
        intro l0 l1 l2 l3 l4 l5
        have hz := HZ.out l0
        generalize (bif l0 then y.alloc (.map ahE 2) else y) = z at *
        have cG := (HG7.out.below hz).cell 0
        unfold ptr at cG
        refine ⟨_, rfl, fun K hK => ?_⟩
        simp only [tmO, cond_true, cond_false, List.setIfInBounds_toArray, List.set_cons_succ, List.set_cons_zero, Nat.reduceAdd, Array.getD_eq_getD_getElem?, List.getElem?_toArray, List.getElem?_cons_succ, List.getElem?_cons_zero, Option.getD_some] at hK ⊢
        clear hz
        gi_wp2
        exact hK
       case ht =>
        have hz := HZ.out true
        simp only [cond_true] at hz
        have HB8 := Lib.hid (HB7.out.trans (hz.mono HB7.out.size))
        have HG8 := Lib.hid (HG7.out.below hz)
        have HV := Lib.hid (over_anyF (fun k => B ≤ k ∧ k ≠ G) (ahT x.2.tx) x.2.at_ b' (wrapF p' pre) (y.alloc (.map ahE 2)) (PtW.fr (G := fun _ => False) (Fr.of_below hz) (fun _ _ => id) (fun _ h => h) _ _ HP7.out) (fun k hk => ⟨by have := HLE.out; have := hz.size; omega, by have := HG8.out.lt; omega⟩))
        clear hz HW7 HG7 HB7 HP7 HY HZ HLK HLE
        revert HB8 HG8 HV
        generalize y.alloc (.map ahE 2) = z
        intro HB8 HG8 HV
        unfold ptr at HV
        refine ⟨_, _, rfl, rfl, ?_⟩
        simp only [tmO, cond_true, List.setIfInBounds_toArray, List.set_cons_succ, List.set_cons_zero, Nat.reduceAdd, Array.getD_eq_getD_getElem?, List.getElem?_toArray, List.getElem?_cons_succ, List.getElem?_cons_zero, Option.getD_some]
        gi_wp2
        refine ⟨trivial, (callsIn_round HV.out).mono ?_⟩
        rintro e x8 ⟨b8, rfl, hp8, hb8⟩
        have HB9 := Lib.hid (HB8.out.trans (hb8.mono HB8.out.size))
        have HP9 := Lib.hid hp8
        have hg9 := HG8.out.below hb8
        have c9 := hg9.cell 0
        have f9 := hg9.frozen 0
        clear hp8 hb8 HV HB8 HG8 hg9
        unfold ptr at c9
        have HM := Lib.hid (BkI.more (x := x) HI'.out HBw.out HGE.out HGL.out HB9.out HP9.out)
        unfold ptr at HM
        gi_wp2
        exact ⟨HM.out.1, HM.out.2.1, HM.out.2.2, Nat.le_trans HXW.out HM.out.1.size⟩
      case done =>
       intro D W hD hI hK
       have HI' := Lib.hid hI
       obtain ⟨⟨b9, hg, hp⟩, hr, hf⟩ := hI
       have c0 := hg.cell 0
       unfold ptr at c0
       have HP := Lib.hid hp; have HR := Lib.hid hr; have HF := Lib.hid hf; have HK := Lib.hid hK
       clear hg hp hr hf hK
       go_wp2_with fail
       refine ⟨by simp, .inl ⟨_, _, rfl, run_takeDeferred HK.out, ?_⟩⟩
       refine ⟨_, results_tmp rfl _ _ _, ?_⟩
       rw [HE.out]
       have hg := Fr.grown (grownBy_putObj' W D (.deferred none))
       have hnc : ∀ k, Cl W k → ¬ some D = some k := fun k ⟨cs, t, fr, hc⟩ e => by cases e; rw [HK.out] at hc; cases hc
       have hDw : w.heap.size ≤ D := Nat.le_trans HWB.out hD
       refine ⟨b9, rfl, ?_, HR.out.fr hg (fun k e => ?_), HF.out.trans hg (fun k hk e => ?_)⟩
       ·rw [← wrapF_all (sgnL L i k) rfl HS2'.out]
        exact PtW.fr hg (fun k hk e => hnc k hk.2 e) (fun k hk => hk.1.1) _ _ (PtW.cl _ _ HP.out)
       ·have := HBw.out; cases e; omega
       ·cases e; omega
end Go.Proofs.YthfefbmkgebmkaaGreatDoor
namespace Go.Proofs.YthfefbmkgebmkaaGreatDoor
open Go.RowKit

theorem item_step (L : List Wd) (gr : Nat) (hW : WsOk L) (hL : L.length ≤ 100000) (f : Nat) (HP : ∀ f', f' ≤ f → PrC L gr 94 .prim f') : PrC L gr 79 .item (f + 1) := by
 intro B i d w r e hrd hi hd
 obtain ⟨n, f', q, h1, h2, h3, h4, h5, rfl⟩ := item_sgn hW (f + 1) i [] r hi e
 exact item_walk L gr B i d n w q hW hL hrd h2 hd h3 h4 (fun p j er => by obtain ⟨a, b, c⟩ := prs_bd hW f' .prim [] (i + n) d p j h2 (by rw [h5, er]); exact ⟨a, c⟩) (fun B' x hx => HP f' (by omega) B' (i + n) d x q h5 hx h2 hd)
theorem alt_all (L : List Wd) (gr : Nat) (hW : WsOk L) (hL : L.length ≤ 100000) (f : Nat) : PrC L gr 35 .alt f :=
 (prC_all L gr hW hL (fun f => item_step L gr hW hL f) f f (Nat.le_refl f)).1
end Go.Proofs.YthfefbmkgebmkaaGreatDoor
namespace Go.Proofs.YthfefbmkgebmkaaGreatDoor
open Go.RowKit

/-- A node's cells, its kids' slice among them; and the same, as they lie at a node. -/
abbrev Nk := Nd × (Option Addr × Nat)
/-- A tree's rows; each row's block has its tag. The nodes' cells are of NK, the kids' rows of NL. -/
structure TrR (w : World) (τ : Nat → Nat) (v1 v2 v3 v4 v5 : Value) (R : List Ru) (NK NL : List Nk) (RA NA : List Int) (NM : List ByteArray) : Prop where
 new : ∀ k, w.heap.size ≤ k → τ k = 0
 t2 : RowT w τ 2 48 2 v1 R.length (R.flatMap ruc)
 t3 : RowT w τ 3 41 9 v2 NK.length (NK.flatMap ndc)
 t4 : RowT w τ 4 3 1 v3 RA.length (inc RA)
 t5 : RowT w τ 5 3 1 v4 NA.length (inc NA)
 t6 : RowT w τ 6 9 1 v5 NM.length (NM.map Value.string)
 kid : ∀ i (h : i < NL.length), RowT w τ (7 + i) 3 1 (.slice NL[i].2.1 NL[i].1.kids.length NL[i].2.2) NL[i].1.kids.length (inc NL[i].1.kids)
variable {w w' : World} {gt : Nat} {τ : Nat → Nat} {v1 v2 v3 v4 v5 v' : Value} {R : List Ru} {NK NL : List Nk} {RA NA : List Int} {NM : List ByteArray}
/-- What touches none of its blocks keeps it. -/
theorem TrR.fr {F : Nat → Prop} (h : TrR w τ v1 v2 v3 v4 v5 R NK NL RA NA NM) (hf : Fr F w w') (hF : ∀ k, k < w.heap.size → 2 ≤ τ k → ¬ F k) : TrR w' τ v1 v2 v3 v4 v5 R NK NL RA NA NM where
 new := fun k hk => h.new k (Nat.le_trans hf.size hk)
 t2 := h.t2.keep hf (fun k hk e => hF k hk (by omega)) (fun _ _ => rfl)
 t3 := h.t3.keep hf (fun k hk e => hF k hk (by omega)) (fun _ _ => rfl)
 t4 := h.t4.keep hf (fun k hk e => hF k hk (by omega)) (fun _ _ => rfl)
 t5 := h.t5.keep hf (fun k hk e => hF k hk (by omega)) (fun _ _ => rfl)
 t6 := h.t6.keep hf (fun k hk e => hF k hk (by omega)) (fun _ _ => rfl)
 kid := fun i hi => (h.kid i hi).keep hf (fun k hk e => hF k hk (by omega)) (fun _ _ => rfl)
theorem TrR.below (h : TrR w τ v1 v2 v3 v4 v5 R NK NL RA NA NM) (hb : Below w.heap.size w w') : TrR w' τ v1 v2 v3 v4 v5 R NK NL RA NA NM :=
 h.fr (F := fun _ => False) (Fr.of_below hb) (fun _ _ _ => id)
theorem tag_new {g : Nat} (hn : ∀ k, w.heap.size ≤ k → τ k = 0) (hs : w.heap.size ≤ w'.heap.size) : ∀ k, w'.heap.size ≤ k → tagN τ w.heap.size w'.heap.size g k = 0 := fun k hk => (tagN_new hk).trans (hn k (Nat.le_trans hs hk))
/-- Whose blocks are the family's. -/
theorem grown_tag {g : Nat} {e : TypeId} {size : Nat} {v : Value} {n : Nat} {xs : List Value} (h : RowT w τ g e size v n xs) (hg : w.grownBy w' v.ownBlock) : Fr (fun k => τ k = g) w w' := (Fr.grown hg).weak (fun k hk => h.2 k hk)
theorem TrR.rule (h : TrR w τ v1 v2 v3 v4 v5 R NK NL RA NA NM) (r : Ru) (ho : w'.ownsRow 0 48 2 v' (R.length + 1) (R.flatMap ruc ++ ruc r)) (hg : w.grownBy w' v1.ownBlock) (hb : ∀ k, v'.ownBlock = some k → v1.ownBlock = some k ∨ w.heap.size ≤ k) :
  TrR w' (tagN τ w.heap.size w'.heap.size 2) v' v2 v3 v4 v5 (R ++ [r]) NK NL RA NA NM where
 new := tag_new h.new hg.size
 t2 := h.t2.step (by rw [List.length_append, List.flatMap_append]; simpa using ho) hb
 t3 := h.t3.beside h.t2 (by decide) hg
 t4 := h.t4.beside h.t2 (by decide) hg
 t5 := h.t5.beside h.t2 (by decide) hg
 t6 := h.t6.beside h.t2 (by decide) hg
 kid := fun i hi => (h.kid i hi).beside h.t2 (by omega) hg
theorem TrR.node (h : TrR w τ v1 v2 v3 v4 v5 R NK NL RA NA NM) (x : Nk) (ho : w'.ownsRow 0 41 9 v' (NK.length + 1) (NK.flatMap ndc ++ ndc x)) (hg : w.grownBy w' v2.ownBlock) (hb : ∀ k, v'.ownBlock = some k → v2.ownBlock = some k ∨ w.heap.size ≤ k) (hx : x.1.kids = []) (hx2 : x.2 = (none, 0)) :
  TrR w' (tagN τ w.heap.size w'.heap.size 3) v1 v' v3 v4 v5 R (NK ++ [x]) (NL ++ [x]) RA NA NM where
 new := tag_new h.new hg.size
 t2 := h.t2.beside h.t3 (by decide) hg
 t3 := h.t3.step (by rw [List.length_append, List.flatMap_append]; simpa using ho) hb
 t4 := h.t4.beside h.t3 (by decide) hg
 t5 := h.t5.beside h.t3 (by decide) hg
 t6 := h.t6.beside h.t3 (by decide) hg
 kid := fun i hi => by
  rcases Nat.lt_or_ge i NL.length with h1 | h1
  ·rw [List.getElem_append_left h1]
   exact (h.kid i h1).beside h.t3 (by omega) hg
  ·have h2 : i = NL.length := by simp at hi; omega
   subst h2
   rw [List.getElem_append_right (Nat.le_refl _)]
   simp only [Nat.sub_self, List.getElem_cons_zero, hx, hx2]
   exact RowT.nil _ _ _ _ _
theorem TrR.ra (h : TrR w τ v1 v2 v3 v4 v5 R NK NL RA NA NM) (x : Int) (ho : w'.ownsRow 0 3 1 v' (RA.length + 1) (inc RA ++ [.int .i64 x])) (hg : w.grownBy w' v3.ownBlock) (hb : ∀ k, v'.ownBlock = some k → v3.ownBlock = some k ∨ w.heap.size ≤ k) :
  TrR w' (tagN τ w.heap.size w'.heap.size 4) v1 v2 v' v4 v5 R NK NL (RA ++ [x]) NA NM where
 new := tag_new h.new hg.size
 t2 := h.t2.beside h.t4 (by decide) hg
 t3 := h.t3.beside h.t4 (by decide) hg
 t4 := h.t4.step (by rw [List.length_append]; simpa [inc] using ho) hb
 t5 := h.t5.beside h.t4 (by decide) hg
 t6 := h.t6.beside h.t4 (by decide) hg
 kid := fun i hi => (h.kid i hi).beside h.t4 (by omega) hg
theorem TrR.na (h : TrR w τ v1 v2 v3 v4 v5 R NK NL RA NA NM) (x : Int) (ho : w'.ownsRow 0 3 1 v' (NA.length + 1) (inc NA ++ [.int .i64 x])) (hg : w.grownBy w' v4.ownBlock) (hb : ∀ k, v'.ownBlock = some k → v4.ownBlock = some k ∨ w.heap.size ≤ k) :
  TrR w' (tagN τ w.heap.size w'.heap.size 5) v1 v2 v3 v' v5 R NK NL RA (NA ++ [x]) NM where
 new := tag_new h.new hg.size
 t2 := h.t2.beside h.t5 (by decide) hg
 t3 := h.t3.beside h.t5 (by decide) hg
 t4 := h.t4.beside h.t5 (by decide) hg
 t5 := h.t5.step (by rw [List.length_append]; simpa [inc] using ho) hb
 t6 := h.t6.beside h.t5 (by decide) hg
 kid := fun i hi => (h.kid i hi).beside h.t5 (by omega) hg
theorem TrR.nm (h : TrR w τ v1 v2 v3 v4 v5 R NK NL RA NA NM) (x : ByteArray) (ho : w'.ownsRow 0 9 1 v' (NM.length + 1) (NM.map Value.string ++ [.string x])) (hg : w.grownBy w' v5.ownBlock) (hb : ∀ k, v'.ownBlock = some k → v5.ownBlock = some k ∨ w.heap.size ≤ k) :
  TrR w' (tagN τ w.heap.size w'.heap.size 6) v1 v2 v3 v4 v' R NK NL RA NA (NM ++ [x]) where
 new := tag_new h.new hg.size
 t2 := h.t2.beside h.t6 (by decide) hg
 t3 := h.t3.beside h.t6 (by decide) hg
 t4 := h.t4.beside h.t6 (by decide) hg
 t5 := h.t5.beside h.t6 (by decide) hg
 t6 := h.t6.step (by rw [List.length_append]; simpa using ho) hb
 kid := fun i hi => (h.kid i hi).beside h.t6 (by omega) hg
/-- A kid more. -/
def kidP (x : Nk) (k : Int) (q : Option Addr × Nat) : Nk := ({ x.1 with kids := x.1.kids ++ [k] }, q)
theorem TrR.kd (h : TrR w τ v1 v2 v3 v4 v5 R NK NL RA NA NM) {n : Nat} (hn : n < NL.length) (k : Int) (q : Option Addr × Nat)
  (ho : w'.ownsRow 0 3 1 (.slice q.1 (NL[n].1.kids.length + 1) q.2) (NL[n].1.kids.length + 1) (inc NL[n].1.kids ++ [.int .i64 k])) (hg : w.grownBy w' (Value.slice NL[n].2.1 NL[n].1.kids.length NL[n].2.2).ownBlock)
  (hb : ∀ b, (Value.slice q.1 (NL[n].1.kids.length + 1) q.2).ownBlock = some b → (Value.slice NL[n].2.1 NL[n].1.kids.length NL[n].2.2).ownBlock = some b ∨ w.heap.size ≤ b) :
  TrR w' (tagN τ w.heap.size w'.heap.size (7 + n)) v1 v2 v3 v4 v5 R NK (NL.set n (kidP NL[n] k q)) RA NA NM where
 new := tag_new h.new hg.size
 t2 := h.t2.beside (h.kid n hn) (by omega) hg
 t3 := h.t3.beside (h.kid n hn) (by omega) hg
 t4 := h.t4.beside (h.kid n hn) (by omega) hg
 t5 := h.t5.beside (h.kid n hn) (by omega) hg
 t6 := h.t6.beside (h.kid n hn) (by omega) hg
 kid := fun i hi => by
  have hi' : i < NL.length := by simpa using hi
  by_cases he : n = i
  ·subst he
   rw [List.getElem_set_self]
   have := (h.kid n hn).step ho hb
   simpa [kidP, inc] using this
  ·rw [List.getElem_set_ne he]
   exact (h.kid i hi').beside (h.kid n hn) (by omega) hg
theorem set9_8 (l r : List Value) (hl : l.length = 9) (u : Value) : (l ++ r).set 8 u = l.set 8 u ++ r := by
 rw [List.set_append_left _ _ (by omega)]
theorem ndc_kidP (x : Nk) (k : Int) (q : Option Addr × Nat) : (ndc x).set 8 (.slice q.1 (x.1.kids.length + 1) q.2) = ndc (kidP x k q) := by
 simp [ndc, kidP]
theorem flat_kid : ∀ (NK : List Nk) (n : Nat) (hn : n < NK.length) (k : Int) (q : Option Addr × Nat), (NK.flatMap ndc).set (n * 9 + 8) (.slice q.1 (NK[n].1.kids.length + 1) q.2) = (NK.set n (kidP NK[n] k q)).flatMap ndc
 | x :: NK, 0, _, k, q => by
  simp only [List.flatMap_cons, Nat.zero_mul, Nat.zero_add, List.getElem_cons_zero, List.set_cons_zero]
  rw [set9_8 _ _ (ndc_len x), ndc_kidP]
 | x :: NK, n + 1, hn, k, q => by
  simp only [List.flatMap_cons, List.getElem_cons_succ, List.set_cons_succ]
  rw [List.set_append_right _ _ (by rw [ndc_len]; omega), ndc_len, show (n + 1) * 9 + 8 - 9 = n * 9 + 8 by omega, flat_kid NK n (by simpa using hn) k q]
/-- The kids' slice is laid into the node's cell. -/
theorem TrR.lay (h : TrR w τ v1 v2 v3 v4 v5 R NK NL RA NA NM) {g c n : Nat} (hv : v2 = .slice (some ⟨g, 0, none⟩) NK.length c) (hn : n < NK.length) (k : Int) (q : Option Addr × Nat) :
  TrR (w.setCell ⟨g, n * 9 + 8, none⟩ (.slice q.1 (NK[n].1.kids.length + 1) q.2)) τ v1 v2 v3 v4 v5 R (NK.set n (kidP NK[n] k q)) NL RA NA NM := by
 subst hv
 have htg : τ g = 3 := h.t3.2 g rfl
 have hf := Fr.setCell w ⟨g, n * 9 + 8, none⟩ (.slice q.1 (NK[n].1.kids.length + 1) q.2)
 have hs := (h.t3.1.stored (n * 9 + 8) (.slice q.1 (NK[n].1.kids.length + 1) q.2)).1
 exact {
  new := fun b hb => h.new b (Nat.le_trans hf.size hb)
  t2 := h.t2.keep hf (fun b _ e hg => by have hg' : b = g := hg; subst hg'; omega) (fun _ _ => rfl)
  t3 := ⟨by rw [List.length_set, ← flat_kid NK n hn k q]; exact hs, h.t3.2⟩
  t4 := h.t4.keep hf (fun b _ e hg => by have hg' : b = g := hg; subst hg'; omega) (fun _ _ => rfl)
  t5 := h.t5.keep hf (fun b _ e hg => by have hg' : b = g := hg; subst hg'; omega) (fun _ _ => rfl)
  t6 := h.t6.keep hf (fun b _ e hg => by have hg' : b = g := hg; subst hg'; omega) (fun _ _ => rfl)
  kid := fun i hi => (h.kid i hi).keep hf (fun b _ e hg => by have hg' : b = g := hg; subst hg'; omega) (fun _ _ => rfl) }
end Go.Proofs.YthfefbmkgebmkaaGreatDoor
namespace Go.Proofs.YthfefbmkgebmkaaGreatDoor
open Go.RowKit
set_option maxRecDepth 100000
set_option maxHeartbeats 4000000

/-- Is a node more than may be? -/
def grtF (x : Nd) (nm : ByteArray) : Bool :=
 if x.kind = 5 then decide ((32 : Int) < nm.size) || decide (99 < x.lev)
 else if x.kind = 4 then (x.text.toList == []) || decide ((64 : Int) < x.text.size)
 else if x.kind = 3 then (x.c0 == 0 && (x.c1 == 0 && (x.c2 == 0 && x.c3 == 0)))
 else decide ((64 : Int) < x.kids.length)
theorem great_any (x : Nd) (nm : ByteArray) (ao : Option Addr) (cap : Nat) (w : World) :
  Calls Tryz.prog 59 #[.agg #[.int .i64 x.kind, .int .u64 x.c0, .int .u64 x.c1, .int .u64 x.c2, .int .u64 x.c3, .string x.text, .int .i64 x.rule, .int .i64 x.lev, .slice ao x.kids.length cap], .string nm] w fun e w' => e = .returned (.bool (grtF x nm)) ∧ Below w.heap.size w w' := by
 have HR := Lib.hid (hrow.new w #[.int .i64 x.kind, .int .u64 x.c0, .int .u64 x.c1, .int .u64 x.c2, .int .u64 x.c3, .string x.text, .int .i64 x.rule, .int .i64 x.lev, .slice ao x.kids.length cap] 41)
 have HB := Lib.hid (al1 (Below.refl w.heap.size w) (.cells #[.int .i64 x.kind, .int .u64 x.c0, .int .u64 x.c1, .int .u64 x.c2, .int .u64 x.c3, .string x.text, .int .i64 x.rule, .int .i64 x.lev, .slice ao x.kids.length cap] 41))
 have hce := cls_eq
 generalize hG : grtF x nm = G
 have HG := Lib.hid hG; clear hG
 go_enter Tryz.func59, Tryz.ntmps59
 go_upto_region 1 with (fail)
 revert HR HB
 generalize w.alloc (.cells _ 41) = w1
 intro HR HB
 obtain ⟨c0, c1, c2, c3, c4, c5, c6, c7, c8⟩ := HR.out.c9
 by_cases k5 : x.kind = 5
 ·have hb5 : (x.kind == 5) = true := by simpa using k5
  by_cases hn : (32 : Int) < nm.size
  ·have hd : decide ((32 : Int) < nm.size) = true := decide_eq_true hn
   go_wp2_with fail
   go_ret
   exact ⟨ret_bool (by have h := HG.out; unfold grtF at h; rw [← h, if_pos k5, hd]; simp), HB.out⟩
  ·have hd : decide ((32 : Int) < nm.size) = false := decide_eq_false hn
   go_wp2_with fail
   go_ret
   exact ⟨ret_bool (by have h := HG.out; unfold grtF at h; rw [← h, if_pos k5, hd]; simp), HB.out⟩
 ·have hb5 : (x.kind == 5) = false := by simpa using k5
  by_cases k4 : x.kind = 4
  ·have hb4 : (x.kind == 4) = true := by simpa using k4
   cases ht : (x.text.toList == []) with
   | true =>
    go_wp2_with fail
    go_ret
    exact ⟨ret_bool (by have h := HG.out; unfold grtF at h; rw [← h, if_neg k5, if_pos k4, ht]; simp), HB.out⟩
   | false =>
    go_wp2_with fail
    go_ret
    exact ⟨ret_bool (by have h := HG.out; unfold grtF at h; rw [← h, if_neg k5, if_pos k4, ht]; simp), HB.out⟩
  ·have hb4 : (x.kind == 4) = false := by simpa using k4
   by_cases k3 : x.kind = 3
   ·have hb3 : (x.kind == 3) = true := by simpa using k3
    go_wp2_with fail
    go_ret
    exact ⟨ret_bool (by have h := HG.out; unfold grtF at h; rw [← h, if_neg k5, if_neg k4, if_pos k3]; simp only [Bool.and_assoc]), HB.out⟩
   ·have hb3 : (x.kind == 3) = false := by simpa using k3
    go_wp2_with fail
    go_ret
    exact ⟨ret_bool (by have h := HG.out; unfold grtF at h; rw [← h, if_neg k5, if_neg k4, if_neg k3]), HB.out⟩
end Go.Proofs.YthfefbmkgebmkaaGreatDoor
namespace Go.Proofs.YthfefbmkgebmkaaGreatDoor
open Go.RowKit
set_option maxRecDepth 100000
set_option maxHeartbeats 4000000

/-- The least. -/
def minF : List Int → Int
 | [] => 0
 | a :: l => l.foldl min a
theorem minF_take {l : List Int} {k : Nat} (h0 : 0 < k) (hk : k < l.length) : minF (l.take (k + 1)) = min (minF (l.take k)) l[k] := by
 match l, k, h0 with
 | a :: l, k + 1, _ =>
  have hk' : k < l.length := by simpa using hk
  show (l.take (k + 1)).foldl min a = min ((l.take k).foldl min a) l[k]
  rw [← List.take_append_getElem hk', List.foldl_append]
  rfl
theorem min_any (w : World) (ao : Option Addr) (n cap : Nat) (l : List Int) (hs : Sv w ao n cap 1 (inc l)) (hne : l ≠ []) :
  Calls Tryz.prog 60 #[.slice ao n cap] w fun e w' => e = .returned (.int .i64 (minF l)) ∧ Below w.heap.size w w' := by
 obtain ⟨h1, h2⟩ := hs.bound
 have hl := hs.int_len
 have hn : 0 < n := by have := List.length_pos_iff.2 hne; omega
 have hnI : ¬ (n : Int) < 1 := by omega
 have hnJ : (0 : Int) < n := by omega
 obtain ⟨a, rfl, a0⟩ := hs.intc 0 (by omega)
 have HA := Lib.hid hs; have HL := Lib.hid hl
 have HF : Hid (minF (l.take 1) = bt l 0) := by
  match l, hne with
  | x :: l, _ => rfl
 rw [show a.add 0 = a by unfold Addr.add; simp] at a0
 clear hs hl hne
 go_enter Tryz.func60, Tryz.ntmps60
 go_wp2_with fail
 go_loopw [3, 4] (fun m i wr => ∃ k : Nat, k ≤ n ∧ 0 < k ∧ i = .int .i64 k ∧ m = .int .i64 (minF (l.take k)) ∧ Hid (Below w.heap.size w wr)) (fun _ i _ => n - (intOf i).toNat)
 case atStart => exact ⟨1, hn, by omega, rfl, by rw [HF.out], Below.refl _ _⟩
 case round =>
  obtain ⟨k, hk, hk0, rfl, rfl, HBr⟩ := hrel
  by_cases hlt : k < n
  ·have hlt' : (k : Int) < n := by omega
   have hkl : k < l.length := by have := HL.out; omega
   obtain ⟨a', e', a1⟩ := (HA.out.below HBr.out).intc k hkl
   cases e'
   have HM := Lib.hid (minF_take hk0 hkl)
   rw [bt_get hkl] at HM
   generalize minF (l.take k) = m0 at *
   generalize bt l k = x at *
   clear hkl
   go_wp2_with fail
   go_roundw
   case rel => exact ⟨k + 1, by omega, by omega, by go_num, by rw [HM.out], HBr.out⟩
   case measure => simp [intOf]; omega
  ·have hge : ¬ (k : Int) < n := by omega
   have hkn : k = n := by omega
   go_wp2_with fail
   go_ret
   exact ⟨ret_int (by rw [List.take_of_length_le (by have := HL.out; omega)]), HBr.out⟩
end Go.Proofs.YthfefbmkgebmkaaGreatDoor
namespace Go.Proofs.YthfefbmkgebmkaaGreatDoor
open Go.RowKit

theorem kidsAt_app : ∀ (n : Nat) (a b : List Pt), kidsAt n (a ++ b) = kidsAt n a ++ kidsAt (n + szL a) b
 | n, [], b => by simp [kidsAt, szL]
 | n, p :: a, b => by
  show kidsAt n (p :: (a ++ b)) = _
  simp only [kidsAt, szL, List.cons_append]
  rw [kidsAt_app (n + p.sz) a b, Nat.add_assoc]
theorem flatL_app : ∀ (n : Nat) (a b : List Pt), flatL n (a ++ b) = flatL n a ++ flatL (n + szL a) b
 | n, [], b => by simp [flatL, szL]
 | n, p :: a, b => by
  show flatL n (p :: (a ++ b)) = _
  simp only [flatL, szL]
  rw [flatL_app (n + p.sz) a b, Nat.add_assoc, List.append_assoc]
theorem kidsAt_next {ks : List Pt} {n i : Nat} (h : i < ks.length) : kidsAt n (ks.take (i + 1)) = kidsAt n (ks.take i) ++ [n + szL (ks.take i)] := by
 rw [← List.take_append_getElem h, kidsAt_app]; rfl
theorem flatL_next {ks : List Pt} {n i : Nat} (h : i < ks.length) : flatL n (ks.take (i + 1)) = flatL n (ks.take i) ++ flat (n + szL (ks.take i)) ks[i] := by
 rw [← List.take_append_getElem h, flatL_app]
 simp [flatL]
/-- A node, a rule, as they are laid. -/
def Rn.nd (x : Rn) : Nd := ⟨x.kind, clsW x.cl 0, clsW x.cl 1, clsW x.cl 2, clsW x.cl 3, Go.Proofs.YthfefbmkgebmkaaGreatDoor.tx x.tx, 0, x.lv, x.kids.map fun (k : Nat) => (k : Int)⟩
def Rr.ru (r : Rr) : Ru := ⟨tx r.nm, r.body⟩
/-- A tree of what was read. -/
structure TrW (w : World) (gt : Nat) (τ : Nat → Nat) (R : List Rr) (N : List Rn) : Prop where
 ex : ∃ (v1 v2 v3 v4 v5 : Value) (NK : List Nk), hrow w gt #[v1, v2, v3, v4, v5] 30 ∧ TrR w τ v1 v2 v3 v4 v5 (R.map Rr.ru) NK NK (R.map fun r => (r.at_ : Int)) (N.map fun x => (x.at_ : Int)) (N.map fun x => tx x.nm) ∧ NK.map (·.1) = N.map Rn.nd
 tag : τ gt = 1
theorem TrW.below {w w' : World} {gt : Nat} {τ : Nat → Nat} {R : List Rr} {N : List Rn} (h : TrW w gt τ R N) (hb : Below w.heap.size w w') : TrW w' gt τ R N := by
 obtain ⟨⟨v1, v2, v3, v4, v5, NK, h1, h2, h3⟩, h4⟩ := h
 exact ⟨⟨v1, v2, v3, v4, v5, NK, h1.below hb, h2.below hb, h3⟩, h4⟩
/-- What touches none of the tree's blocks keeps it. -/
theorem TrW.fr {F : Nat → Prop} {w w' : World} {gt : Nat} {τ : Nat → Nat} {R : List Rr} {N : List Rn} (h : TrW w gt τ R N) (hf : Fr F w w') (hF : ∀ k, k < w.heap.size → τ k ≠ 0 → ¬ F k) : TrW w' gt τ R N := by
 obtain ⟨⟨v1, v2, v3, v4, v5, NK, h1, h2, h3⟩, h4⟩ := h
 exact ⟨⟨v1, v2, v3, v4, v5, NK, h1.fr hf (hF gt h1.lt (by omega)), h2.fr hf (fun k hk e => hF k hk (by omega)), h3⟩, h4⟩
/-- The five slices of a tree, as a grammar that lies in memory. -/
theorem TrW.gr {w : World} {gt : Nat} {τ : Nat → Nat} {R : List Rr} {N : List Rn} (h : TrW w gt τ R N) (hN : ∀ x ∈ N, x.tx.length ≤ 1000000) (hR : ∀ r ∈ R, r.nm.length ≤ 1000000) :
  ∃ (ro no ao bo co : Option Addr) (rc nc ac bc cc : Nat) (NK : List Nk), hrow w gt #[.slice ro R.length rc, .slice no N.length nc, .slice ao R.length ac, .slice bo N.length bc, .slice co N.length cc] 30 ∧
   GrW w ro R.length rc no N.length nc NK ⟨R.map Rr.ru, N.map Rn.nd⟩ ∧ Sv w ao R.length ac 1 (inc (R.map fun r => (r.at_ : Int))) ∧ Sv w bo N.length bc 1 (inc (N.map fun x => (x.at_ : Int))) ∧ Sv w co N.length cc 1 ((N.map fun x => tx x.nm).map Value.string) := by
 obtain ⟨⟨v1, v2, v3, v4, v5, NK, h1, h2, h3⟩, h4⟩ := h
 have hl : NK.length = N.length := by have := congrArg List.length h3; simpa using this
 obtain ⟨ro, rc, rfl, s1⟩ := h2.t2.sv
 obtain ⟨no, nc, rfl, s2⟩ := h2.t3.sv
 obtain ⟨ao, ac, rfl, s3⟩ := h2.t4.sv
 obtain ⟨bo, bc, rfl, s4⟩ := h2.t5.sv
 obtain ⟨co, cc, rfl, s5⟩ := h2.t6.sv
 simp only [List.length_map, hl] at h1 s1 s2 s3 s4 s5
 refine ⟨ro, no, ao, bo, co, rc, nc, ac, bc, cc, NK, h1, ⟨s1, fun r hr => ?_, ⟨s2, fun p hp => ?_, fun p hp => ?_⟩, h3⟩, s3, s4, s5⟩
 ·obtain ⟨r', hr', rfl⟩ := List.mem_map.1 hr
  have := hR r' hr'
  show (tx r'.nm).size ≤ _
  rw [tx_size]; omega
 ·obtain ⟨i, hi, rfl⟩ := List.mem_iff_getElem.1 hp
  obtain ⟨a, c, e, s⟩ := (h2.kid i hi).sv
  cases e
  exact s
 ·have hm : p.1 ∈ N.map Rn.nd := h3 ▸ List.mem_map_of_mem hp
  obtain ⟨x, hx, e⟩ := List.mem_map.1 hm
  have := hN x hx
  rw [← e]
  show (tx x.tx).size ≤ _
  rw [tx_size]; omega
end Go.Proofs.YthfefbmkgebmkaaGreatDoor
