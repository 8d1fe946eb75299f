/- Walks and plain laws: Tf Tg Th. -/
import Derived.Test.YtdnkffplkleolaaGreatM25
import Derived.Test.YtdnkffplkleolaaGreatM14
import Derived.Test.YtdnkffplkleolaaGreatM15
import Derived.BigQuiet
import Derived.IntWalk
namespace Go.Proofs.YtdnkffplkleolaaGreat
open Go.RowKit Go.ChangeMaps
set_option maxRecDepth 100000
set_option maxHeartbeats 2000000

theorem set4_cell0 {w : World} {g : Nat} {x0 x1 x2 x3 : Value} {a : Addr} {x : Value} (h : w.cell? a = some x) (hk : a.block ≠ g) : ((((w.setCell ⟨g, 0, none⟩ x0).setCell ⟨g, 1, none⟩ x1).setCell ⟨g, 2, none⟩ x2).setCell ⟨g, 3, none⟩ x3).cell? a = some x := by
 have e := (set4_fr w g x0 x1 x2 x3).block a.block (World.block_lt_of_cell? _ _ h) hk
 unfold set4 at e
 generalize (((w.setCell ⟨g, 0, none⟩ x0).setCell ⟨g, 1, none⟩ x1).setCell ⟨g, 2, none⟩ x2).setCell ⟨g, 3, none⟩ x3 = w' at e ⊢
 exact (World.cell?_of_block (a := a) e).trans h
theorem pthen_lt (w : World) (a b : Rs) (ao bo : Option Addr) (ac bc : Nat) (ha : Sv w ao a.tree.length ac 5 (a.tree.flatMap twc)) (hb : Sv w bo b.tree.length bc 5 (b.tree.flatMap twc)) (hla : a.tree.length ≤ 100000000) (hlb : b.tree.length ≤ 100000000) (hm : a.far < b.far) :
  Calls Tryz.prog 141 #[gtv a ao ac, gtv b bo bc] w fun e w' => ∃ go gc, e = .returned (gtv (beR a b) go gc) ∧ NewT w w' go gc (beR a b).tree := by
 obtain ⟨ai, ae, af, ta, ar⟩ := a
 obtain ⟨bi, be, bf, tb, br⟩ := b
 simp only [] at ha hb hla hlb hm
 simp only [gtv, gcs, beR]
 have HCo := Lib.hid (fun (w' : World) (g : Nat) (hw : Below w.heap.size w w') (hr : hrow w' g #[.slice ao ta.length ac, .slice bo tb.length bc] 32) => concat_any w' g ao bo ac bc ta tb hr (ha.below hw) (hb.below hw) hla hlb)
 have hmx : max af bf = bf := by omega
 have hif : (if af < bf then bf else af) = bf := by split <;> omega
 rw [hmx]
 clear hmx ha hb
 generalize (ta ++ tb).length = nab at *
 generalize ta.length = na at *
 generalize tb.length = nb at *
 have HX := Lib.hid (al3 w (.cells #[.bool ai, .int .i64 ae, .int .i64 af, .slice ao na ac] 124) (.cells #[.bool bi, .int .i64 be, .int .i64 bf, .slice bo nb bc] 124) (.cells #[.bool false, .int .i64 0, .int .i64 0, .slice none 0 0] 124))
 go_enter Tryz.func141, Tryz.ntmps141
 go_upto_region 1 with (fail)
 revert HX
 generalize ((w.alloc _).alloc _).alloc _ = wa
 generalize hg : w.heap.size = g
 intro HX
 obtain ⟨x1, x2, x3, x4⟩ := HX.out
 have HG := Lib.hid hg
 have HB := Lib.hid (show Below w.heap.size w wa from hg ▸ x1)
 have H1 := Lib.hid (show hrow wa g _ _ from x2)
 have H2 := Lib.hid (show hrow wa (g + 1) _ _ from x3)
 have H3 := Lib.hid (show hrow wa (g + 1 + 1) _ _ from x4)
 clear x1 x2 x3 x4 HX hg
 obtain ⟨a0, a1, a2, a3⟩ := (H1.out).c4
 obtain ⟨b0, b1, b2, b3⟩ := (H2.out).c4
 have HD := Lib.hid ((Below.refl wa.heap.size wa).drew)
 have HBe : Hid (Below w.heap.size w (wa.drew.alloc (.cells #[.slice ao na ac, .slice bo nb bc] 32))) := HB.out.trans ((HD.out.alloc HD.out.size _).mono HB.out.size)
 have HBl : Hid (Below wa.heap.size wa (wa.drew.alloc (.cells #[.slice ao na ac, .slice bo nb bc] 32))) := HD.out.alloc HD.out.size _
 have HCc := Lib.hid (HCo.out (wa.drew.alloc (.cells #[.slice ao na ac, .slice bo nb bc] 32)) wa.heap.size HBe.out (hrow.new wa.drew _ _))
 have H3e := Lib.hid (H3.out.below HBl.out)
 have HS : Hid (∀ w', Below wa.heap.size wa w' → w'.cell? ⟨g + 1, 1, none⟩ = some (.int .i64 be) ∧ w'.cell? ⟨g, 2, none⟩ = some (.int .i64 af) ∧ w'.cell? ⟨g + 1, 2, none⟩ = some (.int .i64 bf) ∧ w'.cell? ⟨g, 3, none⟩ = some (.slice ao na ac) ∧ w'.cell? ⟨g + 1, 3, none⟩ = some (.slice bo nb bc)) := fun w' hb => ⟨(H2.out.below hb).cell 1, (H1.out.below hb).cell 2, (H2.out.below hb).cell 2, (H1.out.below hb).cell 3, (H2.out.below hb).cell 3⟩
 have hn1 : g ≠ g + 1 + 1 := by omega
 have hn2 : g + 1 ≠ g + 1 + 1 := by omega
 go_region_held3 (fun w' => w'.cell? ⟨g + 1, 1, none⟩ = some (.int .i64 be) ∧ w'.cell? ⟨g, 2, none⟩ = some (.int .i64 af) ∧ w'.cell? ⟨g + 1, 2, none⟩ = some (.int .i64 bf) ∧ w'.cell? ⟨g, 3, none⟩ = some (.slice ao na ac) ∧ w'.cell? ⟨g + 1, 3, none⟩ = some (.slice bo nb bc))
  (first | (with_reducible exact ⟨set4_cell0 K1.out hn2, set4_cell0 K2.out hn1, set4_cell0 K3.out hn2, set4_cell0 K4.out hn1, set4_cell0 K5.out hn2⟩) | (with_reducible exact ⟨K1.out, K2.out, K3.out, K4.out, K5.out⟩) | (with_reducible exact HS.out _ HBl.out) | go_keep)
  ((go_at_call 147; refine (HCc.out).mono ?_; rintro e w6 ⟨go, gc, rfl, hn⟩; have HN := Lib.hid hn; have HR6 := Lib.hid (H3e.out.below hn.1); have HB6 : Hid (Below w.heap.size w w6) := HBe.out.trans (hn.1.mono HBe.out.size); have HS6 : Hid (w.heap.size ≤ (wa.drew.alloc (.cells #[.slice ao na ac, .slice bo nb bc] 32)).heap.size) := HBe.out.size; have hk := HS.out w6 (HBl.out.trans (hn.1.mono HBl.out.size)); have K1 := Lib.hid hk.1; have K2 := Lib.hid hk.2.1; have K3 := Lib.hid hk.2.2.1; have K4 := Lib.hid hk.2.2.2.1; have K5 := Lib.hid hk.2.2.2.2; clear hn hk; obtain ⟨zq0, zq1, zq2, zq3⟩ := (HR6.out).c4; obtain ⟨zf0, zf1, zf2⟩ := (HR6.out).f3; have zf3 := (HR6.out).frozen 3))
 all_goals
  have zr4 := set4_row (.bool true) (.int .i64 be) (.int .i64 bf) (.slice go nab gc) (HR6.out)
  have zf4 := set4_fr w6 (g + 1 + 1) (.bool true) (.int .i64 be) (.int .i64 bf) (.slice go nab gc)
  unfold set4 at zr4 zf4
  have ZR4 := Lib.hid zr4
  have ZF4 := Lib.hid zf4
  clear zr4 zf4
  revert ZR4 ZF4
  generalize (((w6.setCell _ _).setCell _ _).setCell _ _).setCell _ _ = wz
  intro ZR4 ZF4
  obtain ⟨zc0, zc1, zc2, zc3⟩ := (ZR4.out).c4
  go_wp2_with fail
  exact bodyPost_ret (v := .agg #[.bool true, .int .i64 be, .int .i64 bf, .slice go nab gc]) (by simp [results, Tryz.results141, go_sem, zc0, zc1, zc2, zc3]) rfl (⟨go, gc, rfl, by
   have hlt := HR6.out.lt
   refine ⟨below_box HB6.out ZF4.out (by have := HG.out; omega) (Nat.le_refl _), HN.out.2.1.fr ZF4.out (fun x hx _ e => ?_), fun x hx => ?_⟩
   ·obtain ⟨_, cs, hr⟩ := HN.out.2.2 x hx
    have e' : x.block = g + 1 + 1 := e
    rw [e'] at hr
    exact row_ne hr HR6.out (by decide) rfl
   ·obtain ⟨h1, cs, hr⟩ := HN.out.2.2 x hx
    refine ⟨by have := HG.out; have := HS6.out; omega, cs, hr.fr ZF4.out (fun e => ?_)⟩
    have e' : x.block = g + 1 + 1 := e
    rw [e'] at hr
    exact row_ne hr HR6.out (by decide) rfl⟩)
theorem pthen_ge (w : World) (a b : Rs) (ao bo : Option Addr) (ac bc : Nat) (ha : Sv w ao a.tree.length ac 5 (a.tree.flatMap twc)) (hb : Sv w bo b.tree.length bc 5 (b.tree.flatMap twc)) (hla : a.tree.length ≤ 100000000) (hlb : b.tree.length ≤ 100000000) (hm : b.far ≤ a.far) :
  Calls Tryz.prog 141 #[gtv a ao ac, gtv b bo bc] w fun e w' => ∃ go gc, e = .returned (gtv (beR a b) go gc) ∧ NewT w w' go gc (beR a b).tree := by
 obtain ⟨ai, ae, af, ta, ar⟩ := a
 obtain ⟨bi, be, bf, tb, br⟩ := b
 simp only [] at ha hb hla hlb hm
 simp only [gtv, gcs, beR]
 have HCo := Lib.hid (fun (w' : World) (g : Nat) (hw : Below w.heap.size w w') (hr : hrow w' g #[.slice ao ta.length ac, .slice bo tb.length bc] 32) => concat_any w' g ao bo ac bc ta tb hr (ha.below hw) (hb.below hw) hla hlb)
 have hmx : max af bf = af := by omega
 have hif : (if af < bf then bf else af) = af := by split <;> omega
 rw [hmx]
 clear hmx ha hb
 generalize (ta ++ tb).length = nab at *
 generalize ta.length = na at *
 generalize tb.length = nb at *
 have HX := Lib.hid (al3 w (.cells #[.bool ai, .int .i64 ae, .int .i64 af, .slice ao na ac] 124) (.cells #[.bool bi, .int .i64 be, .int .i64 bf, .slice bo nb bc] 124) (.cells #[.bool false, .int .i64 0, .int .i64 0, .slice none 0 0] 124))
 go_enter Tryz.func141, Tryz.ntmps141
 go_upto_region 1 with (fail)
 revert HX
 generalize ((w.alloc _).alloc _).alloc _ = wa
 generalize hg : w.heap.size = g
 intro HX
 obtain ⟨x1, x2, x3, x4⟩ := HX.out
 have HG := Lib.hid hg
 have HB := Lib.hid (show Below w.heap.size w wa from hg ▸ x1)
 have H1 := Lib.hid (show hrow wa g _ _ from x2)
 have H2 := Lib.hid (show hrow wa (g + 1) _ _ from x3)
 have H3 := Lib.hid (show hrow wa (g + 1 + 1) _ _ from x4)
 clear x1 x2 x3 x4 HX hg
 obtain ⟨a0, a1, a2, a3⟩ := (H1.out).c4
 obtain ⟨b0, b1, b2, b3⟩ := (H2.out).c4
 have HD := Lib.hid ((Below.refl wa.heap.size wa).drew)
 have HBe : Hid (Below w.heap.size w (wa.drew.alloc (.cells #[.slice ao na ac, .slice bo nb bc] 32))) := HB.out.trans ((HD.out.alloc HD.out.size _).mono HB.out.size)
 have HBl : Hid (Below wa.heap.size wa (wa.drew.alloc (.cells #[.slice ao na ac, .slice bo nb bc] 32))) := HD.out.alloc HD.out.size _
 have HCc := Lib.hid (HCo.out (wa.drew.alloc (.cells #[.slice ao na ac, .slice bo nb bc] 32)) wa.heap.size HBe.out (hrow.new wa.drew _ _))
 have H3e := Lib.hid (H3.out.below HBl.out)
 have HS : Hid (∀ w', Below wa.heap.size wa w' → w'.cell? ⟨g + 1, 1, none⟩ = some (.int .i64 be) ∧ w'.cell? ⟨g, 2, none⟩ = some (.int .i64 af) ∧ w'.cell? ⟨g + 1, 2, none⟩ = some (.int .i64 bf) ∧ w'.cell? ⟨g, 3, none⟩ = some (.slice ao na ac) ∧ w'.cell? ⟨g + 1, 3, none⟩ = some (.slice bo nb bc)) := fun w' hb => ⟨(H2.out.below hb).cell 1, (H1.out.below hb).cell 2, (H2.out.below hb).cell 2, (H1.out.below hb).cell 3, (H2.out.below hb).cell 3⟩
 have hn1 : g ≠ g + 1 + 1 := by omega
 have hn2 : g + 1 ≠ g + 1 + 1 := by omega
 go_region_held3 (fun w' => w'.cell? ⟨g + 1, 1, none⟩ = some (.int .i64 be) ∧ w'.cell? ⟨g, 2, none⟩ = some (.int .i64 af) ∧ w'.cell? ⟨g + 1, 2, none⟩ = some (.int .i64 bf) ∧ w'.cell? ⟨g, 3, none⟩ = some (.slice ao na ac) ∧ w'.cell? ⟨g + 1, 3, none⟩ = some (.slice bo nb bc))
  (first | (with_reducible exact ⟨set4_cell0 K1.out hn2, set4_cell0 K2.out hn1, set4_cell0 K3.out hn2, set4_cell0 K4.out hn1, set4_cell0 K5.out hn2⟩) | (with_reducible exact ⟨K1.out, K2.out, K3.out, K4.out, K5.out⟩) | (with_reducible exact HS.out _ HBl.out) | go_keep)
  ((go_at_call 147; refine (HCc.out).mono ?_; rintro e w6 ⟨go, gc, rfl, hn⟩; have HN := Lib.hid hn; have HR6 := Lib.hid (H3e.out.below hn.1); have HB6 : Hid (Below w.heap.size w w6) := HBe.out.trans (hn.1.mono HBe.out.size); have HS6 : Hid (w.heap.size ≤ (wa.drew.alloc (.cells #[.slice ao na ac, .slice bo nb bc] 32)).heap.size) := HBe.out.size; have hk := HS.out w6 (HBl.out.trans (hn.1.mono HBl.out.size)); have K1 := Lib.hid hk.1; have K2 := Lib.hid hk.2.1; have K3 := Lib.hid hk.2.2.1; have K4 := Lib.hid hk.2.2.2.1; have K5 := Lib.hid hk.2.2.2.2; clear hn hk; obtain ⟨zq0, zq1, zq2, zq3⟩ := (HR6.out).c4; obtain ⟨zf0, zf1, zf2⟩ := (HR6.out).f3; have zf3 := (HR6.out).frozen 3))
 all_goals
  have zr4 := set4_row (.bool true) (.int .i64 be) (.int .i64 af) (.slice go nab gc) (HR6.out)
  have zf4 := set4_fr w6 (g + 1 + 1) (.bool true) (.int .i64 be) (.int .i64 af) (.slice go nab gc)
  unfold set4 at zr4 zf4
  have ZR4 := Lib.hid zr4
  have ZF4 := Lib.hid zf4
  clear zr4 zf4
  revert ZR4 ZF4
  generalize (((w6.setCell _ _).setCell _ _).setCell _ _).setCell _ _ = wz
  intro ZR4 ZF4
  obtain ⟨zc0, zc1, zc2, zc3⟩ := (ZR4.out).c4
  go_wp2_with fail
  exact bodyPost_ret (v := .agg #[.bool true, .int .i64 be, .int .i64 af, .slice go nab gc]) (by simp [results, Tryz.results141, go_sem, zc0, zc1, zc2, zc3]) rfl (⟨go, gc, rfl, by
   have hlt := HR6.out.lt
   refine ⟨below_box HB6.out ZF4.out (by have := HG.out; omega) (Nat.le_refl _), HN.out.2.1.fr ZF4.out (fun x hx _ e => ?_), fun x hx => ?_⟩
   ·obtain ⟨_, cs, hr⟩ := HN.out.2.2 x hx
    have e' : x.block = g + 1 + 1 := e
    rw [e'] at hr
    exact row_ne hr HR6.out (by decide) rfl
   ·obtain ⟨h1, cs, hr⟩ := HN.out.2.2 x hx
    refine ⟨by have := HG.out; have := HS6.out; omega, cs, hr.fr ZF4.out (fun e => ?_)⟩
    have e' : x.block = g + 1 + 1 := e
    rw [e'] at hr
    exact row_ne hr HR6.out (by decide) rfl⟩)
theorem pthen_any (w : World) (a b : Rs) (ao bo : Option Addr) (ac bc : Nat) (ha : Sv w ao a.tree.length ac 5 (a.tree.flatMap twc)) (hb : Sv w bo b.tree.length bc 5 (b.tree.flatMap twc)) (hla : a.tree.length ≤ 100000000) (hlb : b.tree.length ≤ 100000000) :
  Calls Tryz.prog 141 #[gtv a ao ac, gtv b bo bc] w fun e w' => ∃ go gc, e = .returned (gtv (beR a b) go gc) ∧ NewT w w' go gc (beR a b).tree := by
 by_cases hm : a.far < b.far
 ·exact pthen_lt w a b ao bo ac bc ha hb hla hlb hm
 ·exact pthen_ge w a b ao bo ac bc ha hb hla hlb (by omega)
end Go.Proofs.YtdnkffplkleolaaGreat
namespace Go.Proofs.YtdnkffplkleolaaGreat
open Go.RowKit Go.ChangeMaps
set_option maxRecDepth 100000
set_option maxHeartbeats 2000000

theorem pbyte1 (K : Env) (hK : EnvOk K) (m : Nat) (w : World) (s : St) (es : Array MapEntry) (clock : Nat) (KS : List (Ce × (Option Addr × Nat))) (p : Nat) (x : Nd) (ko : Option Addr) (kc : Nat)
  (h : TW K m w s es clock KS) (hp : p ≤ K.W.length) :
  Calls Tryz.prog 125 #[.pointer (some ⟨K.g, 0, none⟩), .agg #[.int .i64 1, .int .u64 x.c0, .int .u64 x.c1, .int .u64 x.c2, .int .u64 x.c3, .string x.text, .int .i64 x.rule, .int .i64 x.lev, .slice ko x.kids.length kc], .int .i64 p] w (fun e w' => e = .returned (gtv (toR p) none 0) ∧ Below w.heap.size w w') := by
 have H := Lib.hid h
 have HP := Lib.hid hp
 have hpb : p ≤ 2048 := by have := hK.w2; have := hK.wl; omega
 have hwl := hK.wl
 have hwb := hK.inp.bound
 have hww := hK.w2
 obtain ⟨HB0, HX0, HZ0⟩ := box2 w #[.int .i64 1, .int .u64 x.c0, .int .u64 x.c1, .int .u64 x.c2, .int .u64 x.c3, .string x.text, .int .i64 x.rule, .int .i64 x.lev, .slice ko x.kids.length kc] #[.bool false, .int .i64 0, .int .i64 0, .slice none 0 0] 55 124
 have H1 := Lib.hid (h.below HB0.out)
 have HLo : Hid (K.base.heap.size ≤ w.heap.size) := h.low.size
 clear h hp
 go_enter Tryz.func125, Tryz.ntmps125
 go_upto_region 1 with (fail)
 revert HB0 HX0 HZ0 H1
 generalize (w.alloc _).alloc _ = w1
 generalize hh0 : w.heap.size + 1 = h0
 generalize hhx : w.heap.size = hx
 intro HB0 HX0 HZ0 H1
 have HH0 : Hid (w.heap.size = hx ∧ hx + 1 = h0) := ⟨hhx, by omega⟩
 have HB1 : Hid (Below w.heap.size w w1) := by rw [hhx]; exact HB0.out
 clear HB0 hh0 hhx
 obtain ⟨x0, x1, x2, x3, x4, x5, x6, x7, x8⟩ := (HX0.out).c9
 go_wp2_with fail
 refine (pto_any w1 p).mono ?_
 rintro e w6 ⟨rfl, hb6⟩
 simp only [gtv, gcs, toR, List.length_nil]
 have HZ6 := Lib.hid (HZ0.out.below hb6)
 have HB6 := Lib.hid (HB1.out.trans (hb6.mono HB1.out.size))
 clear hb6
 obtain ⟨zq0, zq1, zq2, zq3⟩ := (HZ6.out).c4
 obtain ⟨zf0, zf1, zf2, zf3⟩ := (HZ6.out).f4
 obtain ⟨ZR4, ZF4⟩ := set4_box (.bool true) (.int .i64 p) (.int .i64 (-1)) (.slice none 0 0) (HZ6.out)
 go_wp2_with fail
 revert ZR4 ZF4
 generalize (((w6.setCell _ _).setCell _ _).setCell _ _).setCell _ _ = wz
 intro ZR4 ZF4
 obtain ⟨zc0, zc1, zc2, zc3⟩ := (ZR4.out).c4
 exact bodyPost_ret (v := .agg #[.bool true, .int .i64 p, .int .i64 (-1), .slice none 0 0]) (by simp [results, Tryz.results125, go_sem, zc0, zc1, zc2, zc3]) rfl (⟨rfl, below_box HB6.out ZF4.out (by have := HH0.out; omega) (Nat.le_refl _)⟩)
theorem pbyte2y (K : Env) (hK : EnvOk K) (m : Nat) (w : World) (s : St) (es : Array MapEntry) (clock : Nat) (KS : List (Ce × (Option Addr × Nat))) (p : Nat) (x : Nd) (ko : Option Addr) (kc : Nat)
  (h : TW K m w s es clock KS) (hp : p ≤ K.W.length) (hpl : p < K.W.length) :
  Calls Tryz.prog 125 #[.pointer (some ⟨K.g, 0, none⟩), .agg #[.int .i64 2, .int .u64 x.c0, .int .u64 x.c1, .int .u64 x.c2, .int .u64 x.c3, .string x.text, .int .i64 x.rule, .int .i64 x.lev, .slice ko x.kids.length kc], .int .i64 p] w (fun e w' => e = .returned (gtv (toR (p + 1)) none 0) ∧ Below w.heap.size w w') := by
 have H := Lib.hid h
 have HP := Lib.hid hp
 have hpb : p ≤ 2048 := by have := hK.w2; have := hK.wl; omega
 have hwl := hK.wl
 have hwb := hK.inp.bound
 have hww := hK.w2
 obtain ⟨HB0, HX0, HZ0⟩ := box2 w #[.int .i64 2, .int .u64 x.c0, .int .u64 x.c1, .int .u64 x.c2, .int .u64 x.c3, .string x.text, .int .i64 x.rule, .int .i64 x.lev, .slice ko x.kids.length kc] #[.bool false, .int .i64 0, .int .i64 0, .slice none 0 0] 55 124
 have H1 := Lib.hid (h.below HB0.out)
 have HLo : Hid (K.base.heap.size ≤ w.heap.size) := h.low.size
 clear h hp
 go_enter Tryz.func125, Tryz.ntmps125
 go_upto_region 1 with (fail)
 revert HB0 HX0 HZ0 H1
 generalize (w.alloc _).alloc _ = w1
 generalize hh0 : w.heap.size + 1 = h0
 generalize hhx : w.heap.size = hx
 intro HB0 HX0 HZ0 H1
 have HH0 : Hid (w.heap.size = hx ∧ hx + 1 = h0) := ⟨hhx, by omega⟩
 have HB1 : Hid (Below w.heap.size w w1) := by rw [hhx]; exact HB0.out
 clear HB0 hh0 hhx
 obtain ⟨x0, x1, x2, x3, x4, x5, x6, x7, x8⟩ := (HX0.out).c9
 have p4 : w1.cell? ⟨K.g, 4, none⟩ = some (.slice K.wo K.wn K.wc) := H1.out.obj.cell 4
 have hwn : (p : Int) < K.wn := by omega
 have hp0 : (0 : Int) ≤ p := by omega
 go_upto_region 3 with (fail)
 go_quiet (fail)
 have HD := below_drewN (Below.refl w1.heap.size w1) nq
 have HB5 := Lib.hid (HB1.out.trans (HD.mono HB1.out.size))
 have HZ5 := Lib.hid (HZ0.out.below HD)
 clear HD x0 x1 x2 x3 x4 x5 x6 x7 x8 p4 H1 HX0 HZ0 HB1
 revert HB5 HZ5
 generalize w1.drewN nq = w5
 intro HB5 HZ5
 go_wp2_with fail
 refine (pto_any w5 (p + 1)).mono ?_
 rintro e w6 ⟨rfl, hb6⟩
 simp only [gtv, gcs, toR, List.length_nil]
 have HZ6 := Lib.hid (HZ5.out.below hb6)
 have HB6 := Lib.hid (HB5.out.trans (hb6.mono HB5.out.size))
 clear hb6
 obtain ⟨zq0, zq1, zq2, zq3⟩ := (HZ6.out).c4
 obtain ⟨zf0, zf1, zf2, zf3⟩ := (HZ6.out).f4
 obtain ⟨ZR4, ZF4⟩ := set4_box (.bool true) (.int .i64 (p + 1)) (.int .i64 (-1)) (.slice none 0 0) (HZ6.out)
 go_wp2_with fail
 revert ZR4 ZF4
 generalize (((w6.setCell _ _).setCell _ _).setCell _ _).setCell _ _ = wz
 intro ZR4 ZF4
 obtain ⟨zc0, zc1, zc2, zc3⟩ := (ZR4.out).c4
 exact bodyPost_ret (v := .agg #[.bool true, .int .i64 (p + 1), .int .i64 (-1), .slice none 0 0]) (by simp [results, Tryz.results125, go_sem, zc0, zc1, zc2, zc3]) rfl (⟨rfl, below_box HB6.out ZF4.out (by have := HH0.out; omega) (Nat.le_refl _)⟩)
theorem pbyte2n (K : Env) (hK : EnvOk K) (m : Nat) (w : World) (s : St) (es : Array MapEntry) (clock : Nat) (KS : List (Ce × (Option Addr × Nat))) (p : Nat) (x : Nd) (ko : Option Addr) (kc : Nat)
  (h : TW K m w s es clock KS) (hp : p ≤ K.W.length) (hpl : K.W.length ≤ p) :
  Calls Tryz.prog 125 #[.pointer (some ⟨K.g, 0, none⟩), .agg #[.int .i64 2, .int .u64 x.c0, .int .u64 x.c1, .int .u64 x.c2, .int .u64 x.c3, .string x.text, .int .i64 x.rule, .int .i64 x.lev, .slice ko x.kids.length kc], .int .i64 p] w (fun e w' => e = .returned (gtv (failR p) none 0) ∧ Below w.heap.size w w') := by
 have H := Lib.hid h
 have HP := Lib.hid hp
 have hpb : p ≤ 2048 := by have := hK.w2; have := hK.wl; omega
 have hwl := hK.wl
 have hwb := hK.inp.bound
 have hww := hK.w2
 obtain ⟨HB0, HX0, HZ0⟩ := box2 w #[.int .i64 2, .int .u64 x.c0, .int .u64 x.c1, .int .u64 x.c2, .int .u64 x.c3, .string x.text, .int .i64 x.rule, .int .i64 x.lev, .slice ko x.kids.length kc] #[.bool false, .int .i64 0, .int .i64 0, .slice none 0 0] 55 124
 have H1 := Lib.hid (h.below HB0.out)
 have HLo : Hid (K.base.heap.size ≤ w.heap.size) := h.low.size
 clear h hp
 go_enter Tryz.func125, Tryz.ntmps125
 go_upto_region 1 with (fail)
 revert HB0 HX0 HZ0 H1
 generalize (w.alloc _).alloc _ = w1
 generalize hh0 : w.heap.size + 1 = h0
 generalize hhx : w.heap.size = hx
 intro HB0 HX0 HZ0 H1
 have HH0 : Hid (w.heap.size = hx ∧ hx + 1 = h0) := ⟨hhx, by omega⟩
 have HB1 : Hid (Below w.heap.size w w1) := by rw [hhx]; exact HB0.out
 clear HB0 hh0 hhx
 obtain ⟨x0, x1, x2, x3, x4, x5, x6, x7, x8⟩ := (HX0.out).c9
 have p4 : w1.cell? ⟨K.g, 4, none⟩ = some (.slice K.wo K.wn K.wc) := H1.out.obj.cell 4
 have hwn : (K.wn : Int) ≤ p := by omega
 have hwd : decide ((p : Int) < (K.wn : Int)) = false := by simp; omega
 have hwd2 : decide (p < K.wn) = false := by simp; omega
 go_upto_region 3 with (fail)
 go_quiet (fail)
 have HD := below_drewN (Below.refl w1.heap.size w1) nq
 have HB5 := Lib.hid (HB1.out.trans (HD.mono HB1.out.size))
 have HZ5 := Lib.hid (HZ0.out.below HD)
 clear HD x0 x1 x2 x3 x4 x5 x6 x7 x8 p4 H1 HX0 HZ0 HB1
 revert HB5 HZ5
 generalize w1.drewN nq = w5
 intro HB5 HZ5
 go_wp2_with fail
 refine (pmiss_any w5 p).mono ?_
 rintro e w6 ⟨rfl, hb6⟩
 simp only [gtv, gcs, failR, List.length_nil]
 have HZ6 := Lib.hid (HZ5.out.below hb6)
 have HB6 := Lib.hid (HB5.out.trans (hb6.mono HB5.out.size))
 clear hb6
 obtain ⟨zq0, zq1, zq2, zq3⟩ := (HZ6.out).c4
 obtain ⟨zf0, zf1, zf2, zf3⟩ := (HZ6.out).f4
 obtain ⟨ZR4, ZF4⟩ := set4_box (.bool false) (.int .i64 0) (.int .i64 p) (.slice none 0 0) (HZ6.out)
 go_wp2_with fail
 revert ZR4 ZF4
 generalize (((w6.setCell _ _).setCell _ _).setCell _ _).setCell _ _ = wz
 intro ZR4 ZF4
 obtain ⟨zc0, zc1, zc2, zc3⟩ := (ZR4.out).c4
 exact bodyPost_ret (v := .agg #[.bool false, .int .i64 0, .int .i64 p, .slice none 0 0]) (by simp [results, Tryz.results125, go_sem, zc0, zc1, zc2, zc3]) rfl (⟨rfl, below_box HB6.out ZF4.out (by have := HH0.out; omega) (Nat.le_refl _)⟩)
theorem pbyte3e (K : Env) (hK : EnvOk K) (m : Nat) (w : World) (s : St) (es : Array MapEntry) (clock : Nat) (KS : List (Ce × (Option Addr × Nat))) (p : Nat) (x : Nd) (ko : Option Addr) (kc : Nat)
  (h : TW K m w s es clock KS) (hp : p ≤ K.W.length) (hpl : K.W.length ≤ p) :
  Calls Tryz.prog 125 #[.pointer (some ⟨K.g, 0, none⟩), .agg #[.int .i64 3, .int .u64 x.c0, .int .u64 x.c1, .int .u64 x.c2, .int .u64 x.c3, .string x.text, .int .i64 x.rule, .int .i64 x.lev, .slice ko x.kids.length kc], .int .i64 p] w (fun e w' => e = .returned (gtv (failR p) none 0) ∧ Below w.heap.size w w') := by
 have H := Lib.hid h
 have HP := Lib.hid hp
 have hpb : p ≤ 2048 := by have := hK.w2; have := hK.wl; omega
 have hwl := hK.wl
 have hwb := hK.inp.bound
 have hww := hK.w2
 obtain ⟨HB0, HX0, HZ0⟩ := box2 w #[.int .i64 3, .int .u64 x.c0, .int .u64 x.c1, .int .u64 x.c2, .int .u64 x.c3, .string x.text, .int .i64 x.rule, .int .i64 x.lev, .slice ko x.kids.length kc] #[.bool false, .int .i64 0, .int .i64 0, .slice none 0 0] 55 124
 have H1 := Lib.hid (h.below HB0.out)
 have HLo : Hid (K.base.heap.size ≤ w.heap.size) := h.low.size
 clear h hp
 go_enter Tryz.func125, Tryz.ntmps125
 go_upto_region 1 with (fail)
 revert HB0 HX0 HZ0 H1
 generalize (w.alloc _).alloc _ = w1
 generalize hh0 : w.heap.size + 1 = h0
 generalize hhx : w.heap.size = hx
 intro HB0 HX0 HZ0 H1
 have HH0 : Hid (w.heap.size = hx ∧ hx + 1 = h0) := ⟨hhx, by omega⟩
 have HB1 : Hid (Below w.heap.size w w1) := by rw [hhx]; exact HB0.out
 clear HB0 hh0 hhx
 obtain ⟨x0, x1, x2, x3, x4, x5, x6, x7, x8⟩ := (HX0.out).c9
 have p4 : w1.cell? ⟨K.g, 4, none⟩ = some (.slice K.wo K.wn K.wc) := H1.out.obj.cell 4
 have hwn : (K.wn : Int) ≤ p := by omega
 have hwd : decide ((p : Int) < (K.wn : Int)) = false := by simp; omega
 have hwd2 : decide (p < K.wn) = false := by simp; omega
 go_upto_region 3 with (fail)
 go_quiet (fail)
 have HD := below_drewN (Below.refl w1.heap.size w1) nq
 have HB5 := Lib.hid (HB1.out.trans (HD.mono HB1.out.size))
 have HZ5 := Lib.hid (HZ0.out.below HD)
 clear HD x0 x1 x2 x3 x4 x5 x6 x7 x8 p4 H1 HX0 HZ0 HB1
 revert HB5 HZ5
 generalize w1.drewN nq = w5
 intro HB5 HZ5
 go_wp2_with fail
 refine (pmiss_any w5 p).mono ?_
 rintro e w6 ⟨rfl, hb6⟩
 simp only [gtv, gcs, failR, List.length_nil]
 have HZ6 := Lib.hid (HZ5.out.below hb6)
 have HB6 := Lib.hid (HB5.out.trans (hb6.mono HB5.out.size))
 clear hb6
 obtain ⟨zq0, zq1, zq2, zq3⟩ := (HZ6.out).c4
 obtain ⟨zf0, zf1, zf2, zf3⟩ := (HZ6.out).f4
 obtain ⟨ZR4, ZF4⟩ := set4_box (.bool false) (.int .i64 0) (.int .i64 p) (.slice none 0 0) (HZ6.out)
 go_wp2_with fail
 revert ZR4 ZF4
 generalize (((w6.setCell _ _).setCell _ _).setCell _ _).setCell _ _ = wz
 intro ZR4 ZF4
 obtain ⟨zc0, zc1, zc2, zc3⟩ := (ZR4.out).c4
 exact bodyPost_ret (v := .agg #[.bool false, .int .i64 0, .int .i64 p, .slice none 0 0]) (by simp [results, Tryz.results125, go_sem, zc0, zc1, zc2, zc3]) rfl (⟨rfl, below_box HB6.out ZF4.out (by have := HH0.out; omega) (Nat.le_refl _)⟩)
theorem pbyte3y (K : Env) (hK : EnvOk K) (m : Nat) (w : World) (s : St) (es : Array MapEntry) (clock : Nat) (KS : List (Ce × (Option Addr × Nat))) (p : Nat) (x : Nd) (ko : Option Addr) (kc : Nat)
  (h : TW K m w s es clock KS) (hp : p ≤ K.W.length) (b : Nat) (hwp : K.W[p]? = some b) (hbi : inW (wo x) b = true) (hcx : ∀ i, 0 ≤ clsAt x i ∧ clsAt x i < 2 ^ 64) :
  Calls Tryz.prog 125 #[.pointer (some ⟨K.g, 0, none⟩), .agg #[.int .i64 3, .int .u64 x.c0, .int .u64 x.c1, .int .u64 x.c2, .int .u64 x.c3, .string x.text, .int .i64 x.rule, .int .i64 x.lev, .slice ko x.kids.length kc], .int .i64 p] w (fun e w' => e = .returned (gtv (toR (p + 1)) none 0) ∧ Below w.heap.size w w') := by
 have H := Lib.hid h
 have HP := Lib.hid hp
 have hpb : p ≤ 2048 := by have := hK.w2; have := hK.wl; omega
 have hwl := hK.wl
 have hwb := hK.inp.bound
 have hww := hK.w2
 obtain ⟨HB0, HX0, HZ0⟩ := box2 w #[.int .i64 3, .int .u64 x.c0, .int .u64 x.c1, .int .u64 x.c2, .int .u64 x.c3, .string x.text, .int .i64 x.rule, .int .i64 x.lev, .slice ko x.kids.length kc] #[.bool false, .int .i64 0, .int .i64 0, .slice none 0 0] 55 124
 have H1 := Lib.hid (h.below HB0.out)
 have HLo : Hid (K.base.heap.size ≤ w.heap.size) := h.low.size
 clear h hp
 go_enter Tryz.func125, Tryz.ntmps125
 go_upto_region 1 with (fail)
 revert HB0 HX0 HZ0 H1
 generalize (w.alloc _).alloc _ = w1
 generalize hh0 : w.heap.size + 1 = h0
 generalize hhx : w.heap.size = hx
 intro HB0 HX0 HZ0 H1
 have HH0 : Hid (w.heap.size = hx ∧ hx + 1 = h0) := ⟨hhx, by omega⟩
 have HB1 : Hid (Below w.heap.size w w1) := by rw [hhx]; exact HB0.out
 clear HB0 hh0 hhx
 obtain ⟨x0, x1, x2, x3, x4, x5, x6, x7, x8⟩ := (HX0.out).c9
 have hpl := (List.getElem?_eq_some_iff.1 hwp).1
 have p4 : w1.cell? ⟨K.g, 4, none⟩ = some (.slice K.wo K.wn K.wc) := H1.out.obj.cell 4
 have hwn : (p : Int) < K.wn := by omega
 have hp0 : (0 : Int) ≤ p := by omega
 obtain ⟨wa, hwa, hwc⟩ := hK.inp.cell p (by simp [bys]; omega)
 have hwc' : K.base.cell? (wa.add p) = some (.int .u8 b) := by rw [hwc]; simp [bys, hwp]
 have p7 : w1.cell? (wa.add p) = some (.int .u8 b) := (H1.out.low.cell (World.block_lt_of_cell? _ _ hwc')).trans hwc'
 rw [hwa] at p4
 have HBy : Hid (b < 256) := hK.byt b (List.mem_of_getElem? hwp)
 have HWo := Lib.hid (wo_words hcx)
 have hcw := cw_wo hcx
 have HHas : Hid (∀ w', Calls Tryz.prog 142 #[.agg #[.int .u64 x.c0, .int .u64 x.c1, .int .u64 x.c2, .int .u64 x.c3], .int .u8 b] w' fun r w'' => r = .returned (.bool true) ∧ Below w'.heap.size w' w'') := fun w' => by rw [hcw, ← hbi]; exact hasF_any w' (wo x) HWo.out b HBy.out
 clear hwc hwc' hwa hcw hwp hbi hcx
 go_upto_region 3 with (fail)
 go_still_tail 21, (by kernel_rfl)
 change wpList _ _ _ _ _ w1.drew
 have HD := (Below.refl w1.heap.size w1).drew
 have HB4 := Lib.hid (HB1.out.trans (HD.mono HB1.out.size))
 have HZ4 := Lib.hid (HZ0.out.below HD)
 clear HD x0 x1 x2 x3 x4 x5 x6 x7 x8 p4 p7 H1 HX0 HZ0 HB1
 revert HB4 HZ4
 generalize w1.drew = w4
 intro HB4 HZ4
 go_wp2_with fail
 refine (HHas.out _).mono ?_
 rintro e w5 ⟨rfl, hb5⟩
 have HB5 := Lib.hid (HB4.out.trans (hb5.mono HB4.out.size))
 have HZ5 := Lib.hid (HZ4.out.below hb5)
 clear hb5 HB4 HZ4 HHas
 go_wp2_with fail
 refine (pto_any w5 (p + 1)).mono ?_
 rintro e w6 ⟨rfl, hb6⟩
 simp only [gtv, gcs, toR, List.length_nil]
 have HZ6 := Lib.hid (HZ5.out.below hb6)
 have HB6 := Lib.hid (HB5.out.trans (hb6.mono HB5.out.size))
 clear hb6
 obtain ⟨zq0, zq1, zq2, zq3⟩ := (HZ6.out).c4
 obtain ⟨zf0, zf1, zf2, zf3⟩ := (HZ6.out).f4
 obtain ⟨ZR4, ZF4⟩ := set4_box (.bool true) (.int .i64 (p + 1)) (.int .i64 (-1)) (.slice none 0 0) (HZ6.out)
 go_wp2_with fail
 revert ZR4 ZF4
 generalize (((w6.setCell _ _).setCell _ _).setCell _ _).setCell _ _ = wz
 intro ZR4 ZF4
 obtain ⟨zc0, zc1, zc2, zc3⟩ := (ZR4.out).c4
 exact bodyPost_ret (v := .agg #[.bool true, .int .i64 (p + 1), .int .i64 (-1), .slice none 0 0]) (by simp [results, Tryz.results125, go_sem, zc0, zc1, zc2, zc3]) rfl (⟨rfl, below_box HB6.out ZF4.out (by have := HH0.out; omega) (Nat.le_refl _)⟩)
theorem pbyte3n (K : Env) (hK : EnvOk K) (m : Nat) (w : World) (s : St) (es : Array MapEntry) (clock : Nat) (KS : List (Ce × (Option Addr × Nat))) (p : Nat) (x : Nd) (ko : Option Addr) (kc : Nat)
  (h : TW K m w s es clock KS) (hp : p ≤ K.W.length) (b : Nat) (hwp : K.W[p]? = some b) (hbi : inW (wo x) b = false) (hcx : ∀ i, 0 ≤ clsAt x i ∧ clsAt x i < 2 ^ 64) :
  Calls Tryz.prog 125 #[.pointer (some ⟨K.g, 0, none⟩), .agg #[.int .i64 3, .int .u64 x.c0, .int .u64 x.c1, .int .u64 x.c2, .int .u64 x.c3, .string x.text, .int .i64 x.rule, .int .i64 x.lev, .slice ko x.kids.length kc], .int .i64 p] w (fun e w' => e = .returned (gtv (failR p) none 0) ∧ Below w.heap.size w w') := by
 have H := Lib.hid h
 have HP := Lib.hid hp
 have hpb : p ≤ 2048 := by have := hK.w2; have := hK.wl; omega
 have hwl := hK.wl
 have hwb := hK.inp.bound
 have hww := hK.w2
 obtain ⟨HB0, HX0, HZ0⟩ := box2 w #[.int .i64 3, .int .u64 x.c0, .int .u64 x.c1, .int .u64 x.c2, .int .u64 x.c3, .string x.text, .int .i64 x.rule, .int .i64 x.lev, .slice ko x.kids.length kc] #[.bool false, .int .i64 0, .int .i64 0, .slice none 0 0] 55 124
 have H1 := Lib.hid (h.below HB0.out)
 have HLo : Hid (K.base.heap.size ≤ w.heap.size) := h.low.size
 clear h hp
 go_enter Tryz.func125, Tryz.ntmps125
 go_upto_region 1 with (fail)
 revert HB0 HX0 HZ0 H1
 generalize (w.alloc _).alloc _ = w1
 generalize hh0 : w.heap.size + 1 = h0
 generalize hhx : w.heap.size = hx
 intro HB0 HX0 HZ0 H1
 have HH0 : Hid (w.heap.size = hx ∧ hx + 1 = h0) := ⟨hhx, by omega⟩
 have HB1 : Hid (Below w.heap.size w w1) := by rw [hhx]; exact HB0.out
 clear HB0 hh0 hhx
 obtain ⟨x0, x1, x2, x3, x4, x5, x6, x7, x8⟩ := (HX0.out).c9
 have hpl := (List.getElem?_eq_some_iff.1 hwp).1
 have p4 : w1.cell? ⟨K.g, 4, none⟩ = some (.slice K.wo K.wn K.wc) := H1.out.obj.cell 4
 have hwn : (p : Int) < K.wn := by omega
 have hp0 : (0 : Int) ≤ p := by omega
 obtain ⟨wa, hwa, hwc⟩ := hK.inp.cell p (by simp [bys]; omega)
 have hwc' : K.base.cell? (wa.add p) = some (.int .u8 b) := by rw [hwc]; simp [bys, hwp]
 have p7 : w1.cell? (wa.add p) = some (.int .u8 b) := (H1.out.low.cell (World.block_lt_of_cell? _ _ hwc')).trans hwc'
 rw [hwa] at p4
 have HBy : Hid (b < 256) := hK.byt b (List.mem_of_getElem? hwp)
 have HWo := Lib.hid (wo_words hcx)
 have hcw := cw_wo hcx
 have HHas : Hid (∀ w', Calls Tryz.prog 142 #[.agg #[.int .u64 x.c0, .int .u64 x.c1, .int .u64 x.c2, .int .u64 x.c3], .int .u8 b] w' fun r w'' => r = .returned (.bool false) ∧ Below w'.heap.size w' w'') := fun w' => by rw [hcw, ← hbi]; exact hasF_any w' (wo x) HWo.out b HBy.out
 clear hwc hwc' hwa hcw hwp hbi hcx
 go_upto_region 3 with (fail)
 go_still_tail 21, (by kernel_rfl)
 change wpList _ _ _ _ _ w1.drew
 have HD := (Below.refl w1.heap.size w1).drew
 have HB4 := Lib.hid (HB1.out.trans (HD.mono HB1.out.size))
 have HZ4 := Lib.hid (HZ0.out.below HD)
 clear HD x0 x1 x2 x3 x4 x5 x6 x7 x8 p4 p7 H1 HX0 HZ0 HB1
 revert HB4 HZ4
 generalize w1.drew = w4
 intro HB4 HZ4
 go_wp2_with fail
 refine (HHas.out _).mono ?_
 rintro e w5 ⟨rfl, hb5⟩
 have HB5 := Lib.hid (HB4.out.trans (hb5.mono HB4.out.size))
 have HZ5 := Lib.hid (HZ4.out.below hb5)
 clear hb5 HB4 HZ4 HHas
 go_wp2_with fail
 refine (pmiss_any w5 p).mono ?_
 rintro e w6 ⟨rfl, hb6⟩
 simp only [gtv, gcs, failR, List.length_nil]
 have HZ6 := Lib.hid (HZ5.out.below hb6)
 have HB6 := Lib.hid (HB5.out.trans (hb6.mono HB5.out.size))
 clear hb6
 obtain ⟨zq0, zq1, zq2, zq3⟩ := (HZ6.out).c4
 obtain ⟨zf0, zf1, zf2, zf3⟩ := (HZ6.out).f4
 obtain ⟨ZR4, ZF4⟩ := set4_box (.bool false) (.int .i64 0) (.int .i64 p) (.slice none 0 0) (HZ6.out)
 go_wp2_with fail
 revert ZR4 ZF4
 generalize (((w6.setCell _ _).setCell _ _).setCell _ _).setCell _ _ = wz
 intro ZR4 ZF4
 obtain ⟨zc0, zc1, zc2, zc3⟩ := (ZR4.out).c4
 exact bodyPost_ret (v := .agg #[.bool false, .int .i64 0, .int .i64 p, .slice none 0 0]) (by simp [results, Tryz.results125, go_sem, zc0, zc1, zc2, zc3]) rfl (⟨rfl, below_box HB6.out ZF4.out (by have := HH0.out; omega) (Nat.le_refl _)⟩)
end Go.Proofs.YtdnkffplkleolaaGreat
namespace Go.Proofs.YtdnkffplkleolaaGreat
open Go.RowKit Go.ChangeMaps
set_option maxRecDepth 100000
set_option maxHeartbeats 2000000

theorem txt_le {W : List Nat} {s : ByteArray} {p k : Nat} (hp : p ≤ W.length) (h : ∀ j, j < k → txtAt W s p j = true) : p + k ≤ W.length := by
 cases k with
 | zero => omega
 | succ k =>
  have := h k (by omega)
  unfold txtAt at this
  by_cases hl : p + k < W.length
  ·omega
  ·rw [List.getElem?_eq_none (by omega)] at this
   simp at this
def TxI (w1 : World) (W : List Nat) (s : ByteArray) (p k : Nat) (wr : World) : Prop := Below w1.heap.size w1 wr ∧ ∀ j, j < k → txtAt W s p j = true

theorem ptext (K : Env) (hK : EnvOk K) (m : Nat) (w : World) (s : St) (es : Array MapEntry) (clock : Nat) (KS : List (Ce × (Option Addr × Nat))) (p : Nat) (x : Nd) (ko : Option Addr) (kc : Nat)
  (h : TW K m w s es clock KS) (hp : p ≤ K.W.length) (hts : x.text.size ≤ 64) :
  Calls Tryz.prog 119 #[.pointer (some ⟨K.g, 0, none⟩), .agg #[.int .i64 4, .int .u64 x.c0, .int .u64 x.c1, .int .u64 x.c2, .int .u64 x.c3, .string x.text, .int .i64 x.rule, .int .i64 x.lev, .slice ko x.kids.length kc], .int .i64 p] w (fun e w' => e = .returned (gtv (txtR K.W x.text p) none 0) ∧ Below w.heap.size w w') := by
 have H := Lib.hid h
 have HP := Lib.hid hp
 have hpb : p ≤ 2048 := by have := hK.w2; have := hK.wl; omega
 have hwl := hK.wl
 have hwb := hK.inp.bound
 have hww := hK.w2
 obtain ⟨HB0, HX0, HZ0⟩ := box2 w #[.int .i64 4, .int .u64 x.c0, .int .u64 x.c1, .int .u64 x.c2, .int .u64 x.c3, .string x.text, .int .i64 x.rule, .int .i64 x.lev, .slice ko x.kids.length kc] #[.bool false, .int .i64 0, .int .i64 0, .slice none 0 0] 55 124
 have H1 := Lib.hid (h.below HB0.out)
 have HLo : Hid (K.base.heap.size ≤ w.heap.size) := h.low.size
 clear h hp
 go_enter Tryz.func119, Tryz.ntmps119
 go_upto_region 1 with (fail)
 revert HB0 HX0 HZ0 H1
 generalize (w.alloc _).alloc _ = w1
 generalize hh0 : w.heap.size + 1 = h0
 generalize hhx : w.heap.size = hx
 intro HB0 HX0 HZ0 H1
 have HH0 : Hid (w.heap.size = hx ∧ hx + 1 = h0) := ⟨hhx, by omega⟩
 have HB1 : Hid (Below w.heap.size w w1) := by rw [hhx]; exact HB0.out
 clear HB0 hh0 hhx
 obtain ⟨x0, x1, x2, x3, x4, x5, x6, x7, x8⟩ := (HX0.out).c9
 have HI0 : Hid (TxI w1 K.W x.text p 0 w1) := ⟨Below.refl _ _, fun j hj => absurd hj (by omega)⟩
 go_wp2_with fail
 go_loopw [11] (fun i wr => ∃ k : Nat, k ≤ x.text.size ∧ i = .int .i64 k ∧ Hid (TxI w1 K.W x.text p k wr)) (fun i _ => x.text.size - (intOf i).toNat)
 case atStart => exact ⟨0, by omega, rfl, HI0.out⟩
 case round =>
  obtain ⟨k, hk, rfl, HI⟩ := hrel
  clear HI0 x0 x1 x2 x3 x4 x5 x6 x7 x8
  have p4 : wr.cell? ⟨K.g, 4, none⟩ = some (.slice K.wo K.wn K.wc) := (H1.out.below HI.out.1).obj.cell 4
  have x5 : wr.cell? ⟨hx, 5, none⟩ = some (.string x.text) := (HX0.out.below HI.out.1).cell 5
  have hkz : (0 : Int) ≤ k := by omega
  have hw1 : IntKind.i64.wrap ((p : Int) + k) = p + k := IntWalk.i64_in _ (by omega)
  have hw2 : (0 : Int) ≤ (p : Int) + k := by omega
  have hw3 : ((p : Int) + k).toNat = p + k := by omega
  have hle := txt_le HP.out HI.out.2
  by_cases hit : k < x.text.size
  ·have hit' : (k : Int) < x.text.size := by omega
   by_cases hpk : p + k < K.W.length
   ·have hpk' : (p : Int) + k < K.wn := by omega
    have hpd : ((p : Int) + k == (K.wn : Int)) = false := by simp; omega
    obtain ⟨wa, hwa, hwc⟩ := hK.inp.cell (p + k) (by simp [bys]; omega)
    have hwc' : K.base.cell? (wa.add (p + k)) = some (.int .u8 (K.W[p + k]'hpk)) := by rw [hwc]; simp [bys, hpk]
    have p7 : wr.cell? (wa.add (p + k)) = some (.int .u8 (K.W[p + k]'hpk)) := ((H1.out.below HI.out.1).low.cell (World.block_lt_of_cell? _ _ hwc')).trans hwc'
    rw [hwa] at p4
    have hg : x.text.get! k = x.text[k]'hit := by simp [ByteArray.get!, hit]; rfl
    have HAt : Hid (txtAt K.W x.text p k = decide (((K.W[p + k]'hpk : Nat) : Int) = ((x.text[k]'hit).toNat : Int))) := by
     show txtAt K.W x.text p k = _
     unfold txtAt
     rw [List.getElem?_eq_getElem hpk, hg]
     rw [Bool.eq_iff_iff, beq_iff_eq, Option.some.injEq, decide_eq_true_iff]
     omega
    clear hwc hwc' hwa hg hle
    generalize K.W[p + k]'hpk = b at *
    by_cases hbe : (b : Int) = ((x.text[k]'hit).toNat : Int)
    ·have hbd : ((b : Int) != ((x.text[k]'hit).toNat : Int)) = false := by simp; omega
     have HTk : Hid (txtAt K.W x.text p k = true) := by show _ = true; rw [HAt.out]; simpa using hbe
     clear hbe HAt
     go_wp2_with fail
     go_quiet (fail)
     go_wp2_with fail
     go_roundw
     case rel =>
      refine ⟨k + 1, by omega, by go_num, below_drewN HI.out.1 _, fun j hj => ?_⟩
      by_cases e : j = k
      ·subst e; exact HTk.out
      ·exact HI.out.2 j (by omega)
     case measure => simp [intOf]; omega
    ·have hbd : ((b : Int) != ((x.text[k]'hit).toNat : Int)) = true := by simp; omega
     have HRes : Hid (txtR K.W x.text p = failR ((p : Int) + k)) := (txtR_no HI.out.2 hit (by rw [HAt.out]; simpa using hbe)).trans (by rw [Int.natCast_add])
     clear hbe HAt
     go_wp2_with fail
     go_quiet (fail)
     have HI5 : Hid (TxI w1 K.W x.text p k (wr.drewN nq)) := ⟨below_drewN HI.out.1 _, HI.out.2⟩
     clear p4 x5 p7 HI
     revert HI5
     generalize wr.drewN nq = w5
     intro HI5
     have HBw := Lib.hid (HB1.out.trans (HI5.out.1.mono HB1.out.size))
     have HZw := Lib.hid (HZ0.out.below HI5.out.1)
     go_wp2_with fail
     refine (pmiss_any w5 ((p : Int) + k)).mono ?_
     rintro e w6 ⟨rfl, hb6⟩
     simp only [gtv, gcs, failR, List.length_nil]
     have HZ6 := Lib.hid (HZw.out.below hb6)
     have HB6 := Lib.hid (HBw.out.trans (hb6.mono HBw.out.size))
     clear hb6
     obtain ⟨zq0, zq1, zq2, zq3⟩ := (HZ6.out).c4
     obtain ⟨zf0, zf1, zf2, zf3⟩ := (HZ6.out).f4
     obtain ⟨ZR4, ZF4⟩ := set4_box (.bool false) (.int .i64 0) (.int .i64 ((p : Int) + k)) (.slice none 0 0) (HZ6.out)
     go_wp2_with fail
     revert ZR4 ZF4
     generalize (((w6.setCell _ _).setCell _ _).setCell _ _).setCell _ _ = wz
     intro ZR4 ZF4
     obtain ⟨zc0, zc1, zc2, zc3⟩ := (ZR4.out).c4
     exact bodyPost_ret (v := .agg #[.bool false, .int .i64 0, .int .i64 ((p : Int) + k), .slice none 0 0]) (by simp [results, Tryz.results119, go_sem, zc0, zc1, zc2, zc3]) rfl (by rw [HRes.out]; exact ⟨rfl, below_box HB6.out ZF4.out (by have := HH0.out; omega) (Nat.le_refl _)⟩)
   ·have hpe : (p : Int) + k = K.wn := by omega
    have hpd : ((p : Int) + k == (K.wn : Int)) = true := by simp; omega
    have HPe := Lib.hid hpe
    have HRes : Hid (txtR K.W x.text p = failR ((p : Int) + k)) := (txtR_no HI.out.2 hit (by unfold txtAt; rw [List.getElem?_eq_none (by omega)]; rfl)).trans (by rw [Int.natCast_add])
    clear hpe hle
    go_wp2_with fail
    go_quiet (fail)
    have HI5 : Hid (TxI w1 K.W x.text p k (wr.drewN nq)) := ⟨below_drewN HI.out.1 _, HI.out.2⟩
    clear p4 x5 HI
    revert HI5
    generalize wr.drewN nq = w5
    intro HI5
    have HBw := Lib.hid (HB1.out.trans (HI5.out.1.mono HB1.out.size))
    have HZw := Lib.hid (HZ0.out.below HI5.out.1)
    go_wp2_with fail
    refine (pmiss_any w5 ((p : Int) + k)).mono ?_
    rintro e w6 ⟨rfl, hb6⟩
    simp only [gtv, gcs, failR, List.length_nil]
    have HZ6 := Lib.hid (HZw.out.below hb6)
    have HB6 := Lib.hid (HBw.out.trans (hb6.mono HBw.out.size))
    clear hb6
    obtain ⟨zq0, zq1, zq2, zq3⟩ := (HZ6.out).c4
    obtain ⟨zf0, zf1, zf2, zf3⟩ := (HZ6.out).f4
    obtain ⟨ZR4, ZF4⟩ := set4_box (.bool false) (.int .i64 0) (.int .i64 ((p : Int) + k)) (.slice none 0 0) (HZ6.out)
    go_wp2_with fail
    revert ZR4 ZF4
    generalize (((w6.setCell _ _).setCell _ _).setCell _ _).setCell _ _ = wz
    intro ZR4 ZF4
    obtain ⟨zc0, zc1, zc2, zc3⟩ := (ZR4.out).c4
    exact bodyPost_ret (v := .agg #[.bool false, .int .i64 0, .int .i64 ((p : Int) + k), .slice none 0 0]) (by simp [results, Tryz.results119, go_sem, zc0, zc1, zc2, zc3]) rfl (by rw [HRes.out]; exact ⟨rfl, below_box HB6.out ZF4.out (by have := HH0.out; omega) (Nat.le_refl _)⟩)
  ·have hge : (x.text.size : Int) ≤ k := by omega
   have hke : k = x.text.size := by omega
   subst hke
   have HRes : Hid (txtR K.W x.text p = toR (p + x.text.size)) := txtR_yes HI.out.2
   have HI5 := Lib.hid HI.out
   clear hle
   have HBw := Lib.hid (HB1.out.trans (HI5.out.1.mono HB1.out.size))
   have HZw := Lib.hid (HZ0.out.below HI5.out.1)
   go_wp2_with fail
   refine (pto_any wr (p + x.text.size)).mono ?_
   rintro e w6 ⟨rfl, hb6⟩
   simp only [gtv, gcs, toR, List.length_nil]
   have HZ6 := Lib.hid (HZw.out.below hb6)
   have HB6 := Lib.hid (HBw.out.trans (hb6.mono HBw.out.size))
   clear hb6
   obtain ⟨zq0, zq1, zq2, zq3⟩ := (HZ6.out).c4
   obtain ⟨zf0, zf1, zf2, zf3⟩ := (HZ6.out).f4
   obtain ⟨ZR4, ZF4⟩ := set4_box (.bool true) (.int .i64 (p + x.text.size)) (.int .i64 (-1)) (.slice none 0 0) (HZ6.out)
   go_wp2_with fail
   revert ZR4 ZF4
   generalize (((w6.setCell _ _).setCell _ _).setCell _ _).setCell _ _ = wz
   intro ZR4 ZF4
   obtain ⟨zc0, zc1, zc2, zc3⟩ := (ZR4.out).c4
   exact bodyPost_ret (v := .agg #[.bool true, .int .i64 (p + x.text.size), .int .i64 (-1), .slice none 0 0]) (by simp [results, Tryz.results119, go_sem, zc0, zc1, zc2, zc3]) rfl (by rw [HRes.out]; exact ⟨rfl, below_box HB6.out ZF4.out (by have := HH0.out; omega) (Nat.le_refl _)⟩)
end Go.Proofs.YtdnkffplkleolaaGreat
