/- Walks and plain laws: Tp Tj. -/
import Derived.Test.YtdnkffplkleolaaM25
import Derived.Test.YtdnkffplkleolaaM12
import Derived.Test.YtdnkffplkleolaaM24
import Derived.Test.YtdnkffplkleolaaM11
namespace Go.Proofs.Ytdnkffplkleolaa
open Go.RowKit Go.ChangeMaps
set_option maxRecDepth 100000
set_option maxHeartbeats 4000000

theorem set4_hrow {w : World} {g k : Nat} {cs : Array Value} {t : TypeId} {x0 x1 x2 x3 : Value} (h : hrow w k cs t) (hk : k ≠ g) : hrow ((((w.setCell ⟨g, 0, none⟩ x0).setCell ⟨g, 1, none⟩ x1).setCell ⟨g, 2, none⟩ x2).setCell ⟨g, 3, none⟩ x3) k cs t :=
 h.fr (set4_fr w g x0 x1 x2 x3) hk
theorem pnode (K : Env) (hK : EnvOk K) (m : Nat) (w : World) (s : St) (es : Array MapEntry) (clock : Nat) (KS : List (Ce × (Option Addr × Nat))) (n p : Nat) (x : Nd) (h : TW K m w s es clock KS) (hrd : s.round = false) (hx : K.G.nodes[n]? = some x) (fn : FuncId) (hfn : fn = 85 ∨ fn = 79 ∨ fn = 80 ∨ fn = 81 ∨ fn = 82 ∨ fn = 83 ∨ fn = 84) (hy : ∀ W', Calls Try.prog 69 #[.int .i64 x.kind] W' fun e w' => e = .returned (.func (.func fn) #[] #[]) ∧ W' = w') (o : Rs × St)
  (hM : ∀ (W' : World) (ko : Option Addr) (kc : Nat), TW K m W' s es clock KS → Sv K.base ko x.kids.length kc 1 (inc x.kids) → Calls Try.prog fn #[.pointer (some ⟨K.g, 0, none⟩), .agg #[.int .i64 x.kind, .int .u64 x.c0, .int .u64 x.c1, .int .u64 x.c2, .int .u64 x.c3, .string x.text, .int .i64 x.rule, .int .i64 x.lev, .slice ko x.kids.length kc], .int .i64 p] W' (PEnd K m W' o)) :
  Calls Try.prog 55 #[.pointer (some ⟨K.g, 0, none⟩), .int .i64 n, .int .i64 p] w (PEnd K m w o) := by
 rcases hfn with rfl | rfl | rfl | rfl | rfl | rfl | rfl
 all_goals
  obtain ⟨na, ko, kc, hna, hnl, hnb, htx, hkids, hcell⟩ := RW.node hK hx
  have HY := Lib.hid hy
  have HNa := Lib.hid hna
  have HCell := Lib.hid hcell
  have HM := Lib.hid (fun W' hw => hM W' ko kc hw hkids)
  have hbn := hK.gr.nod.sv.bound
  have hkb := hkids.bound
  have HRd := Lib.hid hrd
  clear hx hy hna hkids hcell hM hrd
  obtain ⟨HB0, HZ0⟩ := box1 w #[.bool false, .int .i64 0, .int .i64 0, .slice none 0 0] 100
  have H1 := Lib.hid (h.below HB0.out)
  have HLo : Hid (K.base.heap.size ≤ w.heap.size) := h.low.size
  clear h
  go_enter Try.func55, Try.ntmps55
  go_upto_region 1 with (fail)
  revert HB0 HZ0 H1
  generalize w.alloc _ = w1
  generalize hh0 : w.heap.size = h0
  intro HB0 HZ0 H1
  have HH0 := Lib.hid hh0
  have HF1 : Hid (PF K m w w1) := PF.below (hh0 ▸ HB0.out)
  clear HB0 hh0
  have p1 : w1.cell? ⟨K.g, 1, none⟩ = some (.bool false) := by rw [← HRd.out]; exact H1.out.obj.cell 1
  have p3 : w1.cell? ⟨K.g, 3, none⟩ = some (.slice (some na) K.nn K.nc) := by rw [← HNa.out]; exact H1.out.obj.cell 3
  have c0 : w1.cell? (na.add (n * 9)) = some (.int .i64 x.kind) := (HCell.out w1 H1.out.low).1
  have cc := (HCell.out w1 H1.out.low).2
  have c1 : w1.cell? ⟨(na.add (n * 9)).block, (na.add (n * 9)).off + 1, none⟩ = some (.int .u64 x.c0) := cc 1 _ (by decide) rfl
  have c2 : w1.cell? ⟨(na.add (n * 9)).block, (na.add (n * 9)).off + 2, none⟩ = some (.int .u64 x.c1) := cc 2 _ (by decide) rfl
  have c3 : w1.cell? ⟨(na.add (n * 9)).block, (na.add (n * 9)).off + 3, none⟩ = some (.int .u64 x.c2) := cc 3 _ (by decide) rfl
  have c4 : w1.cell? ⟨(na.add (n * 9)).block, (na.add (n * 9)).off + 4, none⟩ = some (.int .u64 x.c3) := cc 4 _ (by decide) rfl
  have c5 : w1.cell? ⟨(na.add (n * 9)).block, (na.add (n * 9)).off + 5, none⟩ = some (.string x.text) := cc 5 _ (by decide) rfl
  have c6 : w1.cell? ⟨(na.add (n * 9)).block, (na.add (n * 9)).off + 6, none⟩ = some (.int .i64 x.rule) := cc 6 _ (by decide) rfl
  have c7 : w1.cell? ⟨(na.add (n * 9)).block, (na.add (n * 9)).off + 7, none⟩ = some (.int .i64 x.lev) := cc 7 _ (by decide) rfl
  have c8 : w1.cell? ⟨(na.add (n * 9)).block, (na.add (n * 9)).off + 8, none⟩ = some (.slice ko x.kids.length kc) := cc 8 _ (by decide) rfl
  have hnl' : (n : Int) < K.nn := by omega
  have hn0 : (0 : Int) ≤ n := by omega
  clear cc
  obtain ⟨HAl, HXn⟩ := box1 w1 #[.int .i64 x.kind, .int .u64 x.c0, .int .u64 x.c1, .int .u64 x.c2, .int .u64 x.c3, .string x.text, .int .i64 x.rule, .int .i64 x.lev, .slice ko x.kids.length kc] 57
  have H3 := Lib.hid (H1.out.below HAl.out)
  have HF3 := Lib.hid (PF.trans HF1.out (PF.below HAl.out))
  have HZ3 := Lib.hid (HZ0.out.below HAl.out)
  have HLx : Hid (h0 < w1.heap.size) := HZ0.out.lt
  go_upto_region 4 with (fail)
  revert HXn H3 HF3 HZ3 HLx
  generalize w1.alloc _ = w3
  generalize w1.heap.size = hx
  intro HXn H3 HF3 HZ3 HLx
  clear HAl H1 HF1 HZ0 c0 c1 c2 c3 c4 c5 c6 c7 c8 p1 p3 HCell
  obtain ⟨x0, x1, x2, x3, x4, x5, x6, x7, x8⟩ := (HXn.out).c9
  have HS9 : Hid (∀ w', hrow w' hx #[.int .i64 x.kind, .int .u64 x.c0, .int .u64 x.c1, .int .u64 x.c2, .int .u64 x.c3, .string x.text, .int .i64 x.rule, .int .i64 x.lev, .slice ko x.kids.length kc] 57 → w'.cell? ⟨hx, 0, none⟩ = some (.int .i64 x.kind) ∧ w'.cell? ⟨hx, 1, none⟩ = some (.int .u64 x.c0) ∧ w'.cell? ⟨hx, 2, none⟩ = some (.int .u64 x.c1) ∧ w'.cell? ⟨hx, 3, none⟩ = some (.int .u64 x.c2) ∧ w'.cell? ⟨hx, 4, none⟩ = some (.int .u64 x.c3) ∧ w'.cell? ⟨hx, 5, none⟩ = some (.string x.text) ∧ w'.cell? ⟨hx, 6, none⟩ = some (.int .i64 x.rule) ∧ w'.cell? ⟨hx, 7, none⟩ = some (.int .i64 x.lev) ∧ w'.cell? ⟨hx, 8, none⟩ = some (.slice ko x.kids.length kc)) := fun w' hr => ⟨hr.cell 0, hr.cell 1, hr.cell 2, hr.cell 3, hr.cell 4, hr.cell 5, hr.cell 6, hr.cell 7, hr.cell 8⟩
  have hne : hx ≠ h0 := by have := HLx.out; omega
  have HD0 := Lib.hid ((Below.refl w3.heap.size w3).drew)
  have HMd := Lib.hid (HM.out w3.drew (H3.out.below HD0.out))
  obtain ⟨⟨xi, xe, xf, xt, xr⟩, s2⟩ := o
  clear HM
  go_region_held3 (fun w' => w'.cell? ⟨hx, 0, none⟩ = some (.int .i64 x.kind) ∧ w'.cell? ⟨hx, 1, none⟩ = some (.int .u64 x.c0) ∧ w'.cell? ⟨hx, 2, none⟩ = some (.int .u64 x.c1) ∧ w'.cell? ⟨hx, 3, none⟩ = some (.int .u64 x.c2) ∧ w'.cell? ⟨hx, 4, none⟩ = some (.int .u64 x.c3) ∧ w'.cell? ⟨hx, 5, none⟩ = some (.string x.text) ∧ w'.cell? ⟨hx, 6, none⟩ = some (.int .i64 x.rule) ∧ w'.cell? ⟨hx, 7, none⟩ = some (.int .i64 x.lev) ∧ w'.cell? ⟨hx, 8, none⟩ = some (.slice ko x.kids.length kc))
   (first | (with_reducible exact HS9.out _ (set4_hrow K9.out hne)) | (with_reducible exact HS9.out _ K9.out) | go_keep)
   ((first
    | (go_at_call 69; refine (HY.out _).mono ?_; rintro e w4 ⟨rfl, rfl⟩)
    | ((first | go_at_call 85 | go_at_call 79 | go_at_call 80 | go_at_call 81 | go_at_call 82 | go_at_call 83 | go_at_call 84); refine (HMd.out).mono ?_; rintro e w6 ⟨es6, clock6, KS6, o6, c6, rfl, g1, g2, g3⟩; simp only [gtv, gcs] at g1 g2 ⊢; have G1 := Lib.hid g1; have G2 := Lib.hid g2; have G3 := Lib.hid (PF.trans (PF.trans HF3.out (PF.below HD0.out)) g3); have HZ6 := Lib.hid (hrow.pf (H3.out.below HD0.out) g3 (HZ3.out.below HD0.out) (by decide)); have K9 := Lib.hid (hrow.pf (H3.out.below HD0.out) g3 (HXn.out.below HD0.out) (by decide)); clear g1 g2 g3; obtain ⟨zq0, zq1, zq2, zq3⟩ := (HZ6.out).c4; obtain ⟨zf0, zf1, zf2⟩ := (HZ6.out).f3; have zf3 := (HZ6.out).frozen 3)))
  all_goals
   obtain ⟨ZR4, ZF4⟩ := set4_box (.bool xi) (.int .i64 xe) (.int .i64 xf) (.slice o6 xt.length c6) (HZ6.out)
   revert ZR4 ZF4
   generalize (((w6.setCell _ _).setCell _ _).setCell _ _).setCell _ _ = wz
   intro ZR4 ZF4
   obtain ⟨zc0, zc1, zc2, zc3⟩ := (ZR4.out).c4
   go_wp2_with fail
   exact bodyPost_ret (v := .agg #[.bool xi, .int .i64 xe, .int .i64 xf, .slice o6 xt.length c6]) (by simp [results, Try.results55, go_sem, zc0, zc1, zc2, zc3]) rfl (⟨es6, clock6, KS6, o6, c6, rfl, TW.boxed (G1.out) HZ6.out (by have := HH0.out; have := HLo.out; omega) ZF4.out, TrW.gbox (G2.out) HZ6.out ZF4.out, PF.new (G3.out) ZF4.out (fun k e => by have e' : k = h0 := e; have := HH0.out; omega)⟩)
theorem pnode1 (K : Env) (hK : EnvOk K) (m : Nat) (w : World) (s : St) (es : Array MapEntry) (clock : Nat) (KS : List (Ce × (Option Addr × Nat))) (n p : Nat) (x : Nd) (h : TW K m w s es clock KS) (hrd : s.round = false) (hx : K.G.nodes[n]? = some x) (hk : x.kind = 1) (o : Rs × St)
  (hM : ∀ (W' : World) (ko : Option Addr) (kc : Nat), TW K m W' s es clock KS → Sv K.base ko x.kids.length kc 1 (inc x.kids) → Calls Try.prog 85 #[.pointer (some ⟨K.g, 0, none⟩), .agg #[.int .i64 1, .int .u64 x.c0, .int .u64 x.c1, .int .u64 x.c2, .int .u64 x.c3, .string x.text, .int .i64 x.rule, .int .i64 x.lev, .slice ko x.kids.length kc], .int .i64 p] W' (PEnd K m W' o)) :
  Calls Try.prog 55 #[.pointer (some ⟨K.g, 0, none⟩), .int .i64 n, .int .i64 p] w (PEnd K m w o) :=
 pnode K hK m w s es clock KS n p x h hrd hx _ (.inl rfl) (fun W' => by rw [hk]; exact way1 W') o (fun W' ko kc a b => by rw [hk]; exact hM W' ko kc a b)
theorem pnode2 (K : Env) (hK : EnvOk K) (m : Nat) (w : World) (s : St) (es : Array MapEntry) (clock : Nat) (KS : List (Ce × (Option Addr × Nat))) (n p : Nat) (x : Nd) (h : TW K m w s es clock KS) (hrd : s.round = false) (hx : K.G.nodes[n]? = some x) (hk : x.kind = 2) (o : Rs × St)
  (hM : ∀ (W' : World) (ko : Option Addr) (kc : Nat), TW K m W' s es clock KS → Sv K.base ko x.kids.length kc 1 (inc x.kids) → Calls Try.prog 85 #[.pointer (some ⟨K.g, 0, none⟩), .agg #[.int .i64 2, .int .u64 x.c0, .int .u64 x.c1, .int .u64 x.c2, .int .u64 x.c3, .string x.text, .int .i64 x.rule, .int .i64 x.lev, .slice ko x.kids.length kc], .int .i64 p] W' (PEnd K m W' o)) :
  Calls Try.prog 55 #[.pointer (some ⟨K.g, 0, none⟩), .int .i64 n, .int .i64 p] w (PEnd K m w o) :=
 pnode K hK m w s es clock KS n p x h hrd hx _ (.inl rfl) (fun W' => by rw [hk]; exact way2 W') o (fun W' ko kc a b => by rw [hk]; exact hM W' ko kc a b)
theorem pnode3 (K : Env) (hK : EnvOk K) (m : Nat) (w : World) (s : St) (es : Array MapEntry) (clock : Nat) (KS : List (Ce × (Option Addr × Nat))) (n p : Nat) (x : Nd) (h : TW K m w s es clock KS) (hrd : s.round = false) (hx : K.G.nodes[n]? = some x) (hk : x.kind = 3) (o : Rs × St)
  (hM : ∀ (W' : World) (ko : Option Addr) (kc : Nat), TW K m W' s es clock KS → Sv K.base ko x.kids.length kc 1 (inc x.kids) → Calls Try.prog 85 #[.pointer (some ⟨K.g, 0, none⟩), .agg #[.int .i64 3, .int .u64 x.c0, .int .u64 x.c1, .int .u64 x.c2, .int .u64 x.c3, .string x.text, .int .i64 x.rule, .int .i64 x.lev, .slice ko x.kids.length kc], .int .i64 p] W' (PEnd K m W' o)) :
  Calls Try.prog 55 #[.pointer (some ⟨K.g, 0, none⟩), .int .i64 n, .int .i64 p] w (PEnd K m w o) :=
 pnode K hK m w s es clock KS n p x h hrd hx _ (.inl rfl) (fun W' => by rw [hk]; exact way3 W') o (fun W' ko kc a b => by rw [hk]; exact hM W' ko kc a b)
theorem pnode4 (K : Env) (hK : EnvOk K) (m : Nat) (w : World) (s : St) (es : Array MapEntry) (clock : Nat) (KS : List (Ce × (Option Addr × Nat))) (n p : Nat) (x : Nd) (h : TW K m w s es clock KS) (hrd : s.round = false) (hx : K.G.nodes[n]? = some x) (hk : x.kind = 4) (o : Rs × St)
  (hM : ∀ (W' : World) (ko : Option Addr) (kc : Nat), TW K m W' s es clock KS → Sv K.base ko x.kids.length kc 1 (inc x.kids) → Calls Try.prog 79 #[.pointer (some ⟨K.g, 0, none⟩), .agg #[.int .i64 4, .int .u64 x.c0, .int .u64 x.c1, .int .u64 x.c2, .int .u64 x.c3, .string x.text, .int .i64 x.rule, .int .i64 x.lev, .slice ko x.kids.length kc], .int .i64 p] W' (PEnd K m W' o)) :
  Calls Try.prog 55 #[.pointer (some ⟨K.g, 0, none⟩), .int .i64 n, .int .i64 p] w (PEnd K m w o) :=
 pnode K hK m w s es clock KS n p x h hrd hx _ (.inr (.inl rfl)) (fun W' => by rw [hk]; exact way4 W') o (fun W' ko kc a b => by rw [hk]; exact hM W' ko kc a b)
theorem pnode5 (K : Env) (hK : EnvOk K) (m : Nat) (w : World) (s : St) (es : Array MapEntry) (clock : Nat) (KS : List (Ce × (Option Addr × Nat))) (n p : Nat) (x : Nd) (h : TW K m w s es clock KS) (hrd : s.round = false) (hx : K.G.nodes[n]? = some x) (hk : x.kind = 5) (o : Rs × St)
  (hM : ∀ (W' : World) (ko : Option Addr) (kc : Nat), TW K m W' s es clock KS → Sv K.base ko x.kids.length kc 1 (inc x.kids) → Calls Try.prog 80 #[.pointer (some ⟨K.g, 0, none⟩), .agg #[.int .i64 5, .int .u64 x.c0, .int .u64 x.c1, .int .u64 x.c2, .int .u64 x.c3, .string x.text, .int .i64 x.rule, .int .i64 x.lev, .slice ko x.kids.length kc], .int .i64 p] W' (PEnd K m W' o)) :
  Calls Try.prog 55 #[.pointer (some ⟨K.g, 0, none⟩), .int .i64 n, .int .i64 p] w (PEnd K m w o) :=
 pnode K hK m w s es clock KS n p x h hrd hx _ (.inr (.inr (.inl rfl))) (fun W' => by rw [hk]; exact way5 W') o (fun W' ko kc a b => by rw [hk]; exact hM W' ko kc a b)
theorem pnode6 (K : Env) (hK : EnvOk K) (m : Nat) (w : World) (s : St) (es : Array MapEntry) (clock : Nat) (KS : List (Ce × (Option Addr × Nat))) (n p : Nat) (x : Nd) (h : TW K m w s es clock KS) (hrd : s.round = false) (hx : K.G.nodes[n]? = some x) (hk : x.kind = 6) (o : Rs × St)
  (hM : ∀ (W' : World) (ko : Option Addr) (kc : Nat), TW K m W' s es clock KS → Sv K.base ko x.kids.length kc 1 (inc x.kids) → Calls Try.prog 81 #[.pointer (some ⟨K.g, 0, none⟩), .agg #[.int .i64 6, .int .u64 x.c0, .int .u64 x.c1, .int .u64 x.c2, .int .u64 x.c3, .string x.text, .int .i64 x.rule, .int .i64 x.lev, .slice ko x.kids.length kc], .int .i64 p] W' (PEnd K m W' o)) :
  Calls Try.prog 55 #[.pointer (some ⟨K.g, 0, none⟩), .int .i64 n, .int .i64 p] w (PEnd K m w o) :=
 pnode K hK m w s es clock KS n p x h hrd hx _ (.inr (.inr (.inr (.inl rfl)))) (fun W' => by rw [hk]; exact way6 W') o (fun W' ko kc a b => by rw [hk]; exact hM W' ko kc a b)
theorem pnode7 (K : Env) (hK : EnvOk K) (m : Nat) (w : World) (s : St) (es : Array MapEntry) (clock : Nat) (KS : List (Ce × (Option Addr × Nat))) (n p : Nat) (x : Nd) (h : TW K m w s es clock KS) (hrd : s.round = false) (hx : K.G.nodes[n]? = some x) (hk : x.kind = 7) (o : Rs × St)
  (hM : ∀ (W' : World) (ko : Option Addr) (kc : Nat), TW K m W' s es clock KS → Sv K.base ko x.kids.length kc 1 (inc x.kids) → Calls Try.prog 82 #[.pointer (some ⟨K.g, 0, none⟩), .agg #[.int .i64 7, .int .u64 x.c0, .int .u64 x.c1, .int .u64 x.c2, .int .u64 x.c3, .string x.text, .int .i64 x.rule, .int .i64 x.lev, .slice ko x.kids.length kc], .int .i64 p] W' (PEnd K m W' o)) :
  Calls Try.prog 55 #[.pointer (some ⟨K.g, 0, none⟩), .int .i64 n, .int .i64 p] w (PEnd K m w o) :=
 pnode K hK m w s es clock KS n p x h hrd hx _ (.inr (.inr (.inr (.inr (.inl rfl))))) (fun W' => by rw [hk]; exact way7 W') o (fun W' ko kc a b => by rw [hk]; exact hM W' ko kc a b)
theorem pnode8 (K : Env) (hK : EnvOk K) (m : Nat) (w : World) (s : St) (es : Array MapEntry) (clock : Nat) (KS : List (Ce × (Option Addr × Nat))) (n p : Nat) (x : Nd) (h : TW K m w s es clock KS) (hrd : s.round = false) (hx : K.G.nodes[n]? = some x) (hk : x.kind = 8) (o : Rs × St)
  (hM : ∀ (W' : World) (ko : Option Addr) (kc : Nat), TW K m W' s es clock KS → Sv K.base ko x.kids.length kc 1 (inc x.kids) → Calls Try.prog 83 #[.pointer (some ⟨K.g, 0, none⟩), .agg #[.int .i64 8, .int .u64 x.c0, .int .u64 x.c1, .int .u64 x.c2, .int .u64 x.c3, .string x.text, .int .i64 x.rule, .int .i64 x.lev, .slice ko x.kids.length kc], .int .i64 p] W' (PEnd K m W' o)) :
  Calls Try.prog 55 #[.pointer (some ⟨K.g, 0, none⟩), .int .i64 n, .int .i64 p] w (PEnd K m w o) :=
 pnode K hK m w s es clock KS n p x h hrd hx _ (.inr (.inr (.inr (.inr (.inr (.inl rfl)))))) (fun W' => by rw [hk]; exact way8 W') o (fun W' ko kc a b => by rw [hk]; exact hM W' ko kc a b)
theorem pnode9 (K : Env) (hK : EnvOk K) (m : Nat) (w : World) (s : St) (es : Array MapEntry) (clock : Nat) (KS : List (Ce × (Option Addr × Nat))) (n p : Nat) (x : Nd) (h : TW K m w s es clock KS) (hrd : s.round = false) (hx : K.G.nodes[n]? = some x) (hk : x.kind = 9) (o : Rs × St)
  (hM : ∀ (W' : World) (ko : Option Addr) (kc : Nat), TW K m W' s es clock KS → Sv K.base ko x.kids.length kc 1 (inc x.kids) → Calls Try.prog 83 #[.pointer (some ⟨K.g, 0, none⟩), .agg #[.int .i64 9, .int .u64 x.c0, .int .u64 x.c1, .int .u64 x.c2, .int .u64 x.c3, .string x.text, .int .i64 x.rule, .int .i64 x.lev, .slice ko x.kids.length kc], .int .i64 p] W' (PEnd K m W' o)) :
  Calls Try.prog 55 #[.pointer (some ⟨K.g, 0, none⟩), .int .i64 n, .int .i64 p] w (PEnd K m w o) :=
 pnode K hK m w s es clock KS n p x h hrd hx _ (.inr (.inr (.inr (.inr (.inr (.inl rfl)))))) (fun W' => by rw [hk]; exact way9 W') o (fun W' ko kc a b => by rw [hk]; exact hM W' ko kc a b)
theorem pnode10 (K : Env) (hK : EnvOk K) (m : Nat) (w : World) (s : St) (es : Array MapEntry) (clock : Nat) (KS : List (Ce × (Option Addr × Nat))) (n p : Nat) (x : Nd) (h : TW K m w s es clock KS) (hrd : s.round = false) (hx : K.G.nodes[n]? = some x) (hk : x.kind = 10) (o : Rs × St)
  (hM : ∀ (W' : World) (ko : Option Addr) (kc : Nat), TW K m W' s es clock KS → Sv K.base ko x.kids.length kc 1 (inc x.kids) → Calls Try.prog 84 #[.pointer (some ⟨K.g, 0, none⟩), .agg #[.int .i64 10, .int .u64 x.c0, .int .u64 x.c1, .int .u64 x.c2, .int .u64 x.c3, .string x.text, .int .i64 x.rule, .int .i64 x.lev, .slice ko x.kids.length kc], .int .i64 p] W' (PEnd K m W' o)) :
  Calls Try.prog 55 #[.pointer (some ⟨K.g, 0, none⟩), .int .i64 n, .int .i64 p] w (PEnd K m w o) :=
 pnode K hK m w s es clock KS n p x h hrd hx _ (.inr (.inr (.inr (.inr (.inr (.inr (rfl))))))) (fun W' => by rw [hk]; exact way10 W') o (fun W' ko kc a b => by rw [hk]; exact hM W' ko kc a b)
theorem pnode11 (K : Env) (hK : EnvOk K) (m : Nat) (w : World) (s : St) (es : Array MapEntry) (clock : Nat) (KS : List (Ce × (Option Addr × Nat))) (n p : Nat) (x : Nd) (h : TW K m w s es clock KS) (hrd : s.round = false) (hx : K.G.nodes[n]? = some x) (hk : x.kind = 11) (o : Rs × St)
  (hM : ∀ (W' : World) (ko : Option Addr) (kc : Nat), TW K m W' s es clock KS → Sv K.base ko x.kids.length kc 1 (inc x.kids) → Calls Try.prog 84 #[.pointer (some ⟨K.g, 0, none⟩), .agg #[.int .i64 11, .int .u64 x.c0, .int .u64 x.c1, .int .u64 x.c2, .int .u64 x.c3, .string x.text, .int .i64 x.rule, .int .i64 x.lev, .slice ko x.kids.length kc], .int .i64 p] W' (PEnd K m W' o)) :
  Calls Try.prog 55 #[.pointer (some ⟨K.g, 0, none⟩), .int .i64 n, .int .i64 p] w (PEnd K m w o) :=
 pnode K hK m w s es clock KS n p x h hrd hx _ (.inr (.inr (.inr (.inr (.inr (.inr (rfl))))))) (fun W' => by rw [hk]; exact way11 W') o (fun W' ko kc a b => by rw [hk]; exact hM W' ko kc a b)
theorem pnode12 (K : Env) (hK : EnvOk K) (m : Nat) (w : World) (s : St) (es : Array MapEntry) (clock : Nat) (KS : List (Ce × (Option Addr × Nat))) (n p : Nat) (x : Nd) (h : TW K m w s es clock KS) (hrd : s.round = false) (hx : K.G.nodes[n]? = some x) (hk : x.kind = 12) (o : Rs × St)
  (hM : ∀ (W' : World) (ko : Option Addr) (kc : Nat), TW K m W' s es clock KS → Sv K.base ko x.kids.length kc 1 (inc x.kids) → Calls Try.prog 84 #[.pointer (some ⟨K.g, 0, none⟩), .agg #[.int .i64 12, .int .u64 x.c0, .int .u64 x.c1, .int .u64 x.c2, .int .u64 x.c3, .string x.text, .int .i64 x.rule, .int .i64 x.lev, .slice ko x.kids.length kc], .int .i64 p] W' (PEnd K m W' o)) :
  Calls Try.prog 55 #[.pointer (some ⟨K.g, 0, none⟩), .int .i64 n, .int .i64 p] w (PEnd K m w o) :=
 pnode K hK m w s es clock KS n p x h hrd hx _ (.inr (.inr (.inr (.inr (.inr (.inr (rfl))))))) (fun W' => by rw [hk]; exact way12 W') o (fun W' ko kc a b => by rw [hk]; exact hM W' ko kc a b)
end Go.Proofs.Ytdnkffplkleolaa
namespace Go.Proofs.Ytdnkffplkleolaa
open Go.RowKit Go.ChangeMaps
set_option maxRecDepth 100000
set_option maxHeartbeats 2000000

theorem alt_step {K : Env} {f : Nat} (hK : EnvOk K) {ks : List Int} {k p : Nat} {far : Int} {s : St} {Z : Rs × St} (hk : k < ks.length) (hks : ∀ k ∈ ks, 0 ≤ k ∧ k < K.G.nodes.length) (hs : StOk K.G.rules.length K.W.length s) (hp : p ≤ K.W.length) (h1 : -1 ≤ far) (h2 : far ≤ K.W.length)
  (hZ : altR (ev K.G K.W f) p (ks.drop k) far s = Z) (hZo : Z.2.over = false) : (ev K.G K.W f s (ks[k]'hk).toNat p).2.over = false := by
 have hE := fun s n p => ev_ok (W := K.W) hK.ok f s n p
 have hkn := hks _ (List.getElem_mem hk)
 have H := hE s (ks[k]'hk).toNat p hs (by omega) hp
 rw [altR_drop hk] at hZ
 cases ho : (ev K.G K.W f s (ks[k]'hk).toNat p).2.over with
 | false => rfl
 | true =>
  by_cases hx : (ev K.G K.W f s (ks[k]'hk).toNat p).1.is = true
  ·rw [if_pos hx] at hZ
   rw [← hZ] at hZo
   simp only [] at hZo
   rw [ho] at hZo
   cases hZo
  ·rw [if_neg hx] at hZ
   have h2 := altR_ok hE p hp (ks.drop (k + 1)) (max far (ev K.G K.W f s (ks[k]'hk).toNat p).1.far) (ev K.G K.W f s (ks[k]'hk).toNat p).2 H.st (fun j hj => hks j (List.mem_of_mem_drop hj)) (by omega) (by have := H.rs.hi; omega)
   rw [hZ] at h2
   rw [h2.over ho] at hZo
   cases hZo
def PAltI (K : Env) (m f : Nat) (w : World) (F : St → Rs × St) (Z : Rs × St) (h0 hx : Nat) (X : Array Value) (wr : World) : Prop :=
 ∃ s es clock KS, hrow wr h0 #[.bool false, .int .i64 0, .int .i64 0, .slice none 0 0] 100 ∧ hrow wr hx X 57 ∧ TW K m wr s es clock KS ∧ PF K m w wr ∧ F s = Z ∧ StOk K.G.rules.length K.W.length s ∧ Cap f s ∧ s.over = false

theorem palt (K : Env) (hK : EnvOk K) (m : Nat) (w : World) (s : St) (es : Array MapEntry) (clock : Nat) (KS : List (Ce × (Option Addr × Nat))) (p : Nat) (x : Nd) (ko : Option Addr) (kc : Nat)
  (h : TW K m w s es clock KS) (hp : p ≤ K.W.length) (f : Nat) (hN : NdC K m f) (hc : Cap f s) (hs : StOk K.G.rules.length K.W.length s) (hov : s.over = false) (hkd : Sv K.base ko x.kids.length kc 1 (inc x.kids)) (hks : ∀ k ∈ x.kids, 0 ≤ k ∧ k < K.G.nodes.length) (hfin : (altR (ev K.G K.W f) p x.kids (-1) s).2.over = false) :
  Calls Try.prog 82 #[.pointer (some ⟨K.g, 0, none⟩), .agg #[.int .i64 7, .int .u64 x.c0, .int .u64 x.c1, .int .u64 x.c2, .int .u64 x.c3, .string x.text, .int .i64 x.rule, .int .i64 x.lev, .slice ko x.kids.length kc], .int .i64 p] w (PEnd K m w (altR (ev K.G K.W f) p x.kids (-1) s)) := by
 have HFin := Lib.hid hfin
 clear hfin
 have HN := Lib.hid hN
 have HC := Lib.hid hc
 have HS := Lib.hid hs
 have HOv := Lib.hid hov
 have HKd := Lib.hid hkd
 have HKs := Lib.hid hks
 have hkb := hkd.bound
 clear hN hc hs hov hkd hks
 have H := Lib.hid h
 have HP := Lib.hid hp
 have hpb : p ≤ 2048 := by have := hK.w2; have := hK.wl; omega
 have hwl := hK.wl
 have hwb := hK.inp.bound
 have hww := hK.w2
 obtain ⟨HB0, HX0, HZ0⟩ := box2 w #[.int .i64 7, .int .u64 x.c0, .int .u64 x.c1, .int .u64 x.c2, .int .u64 x.c3, .string x.text, .int .i64 x.rule, .int .i64 x.lev, .slice ko x.kids.length kc] #[.bool false, .int .i64 0, .int .i64 0, .slice none 0 0] 57 100
 have H1 := Lib.hid (h.below HB0.out)
 have HLo : Hid (K.base.heap.size ≤ w.heap.size) := h.low.size
 clear h hp
 go_enter Try.func82, Try.ntmps82
 go_upto_region 1 with (fail)
 revert HB0 HX0 HZ0 H1
 generalize (w.alloc _).alloc _ = w1
 generalize hh0 : w.heap.size + 1 = h0
 generalize hhx : w.heap.size = hx
 intro HB0 HX0 HZ0 H1
 have HH0 : Hid (w.heap.size = hx ∧ hx + 1 = h0) := ⟨hhx, by omega⟩
 have HB1 : Hid (Below w.heap.size w w1) := by rw [hhx]; exact HB0.out
 clear HB0 hh0 hhx
 obtain ⟨x0, x1, x2, x3, x4, x5, x6, x7, x8⟩ := (HX0.out).c9
 have HI0 : Hid (PAltI K m f w (fun s' => altR (ev K.G K.W f) p (x.kids.drop 0) (-1) s') (altR (ev K.G K.W f) p x.kids (-1) s) h0 hx #[.int .i64 7, .int .u64 x.c0, .int .u64 x.c1, .int .u64 x.c2, .int .u64 x.c3, .string x.text, .int .i64 x.rule, .int .i64 x.lev, .slice ko x.kids.length kc] w1) :=
  ⟨s, es, clock, KS, HZ0.out, HX0.out, H1.out, PF.below HB1.out, rfl, HS.out, HC.out, HOv.out⟩
 clear HB1 HZ0 HX0 H1 H HS HC HOv
 generalize altR (ev K.G K.W f) p x.kids (-1) s = Z at *
 go_wp2_with fail
 go_loopw [7, 14] (fun fa i wr => ∃ (k : Nat) (far : Int), k ≤ x.kids.length ∧ i = .int .i64 k ∧ fa = .int .i64 far ∧ Hid (-1 ≤ far ∧ far ≤ K.W.length) ∧ Hid (PAltI K m f w (fun s' => altR (ev K.G K.W f) p (x.kids.drop k) far s') Z h0 hx #[.int .i64 7, .int .u64 x.c0, .int .u64 x.c1, .int .u64 x.c2, .int .u64 x.c3, .string x.text, .int .i64 x.rule, .int .i64 x.lev, .slice ko x.kids.length kc] wr)) (fun _ i _ => x.kids.length - (intOf i).toNat)
 case atStart => exact ⟨0, -1, by omega, rfl, rfl, ⟨by decide, by omega⟩, HI0.out⟩
 case round =>
  obtain ⟨k, far, hkl, rfl, rfl, HFa, HI⟩ := hrel
  clear x0 x1 x2 x3 x4 x5 x6 x7 x8 HI0
  by_cases hit : k < x.kids.length
  ·have hit' : (k : Int) < x.kids.length := by omega
   have hkz : (0 : Int) ≤ k := by omega
   obtain ⟨s', es', clock', KS', i2, i3, i4, i6, i7, i8, i11, i13⟩ := HI.out
   clear HI
   simp only [] at i7
   have HZ := Lib.hid i2
   have HX := Lib.hid i3
   have HW := Lib.hid i4
   have HF := Lib.hid i6
   have HQ := Lib.hid i7
   have HSt := Lib.hid i8
   have HCp := Lib.hid i11
   have HOv := Lib.hid i13
   have HKo := Lib.hid (alt_step hK hit HKs.out i8 HP.out HFa.out.1 HFa.out.2 i7 HFin.out)
   clear i2 i3 i4 i6 i7 i8 i11 i13
   obtain ⟨kb, rfl, hkc⟩ := HKd.out.cell k (by simp [inc]; omega)
   have hkc' : K.base.cell? (kb.add k) = some (.int .i64 (x.kids[k]'hit)) := by rw [hkc]; simp [inc, hit]
   have hkd := (HW.out.low.cell (World.block_lt_of_cell? _ _ hkc')).trans hkc'
   have hkr := HKs.out _ (List.getElem_mem hit)
   have HQ2 := Lib.hid ((altR_drop hit _ _).symm.trans HQ.out)
   clear HQ hkc hkc'
   generalize x.kids[k]'hit = q at *
   obtain ⟨n, rfl⟩ : ∃ n : Nat, q = n := ⟨q.toNat, by omega⟩
   simp only [Int.toNat_natCast] at HQ2 HKo
   have HPo := Lib.hid (ev_ok (W := K.W) hK.ok f s' n p HSt.out (by omega) HP.out)
   have HCl := Lib.hid (HN.out wr s' es' clock' KS' n p HW.out HCp.out HSt.out HOv.out (by omega) HP.out HKo.out)
   clear hkr
   generalize ev K.G K.W f s' n p = o at *
   obtain ⟨⟨xi, xe, xf, xt, xr⟩, s2⟩ := o
   simp only [] at HQ2 HKo
   go_upto_region 6 with (go_at_call 55; refine (HCl.out).mono ?_; rintro e w3 ⟨es3, clock3, KS3, o3, c3, rfl, g1, g2, g3⟩; simp only [gtv, gcs] at g1 g2 ⊢; have G1 := Lib.hid g1; have G2 := Lib.hid g2; have G3 := Lib.hid (PF.trans HF.out g3); have GZ := Lib.hid (hrow.pf HW.out g3 HZ.out (by decide)); have GX := Lib.hid (hrow.pf HW.out g3 HX.out (by decide)); clear g1 g2 g3)
   obtain ⟨HAl, H10⟩ := box1 w3 #[.bool xi, .int .i64 xe, .int .i64 xf, .slice o3 xt.length c3] 100
   have L1 := Lib.hid (G1.out.below HAl.out)
   have L2 := Lib.hid (G2.out.step (.below HAl.out))
   have L3 := Lib.hid (PF.trans G3.out (PF.below HAl.out))
   have LZ := Lib.hid (GZ.out.below HAl.out)
   have LX := Lib.hid (GX.out.below HAl.out)
   clear G1 G2 G3 GZ GX HAl hkd HZ HX HW HF HCl
   revert H10 L1 L2 L3 LZ LX
   generalize w3.alloc _ = w4
   generalize w3.heap.size = h10
   intro H10 L1 L2 L3 LZ LX
   obtain ⟨e0, e1, e2, e3⟩ := (H10.out).c4
   have hxh : xf ≤ K.W.length := HPo.out.rs.hi
   have HXh := Lib.hid hxh
   have HC2 := Lib.hid (HCp.out.of HPo.out.step HCp.out.top HCp.out.left)
   have HS2 := Lib.hid HPo.out.st
   clear hxh
   have hif : (if far < xf then xf else far) = max far xf := by split <;> omega
   have HTx : Hid (triR ⟨true, xe, xf, xt, xr⟩ (max far xf) = ⟨true, xe, max far xf, xt, xr⟩) := by
    show triR _ _ = _
    simp only [triR]
    congr 1
    omega
   have HFb : Hid (-1 ≤ max far xf ∧ max far xf ≤ K.W.length) := by have h1 := HFa.out; have h2 := HXh.out; unfold Hid; omega
   generalize max far xf = mx at *
   cases xi
   ·have HQ3 := Lib.hid ((if_neg Bool.false_ne_true).symm.trans HQ2.out)
    clear HQ2
    go_wp2_with fail
    go_roundw
    case rel => exact ⟨k + 1, mx, by omega, by go_num, rfl, HFb.out, ⟨s2, es3, clock3, KS3, LZ.out, LX.out, L1.out, L3.out, HQ3.out, HS2.out, HC2.out, HKo.out⟩⟩
    case measure => simp [intOf]; omega
   ·have HQ3 := Lib.hid ((if_pos rfl).symm.trans HQ2.out)
    clear HQ2
    have HTr := Lib.hid (ptried_any w4 ⟨true, xe, xf, xt, xr⟩ o3 c3 mx)
    go_wp2_with fail
    refine (HTr.out).mono ?_
    rintro e w6 ⟨rfl, hb6⟩
    rw [HTx.out]
    simp only [gtv, gcs] at HQ3 ⊢
    have HZ6 := Lib.hid (LZ.out.below hb6)
    have HW6 := Lib.hid (L1.out.below hb6)
    have HT6 := Lib.hid (L2.out.step (.below hb6))
    have HF6 := Lib.hid (PF.trans L3.out (PF.below hb6))
    clear hb6
    obtain ⟨zq0, zq1, zq2, zq3⟩ := (HZ6.out).c4
    obtain ⟨zf0, zf1, zf2, zf3⟩ := (HZ6.out).f4
    obtain ⟨ZR4, ZF4⟩ := set4_box (.bool true) (.int .i64 xe) (.int .i64 mx) (.slice o3 xt.length c3) (HZ6.out)
    go_wp2_with fail
    revert ZR4 ZF4
    generalize (((w6.setCell _ _).setCell _ _).setCell _ _).setCell _ _ = wz
    intro ZR4 ZF4
    obtain ⟨zc0, zc1, zc2, zc3⟩ := (ZR4.out).c4
    exact bodyPost_ret (v := .agg #[.bool true, .int .i64 xe, .int .i64 mx, .slice o3 xt.length c3]) (by simp [results, Try.results82, go_sem, zc0, zc1, zc2, zc3]) rfl (by rw [← HQ3.out]; exact ⟨es3, clock3, KS3, o3, c3, rfl, TW.boxed (HW6.out) HZ6.out (by have := HH0.out; have := HLo.out; omega) ZF4.out, TrW.gbox (HT6.out) HZ6.out ZF4.out, PF.new (HF6.out) ZF4.out (fun k e => by have e' : k = h0 := e; have := HH0.out; omega)⟩)
  ·have hge : (x.kids.length : Int) ≤ k := by omega
   obtain ⟨s', es', clock', KS', i2, i3, i4, i6, i7, i8, i11, i13⟩ := HI.out
   simp only [] at i7
   rw [List.drop_eq_nil_of_le (by omega)] at i7
   have HZ := Lib.hid i2
   have HW := Lib.hid i4
   have HF := Lib.hid i6
   have HQ3 : Hid ((failR far, s') = Z) := i7
   clear i2 i3 i4 i6 i7 i8 i11 i13 HI
   go_wp2_with fail
   refine (pmiss_any wr far).mono ?_
   rintro e w6 ⟨rfl, hb6⟩
   simp only [gtv, gcs, failR, List.length_nil] at HQ3 ⊢
   have HZ6 := Lib.hid (HZ.out.below hb6)
   have HW6 := Lib.hid (HW.out.below hb6)
   have HF6 := Lib.hid (PF.trans HF.out (PF.below hb6))
   clear hb6
   obtain ⟨zq0, zq1, zq2, zq3⟩ := (HZ6.out).c4
   obtain ⟨zf0, zf1, zf2, zf3⟩ := (HZ6.out).f4
   obtain ⟨ZR4, ZF4⟩ := set4_box (.bool false) (.int .i64 0) (.int .i64 far) (.slice none 0 0) (HZ6.out)
   go_wp2_with fail
   revert ZR4 ZF4
   generalize (((w6.setCell _ _).setCell _ _).setCell _ _).setCell _ _ = wz
   intro ZR4 ZF4
   obtain ⟨zc0, zc1, zc2, zc3⟩ := (ZR4.out).c4
   exact bodyPost_ret (v := .agg #[.bool false, .int .i64 0, .int .i64 far, .slice none 0 0]) (by simp [results, Try.results82, go_sem, zc0, zc1, zc2, zc3]) rfl (by rw [← HQ3.out]; exact ⟨es', clock', KS', none, 0, rfl, TW.boxed (HW6.out) HZ6.out (by have := HH0.out; have := HLo.out; omega) ZF4.out, TrW.gbox (TrW.nil _) HZ6.out ZF4.out, PF.new (HF6.out) ZF4.out (fun k e => by have e' : k = h0 := e; have := HH0.out; omega)⟩)
end Go.Proofs.Ytdnkffplkleolaa
