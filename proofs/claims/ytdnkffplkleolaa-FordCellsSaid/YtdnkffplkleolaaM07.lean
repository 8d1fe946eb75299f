/- Walks and plain laws: Le Kh Ki Lf Lh. -/
import Derived.Test.YtdnkffplkleolaaM06
import Derived.Test.YtdnkffplkleolaaM05
import Derived.OneCell
import Derived.Deep.RegionLaw
import Derived.BigCall
namespace Go.Proofs.Ytdnkffplkleolaa
open Go.RowKit
set_option maxRecDepth 100000

theorem Mk.since {w w1 w' : World} {N : List Nd} {e : Ending} (h : Mk w1 N e w') (hb : Below w.heap.size w w1) : Mk w N e w' := by
 obtain ⟨v, NL, rfl, h1, h2, h3⟩ := h
 exact ⟨v, NL, rfl, h1.mono hb.size, h2, hb.trans (h3.mono hb.size)⟩
theorem Bw.lit (w : World) (bs : List (Value × List Nd)) (n : Nat) (hn : bs.length = n) (hl : n ≤ 1000) (ha : ∀ p ∈ bs, Ar w p.1 p.2) (ho : ∀ p ∈ bs, okN p.2) : Bw (w.alloc (.cells (bs.map (·.1)).toArray 23)) (some ⟨w.heap.size, 0, none⟩) n bs := by
 subst hn
 refine ⟨?_, fun p hp => (ha p hp).below ((Below.refl _ _).alloc (Nat.le_refl _) _), ho⟩
 have := Sv.lit w 23 (bs.map (·.1)).toArray bs.length 1 (by simp only [maxLen]; omega) (by simp)
 simpa using this

theorem in_any (w : World) (kd : Int) (v : Value) (N : List Nd) (ha : Ar w v N) (hN : okN N) : Calls Try.prog 27 #[.int .i64 kd, v] w (Mk w (ofN kd [N])) := by
 have HO := Lib.hid (of_any' (w.alloc (.cells #[v] 23)) kd (some ⟨w.heap.size, 0, none⟩) 1 [(v, N)] (Bw.lit w [(v, N)] 1 rfl (by decide) (by simpa using ha) (by simpa using hN)) (by simp))
 obtain ⟨o, c, NK, rfl, _, _⟩ := ha
 have HB := Lib.hid ((Below.refl w.heap.size w).alloc (Nat.le_refl _) (.cells #[.slice o N.length c] 23))
 go_enter Try.func27, Try.ntmps27
 go_wp2_with (go_at_call 29; refine (HO.out).mono ?_; rintro e w1 hm; obtain ⟨v, NL, rfl, h1, h2, h3⟩ := hm.since HB.out)
 go_ret
 exact ⟨v, NL, rfl, h1, h2, h3⟩

def bs2 (a b : List Nd) (va vb : Value) : List (Value × List Nd) := [(va, a), (vb, b)]
theorem bw2 (w : World) (va vb : Value) (a b : List Nd) (ha : Ar w va a) (hb : Ar w vb b) (h1 : okN a) (h2 : okN b) : Bw (w.alloc (.cells #[va, vb] 23)) (some ⟨w.heap.size, 0, none⟩) 2 (bs2 a b va vb) :=
 Bw.lit w (bs2 a b va vb) 2 rfl (by decide) (by simp [bs2, ha, hb]) (by simp [bs2, h1, h2])
theorem chain_any (w : World) (va vb : Value) (a b : List Nd) (ha : Ar w va a) (hb : Ar w vb b) (h1 : okN a) (h2 : okN b) : Calls Try.prog 26 #[va, vb] w (Mk w (ofN 6 [a, b])) := by
 have HO := Lib.hid (of_any' _ 6 _ 2 _ (bw2 w va vb a b ha hb h1 h2) (by simp [bs2]))
 have HB := Lib.hid ((Below.refl w.heap.size w).alloc (Nat.le_refl _) (.cells #[va, vb] 23))
 obtain ⟨o, c, NK, rfl, _, _⟩ := ha
 obtain ⟨o2, c2, NK2, rfl, _, _⟩ := hb
 go_enter Try.func26, Try.ntmps26
 go_wp2_with (go_at_call 29; refine (HO.out).mono ?_; rintro e w1 hm; obtain ⟨v, NL, rfl, h1, h2, h3⟩ := hm.since HB.out)
 go_ret
 exact ⟨v, NL, rfl, h1, h2, h3⟩
theorem first_any (w : World) (va vb : Value) (a b : List Nd) (ha : Ar w va a) (hb : Ar w vb b) (h1 : okN a) (h2 : okN b) : Calls Try.prog 14 #[va, vb] w (Mk w (ofN 7 [a, b])) := by
 have HO := Lib.hid (of_any' _ 7 _ 2 _ (bw2 w va vb a b ha hb h1 h2) (by simp [bs2]))
 have HB := Lib.hid ((Below.refl w.heap.size w).alloc (Nat.le_refl _) (.cells #[va, vb] 23))
 obtain ⟨o, c, NK, rfl, _, _⟩ := ha
 obtain ⟨o2, c2, NK2, rfl, _, _⟩ := hb
 go_enter Try.func14, Try.ntmps14
 go_wp2_with (go_at_call 29; refine (HO.out).mono ?_; rintro e w1 hm; obtain ⟨v, NL, rfl, h1, h2, h3⟩ := hm.since HB.out)
 go_ret
 exact ⟨v, NL, rfl, h1, h2, h3⟩
end Go.Proofs.Ytdnkffplkleolaa
namespace Go.Proofs.Ytdnkffplkleolaa
open Go.RowKit
set_option maxRecDepth 100000
set_option maxHeartbeats 2000000

theorem row9 {w : World} {g : Nat} {t : TypeId} {l : List (Nd × (Option Addr × Nat))} (h : hrow w g (l.flatMap ndc).toArray t) (k : Nat) (hk : k < l.length) :
  w.cell? ⟨g, k * 9, none⟩ = some (.int .i64 l[k].1.kind) ∧ w.cell? ⟨g, k * 9 + 1, none⟩ = some (.int .u64 l[k].1.c0) ∧ w.cell? ⟨g, k * 9 + 2, none⟩ = some (.int .u64 l[k].1.c1) ∧ w.cell? ⟨g, k * 9 + 3, none⟩ = some (.int .u64 l[k].1.c2) ∧ w.cell? ⟨g, k * 9 + 4, none⟩ = some (.int .u64 l[k].1.c3) ∧ w.cell? ⟨g, k * 9 + 5, none⟩ = some (.string l[k].1.text) ∧ w.cell? ⟨g, k * 9 + 6, none⟩ = some (.int .i64 l[k].1.rule) ∧ w.cell? ⟨g, k * 9 + 7, none⟩ = some (.int .i64 l[k].1.lev) ∧ w.cell? ⟨g, k * 9 + 8, none⟩ = some (.slice l[k].2.1 l[k].1.kids.length l[k].2.2) := by
 have e : ∀ j v, j < 9 → (ndc l[k])[j]? = some v → w.cell? ⟨g, k * 9 + j, none⟩ = some v := fun j v hj hv => by
  rw [h.cell, List.getElem?_toArray, fl_get ndc_len l k j hk hj]; exact hv
 exact ⟨e 0 _ (by decide) rfl, e 1 _ (by decide) rfl, e 2 _ (by decide) rfl, e 3 _ (by decide) rfl, e 4 _ (by decide) rfl, e 5 _ (by decide) rfl, e 6 _ (by decide) rfl, e 7 _ (by decide) rfl, e 8 _ (by decide) rfl⟩

end Go.Proofs.Ytdnkffplkleolaa
namespace Go.Proofs.Ytdnkffplkleolaa
open Go.RowKit
set_option maxRecDepth 100000
set_option maxHeartbeats 2000000

/-- A grammar that is lent: rules and nodes in fresh rows, marks behind them, each node's kids in a row of their own. -/
structure Lg (β : Int → Int → Int) (w : World) (g1 g2 : Nat) (NK NL : List (Nd × (Option Addr × Nat))) (G : Gr) : Prop where
 rul : hrow w g1 ((G.rules ++ rmarks β 12).flatMap ruc).toArray 90
 nod : hrow w g2 ((NL ++ nmarks β 12).flatMap ndc).toArray 57
 lt : Lt β g2 w NK NL
theorem Lg.below {β : Int → Int → Int} {w w' : World} {g1 g2 : Nat} {NK NL : List (Nd × (Option Addr × Nat))} {G : Gr} (h : Lg β w g1 g2 NK NL G) (hb : Below w.heap.size w w') : Lg β w' g1 g2 NK NL G :=
 ⟨h.rul.below hb, h.nod.below hb, h.lt.below hb⟩
/-- A lent grammar is a grammar. -/
theorem Lg.gr {β : Int → Int → Int} {w : World} {g1 g2 : Nat} {NK NL : List (Nd × (Option Addr × Nat))} {G : Gr} (h : Lg β w g1 g2 NK NL G) {ro no : Option Addr} {rn rc nn nc : Nat} (hg : GrW w ro rn rc no nn nc NK G) (hr : rn ≤ 100000) (hn : nn ≤ 100000) (hk : ∀ p ∈ NK, p.1.kids.length ≤ 100000) :
  GrW w (some ⟨g1, 0, none⟩) rn (rn + 12) (some ⟨g2, 0, none⟩) nn (nn + 12) NL G := by
 have e1 : (G.rules.flatMap ruc) ++ ((rmarks β 12).flatMap ruc) = (G.rules ++ rmarks β 12).flatMap ruc := by rw [List.flatMap_append]
 have e2 : (NL.flatMap ndc) ++ ((nmarks β 12).flatMap ndc) = (NL ++ nmarks β 12).flatMap ndc := by rw [List.flatMap_append]
 have l1 := hg.rul.n_eq ruc_len (by decide)
 have l2 := hg.nod.sv.n_eq ndc_len (by decide)
 have l3 : NL.length = NK.length := by simpa using congrArg List.length h.lt.eq
 have hx : ∀ p ∈ NL, ∃ q ∈ NK, q.1 = p.1 := fun p hp => by
  have h' : p.1 ∈ NL.map (·.1) := List.mem_map_of_mem hp
  rw [h.lt.eq] at h'
  obtain ⟨q, hq, e⟩ := List.mem_map.1 h'
  exact ⟨q, hq, e⟩
 refine ⟨Sv.of_pre (ys := (rmarks β 12).flatMap ruc) (by rw [e1]; exact h.rul) _ _ _ (by rw [fl_len ruc_len, l1]) (by omega) (by simp only [maxLen]; omega), hg.nam, ⟨Sv.of_pre (ys := (nmarks β 12).flatMap ndc) (by rw [e2]; exact h.nod) _ _ _ (by rw [fl_len ndc_len, l3, l2]) (by omega) (by simp only [maxLen]; omega), ?_, ?_⟩, ?_⟩
 ·intro p hp
  obtain ⟨g, _, e, hr⟩ := h.lt.row p hp
  obtain ⟨q, hq, eq⟩ := hx p hp
  have hb := hk q hq
  rw [eq] at hb
  rw [e]
  have e0 : inc p.1.kids ++ inc (imarks β 12) = inc (p.1.kids ++ imarks β 12) := by simp [inc]
  exact Sv.of_pre (ys := inc (imarks β 12)) (by rw [e0]; exact hr) _ _ _ (by simp [inc]) (by omega) (by simp only [maxLen]; omega)
 ·intro p hp
  obtain ⟨q, hq, eq⟩ := hx p hp
  rw [← eq]; exact hg.nod.txt q hq
 ·rw [h.lt.eq]; exact hg.eq

theorem Lt.frx {β : Int → Int → Int} {B b : Nat} {w w' : World} {NK NL : List (Nd × (Option Addr × Nat))} (h : Lt β B w NK NL) (hf : Fr (fun k => k = b) w w') (hb : b < B) : Lt β B w' NK NL :=
 ⟨h.eq, fun p hp => by obtain ⟨g, h1, h2, h3⟩ := h.row p hp; exact ⟨g, h1, h2, h3.fr hf (fun e => by have e' : g = b := e; omega)⟩⟩
def set2 (w : World) (g : Nat) (x0 x1 : Value) : World := (w.setCell ⟨g, 0, none⟩ x0).setCell ⟨g, 1, none⟩ x1
theorem set2_fr (w : World) (g : Nat) (x0 x1 : Value) : Fr (fun k => k = g) w (set2 w g x0 x1) :=
 (Fr.setCell w ⟨g, 0, none⟩ x0).trans (Fr.setCell _ ⟨g, 1, none⟩ x1) (fun _ _ h => h)
theorem set2_row {w : World} {g : Nat} {a0 a1 : Value} {t : TypeId} (x0 x1 : Value) (h : hrow w g #[a0, a1] t) : hrow (set2 w g x0 x1) g #[x0, x1] t := by
 have k0 : hrow (w.setCell ⟨g, 0, none⟩ x0) g #[x0, a1] t := heap_setCell_same _ _ _ _ _ _ h.h
 have k1 : hrow ((w.setCell ⟨g, 0, none⟩ x0).setCell ⟨g, 1, none⟩ x1) g #[x0, x1] t := heap_setCell_same _ _ _ _ _ _ k0.h
 exact k1

end Go.Proofs.Ytdnkffplkleolaa
namespace Go.Proofs.Ytdnkffplkleolaa
open Go.RowKit
set_option maxRecDepth 100000
set_option maxHeartbeats 2000000

def nmL (i : Nat) : ByteArray := ⟨#[UInt8.ofNat (65 + i)]⟩
def grS (st : List Ru × List Nd) (b : List Nd) : List Ru × List Nd := (st.1 ++ [⟨nmL st.1.length, (st.2.length : Int)⟩], st.2 ++ b.map (mvN (st.2.length : Int)))
def grL (bs : List (List Nd)) : List Ru × List Nd := bs.foldl grS ([], [])
def gramN (bs : List (List Nd)) : Gr := ⟨(grL bs).1, (grL bs).2⟩
theorem grL_snoc (bs : List (List Nd)) (b : List Nd) : grL (bs ++ [b]) = grS (grL bs) b := by simp [grL]
theorem grL_len1 (bs : List (List Nd)) : (grL bs).1.length = bs.length := by
 have := foldl_inv (f := grS) (fun n st => st.1.length = n) (fun n b a h => by simp [grS, h]) bs 0 ([], []) rfl
 simpa [grL] using this
theorem grL_len2 {bs : List (List Nd)} (h : ∀ b ∈ bs, b.length ≤ 5000) : (grL bs).2.length ≤ 5000 * bs.length := by
 unfold grL
 have key : ∀ (l : List (List Nd)) (st : List Ru × List Nd), (∀ b ∈ l, b.length ≤ 5000) → (l.foldl grS st).2.length ≤ st.2.length + 5000 * l.length := by
  intro l
  induction l with
  | nil => intro st _; simp
  | cons b l ih =>
   intro st hb
   have h1 := ih (grS st b) (fun b' hb' => hb b' (by simp [hb']))
   have h2 := hb b (by simp)
   have h3 : (grS st b).2.length = st.2.length + b.length := by simp [grS]
   simp only [List.foldl_cons, List.length_cons]
   omega
 simpa using key bs ([], []) h
theorem elemRu : Elem Try.prog 22 90 2 24 (.agg #[.string es0, .int .i64 0]) := ⟨by kernel_rfl, by kernel_rfl, rfl, by decide⟩
theorem owns_hrow {w : World} {B : Nat} {e t : TypeId} {s n g k : Nat} {v : Value} {xs : List Value} {cs : Array Value} (h : w.ownsRow B e s v n xs) (hk : v.ownBlock = some k) (hr : hrow w g cs t) (he : e ≠ t) : k ≠ g := by
 rintro rfl
 rcases h.2 with ⟨rfl, _⟩ | ⟨g1, c1, cur1, rfl, _, h1, _⟩
 ·cases hk
 ·simp only [Value.ownBlock, Option.some.injEq] at hk; subst hk
  rw [hr.h] at h1; cases h1; exact he rfl
theorem hrow_appTo {w w' : World} {B : Nat} {e t : TypeId} {s n m g : Nat} {v v1 : Value} {xs ys : List Value} {cs : Array Value} (hr : hrow w g cs t) (h : w.ownsRow B e s v n xs) (he : e ≠ t) (hA : AppTo w B e s v n xs m ys v1 w') : hrow w' g cs t := by
 rcases hA with ⟨gk, cap', e1, e2, hf, ho, ho'⟩ | ho
 ·exact hr.fr hf (fun e3 => owns_hrow h (by rw [e1]; rfl) hr he e3.symm)
 ·exact hr.below ho.2
theorem owns_set {w : World} {B : Nat} {e t : TypeId} {s n g : Nat} {v : Value} {xs : List Value} {cs : Array Value} (h : w.ownsRow B e s v n xs) (hr : hrow w g cs t) (he : e ≠ t) (j : Nat) (u : Value) : (w.setCell ⟨g, j, none⟩ u).ownsRow B e s v n xs :=
 ownsRow_setCell_other h (fun e3 => owns_hrow h e3 hr he rfl) u
theorem Cn.set {B : Nat} {w : World} {v : Value} {NL : List (Nd × (Option Addr × Nat))} {g : Nat} {cs : Array Value} {t : TypeId} (h : Cn B w v NL) (hr : hrow w g cs t) (h1 : 57 ≠ t) (h2 : 3 ≠ t) (j : Nat) (u : Value) : Cn B (w.setCell ⟨g, j, none⟩ u) v NL :=
 ⟨owns_set h.own hr h1 j u, fun p hp => owns_set (h.kids p hp) hr h2 j u, h.ap⟩
theorem Cn.appTo {w w' : World} {B B' : Nat} {e : TypeId} {s n m : Nat} {v v0 v1 : Value} {xs ys : List Value} {NL : List (Nd × (Option Addr × Nat))} (h : Cn B w v0 NL) (h' : w.ownsRow B' e s v n xs) (h1 : e ≠ 57) (h2 : e ≠ 3) (hA : AppTo w B' e s v n xs m ys v1 w') : Cn B w' v0 NL :=
 ⟨owns_appTo h.own h' h1 hA, fun p hp => owns_appTo (h.kids p hp) h' h2 hA, h.ap⟩

theorem AppTo.own {w w' : World} {B e s n m : Nat} {v v' : Value} {xs ys : List Value} (h : AppTo w B e s v n xs m ys v' w') (hB : B ≤ w.heap.size) : w'.ownsRow B e s v' (n + m) (xs ++ ys) := by
 rcases h with ⟨g, cap, e1, e2, hf, ho, ho'⟩ | ho
 ·exact ho
 ·exact ho.1.mono hB
theorem AppTo.form {w w' : World} {B e s n m : Nat} {v v' : Value} {xs ys : List Value} (h : AppTo w B e s v n xs m ys v' w') : ∃ o c, v' = .slice o (n + m) c := by
 rcases h with ⟨g, cap, e1, e2, hf, ho, ho'⟩ | ho
 ·exact ⟨_, _, e2⟩
 ·obtain ⟨o', c', e, _⟩ := ho.sv; exact ⟨o', c', e⟩
/-- append at a step of a region that draws: in place or anew. -/
theorem wp_appf {P : Program} (wr : World) (base : Nat) {o : Oper} {a : Act} {K : Act → World → Prop} {Q : Exit → Act → World → Prop} (s x : Operand) (t e : TypeId) {size bytes : Nat} {z : Value}
  (ho : o.op = .call { callee := .builtin .append, args := #[s, x], argTypes := #[t, t] }) (he : Elem P t e size bytes z)
  (v : Value) (n : Nat) (xs : List Value) (hs : a.eval s = v) (hO : wr.ownsRow base e size v n xs) (ao : Option Addr) (m cap : Nat) (ys : List Value) (hx : a.eval x = .slice ao m cap) (hsl : Sv wr ao m cap size ys) (h1 : ∀ u ∈ ys, u.oneCell' = true)
  (hm : 0 < m) (hlen : (n + m) * bytes ≤ 140737488355328 ∧ n + m ≤ maxLen)
  (h : ∀ v' w', AppTo wr base e size v n xs m ys v' w' → K (a.put o.dst v') w') : o.wp P a wr K Q := by
 have hl := hsl.len
 have : 0 < m * size := Nat.mul_pos hm he.pos
 obtain ⟨ad, rfl, _⟩ := hsl.cell 0 (by omega)
 obtain ⟨v', w', hr, h2⟩ := run_append_fine (P := P) wr base t o.type e he v n xs hO ad m cap ys hl (fun j u hj => by
  obtain ⟨ad', h, hc⟩ := hsl.cell j (List.getElem?_eq_some_iff.1 hj).1
  cases h
  exact hc.trans hj) h1 hm hlen.2 hlen.1
 unfold Oper.wp execOp
 simp only [ho, resolve, invoke, builtin, Sem.run_bind, Sem.run_pure, Result.andThen_ok, List.map_toArray, List.map_cons, List.map_nil, hs, hx, hr]
 exact h v' w' h2

theorem step_appf {P : Program} {ops : Array Oper} (wr : World) (base : Nat) {o : Oper} {a : Act} {K : Act → World → Prop} {Q : Exit → Act → World → Prop} {E : Prop} (hgd : o.guard = none) (s x : Operand) (t e : TypeId) {size bytes : Nat} {z : Value}
  (ho : o.op = .call { callee := .builtin .append, args := #[s, x], argTypes := #[t, t] }) (he : Elem P t e size bytes z)
  (v : Value) (n : Nat) (xs : List Value) (hs : a.eval s = v) (hO : wr.ownsRow base e size v n xs) (ao : Option Addr) (m cap : Nat) (ys : List Value) (hx : a.eval x = .slice ao m cap) (hsl : Sv wr ao m cap size ys) (h1 : ∀ u ∈ ys, u.oneCell' = true)
  (hm : 0 < m) (hlen : (n + m) * bytes ≤ 140737488355328 ∧ n + m ≤ maxLen)
  (h : ∀ v' w', AppTo wr base e size v n xs m ys v' w' → K (a.put o.dst v') w') : if Region.wanted o (yielded ops a.tmps) = true then Oper.wp P o a wr K Q else E := by
 have hw : Region.wanted o (yielded ops a.tmps) = true := by simp [Region.wanted, hgd]
 rw [if_pos hw]
 exact wp_appf wr base s x t e ho he v n xs hs hO ao m cap ys hx hsl h1 hm hlen h

/-- A call of a Go function at a step of a region that draws. -/
theorem step_call {P : Program} {ops : Array Oper} {o : Oper} {a : Act} {w : World} {K : Act → World → Prop} {Q : Exit → Act → World → Prop} {E : Prop} {R : Ending → World → Prop} (hgd : o.guard = none) (f : FuncId) (xs : List Operand) (ats : Array TypeId)
  (ho : o.op = .call { callee := .value (.func f), args := xs.toArray, argTypes := ats }) (vs : List Value) (hx : xs.map a.eval = vs) (hcf : (callFunc f vs.toArray).run P w = .ok (.enter f vs.toArray) w) (hC : Calls P f vs.toArray w R)
  (h : ∀ e w', R e w' → ∃ v, e = .returned v ∧ K (a.put o.dst v) w') : if Region.wanted o (yielded ops a.tmps) = true then Oper.wp P o a w K Q else E := by
 have hw : Region.wanted o (yielded ops a.tmps) = true := by simp [Region.wanted, hgd]
 rw [if_pos hw]
 obtain ⟨dst, op, ty, pos, after, guard⟩ := o
 simp only at ho hgd h
 subst ho
 unfold Oper.wp
 have hx' : #[] ++ xs.toArray.map a.eval ++ #[] = vs.toArray := by simp [hx]
 rw [execOp_call_go, hx', hcf, Oper.upon_enter]
 refine hC.mono fun e w' hr => ?_
 obtain ⟨v, rfl, hk⟩ := h e w' hr
 exact hk

/-- The grammar while it is made. -/
structure Gm (w0 w : World) (h : Nat) (bs : List (List Nd)) (rv nv : Value) (NL : List (Nd × (Option Addr × Nat))) : Prop where
 obj : hrow w h #[rv, nv] 25
 rul : w.ownsRow w0.heap.size 90 2 rv bs.length ((grL bs).1.flatMap ruc)
 nod : Cn w0.heap.size w nv NL
 eq : NL.map (·.1) = (grL bs).2
 low : Below w0.heap.size w0 w

theorem gram_any (w : World) (ao : Option Addr) (cap : Nat) (bs : List (Value × List Nd)) (hb : Bw w ao cap bs) (hl : bs.length ≤ 15) :
  Calls Try.prog 13 #[.slice ao bs.length cap] w fun r w' => ∃ rv nv NL, r = .returned (.agg #[rv, nv]) ∧ w'.ownsRow w.heap.size 90 2 rv bs.length ((grL (bs.map (·.2))).1.flatMap ruc) ∧ Cn w.heap.size w' nv NL ∧ NL.map (·.1) = (grL (bs.map (·.2))).2 ∧ Below w.heap.size w w' := by
 have hcb := hb.sv.bound
 have HBw := Lib.hid hb
 clear hb
 have HB0 := Lib.hid (al2 (Below.refl w.heap.size w) (.cells #[.slice none 0 0, .slice none 0 0] 25) (.cells #[.slice none 0 0, .slice none 0 0] 25))
 have HA0 := Lib.hid ((hrow.new w #[.slice none 0 0, .slice none 0 0] 25).below ((Below.refl _ _).alloc (Nat.le_refl _) (.cells #[.slice none 0 0, .slice none 0 0] 25)))
 have HZ0 : Hid (hrow ((w.alloc (.cells #[.slice none 0 0, .slice none 0 0] 25)).alloc (.cells #[.slice none 0 0, .slice none 0 0] 25)) (w.heap.size + 1) #[.slice none 0 0, .slice none 0 0] 25) := by have h := hrow.new (w.alloc (.cells #[.slice none 0 0, .slice none 0 0] 25)) #[.slice none 0 0, .slice none 0 0] 25; rwa [World.size_alloc] at h
 go_enter Try.func13, Try.ntmps13
 go_upto_region 2 with (fail)
 revert HB0 HA0 HZ0
 generalize (w.alloc _).alloc _ = w1
 generalize hh1 : w.heap.size + 1 = h1
 generalize hh0 : w.heap.size = h0
 intro HB0 HA0 HZ0
 have HH : Hid (w.heap.size = h0 ∧ h0 + 1 = h1) := ⟨hh0, by omega⟩
 have hne : h0 ≠ h1 := by omega
 have HB1 : Hid (Below w.heap.size w w1) := by rw [hh0]; exact HB0.out
 clear HB0 hh0 hh1
 go_wp2_with fail
 go_loopw [4] (fun i wr => ∃ k : Nat, k ≤ bs.length ∧ i = .int .i64 k ∧ Hid (∃ rv nv NL, hrow wr h0 #[.slice none 0 0, .slice none 0 0] 25 ∧ Gm w wr h1 ((bs.take k).map (·.2)) rv nv NL)) (fun i _ => bs.length - (intOf i).toNat)
 case atStart => exact ⟨0, by omega, rfl, _, _, [], HA0.out, HZ0.out, World.ownsRow_nil _ _ _ _, Cn.nil _ _, rfl, HB1.out⟩
 case round =>
  obtain ⟨k, hk, rfl, hI⟩ := hrel
  clear HA0 HZ0 HB1
  by_cases hlt : k < bs.length
  ·have hlt' : (k : Int) < bs.length := by omega
   obtain ⟨rv, nv, NL, hz, hG⟩ := hI.out
   clear hI
   have hTk : (bs.take (k + 1)).map (·.2) = (bs.take k).map (·.2) ++ [bs[k].2] := by rw [List.take_succ_eq_append_getElem hlt, List.map_append]; rfl
   have hcell : ∀ w', Below w.heap.size w w' → ∃ a, ao = some a ∧ w'.cell? (a.add k) = some bs[k].1 := fun w' hb => by
    obtain ⟨a, ha, hc⟩ := (HBw.out.below hb).sv.cell k (by simpa using hlt)
    exact ⟨a, ha, by rw [hc, List.getElem?_map, List.getElem?_eq_getElem hlt]; rfl⟩
   have har : ∀ w', Below w.heap.size w w' → Ar w' bs[k].1 bs[k].2 := fun w' hb => (HBw.out.ar _ (List.getElem_mem hlt)).below hb
   have hok := HBw.out.ok _ (List.getElem_mem hlt)
   generalize bs[k] = p at *
   obtain ⟨bv, bN⟩ := p
   simp only [] at hTk hcell har hok
   have hst := grL_len1 ((bs.take k).map (·.2))
   have hst2 := grL_len2 (bs := (bs.take k).map (·.2)) (by
    intro b hb
    obtain ⟨p, hp, rfl⟩ := List.mem_map.1 hb
    exact (HBw.out.ok p (List.mem_of_mem_take hp)).1.2)
   have hgl := hG.rul; have hge := hG.eq; have hGl := hG.low; have hGn := hG.nod; have hGo := hG.obj
   have hlk : ((bs.take k).map (·.2)).length = k := by simp; omega
   rw [hlk] at hst hgl hst2
   have hofs : grL ((bs.take (k + 1)).map (·.2)) = grS (grL ((bs.take k).map (·.2))) bN := by rw [hTk, grL_snoc]
   clear hG
   generalize grL ((bs.take k).map (·.2)) = st at *
   obtain ⟨rs, rest⟩ := st
   simp only [] at hst hst2 hgl hge hofs
   obtain ⟨ro, rc, e1, hs1⟩ := Sv.of_owns hgl
   subst e1
   obtain ⟨no, nc, n, hn, e2, hs2⟩ : ∃ no nc n, n = NL.length ∧ nv = .slice no n nc ∧ Sv wr no n nc 9 (NL.flatMap ndc) := by
    obtain ⟨o, c, e, h⟩ := Sv.of_owns hGn.own; exact ⟨o, c, _, rfl, e, h⟩
   subst e2
   have hlM : NL.length = rest.length := by rw [← hge]; simp
   have hn5 : n ≤ 75000 := by omega
   have hcr := hs1.bound
   have hcn := hs2.bound
   have HZ := Lib.hid hz; have HOb := Lib.hid hGo; have HRu := Lib.hid hgl; have HNd := Lib.hid hGn; have HM := Lib.hid hge; have HB := Lib.hid hGl
   have HOf := Lib.hid hofs; have HCl := Lib.hid hcell; have HAr := Lib.hid har; have HOk := Lib.hid hok; have HLM := Lib.hid hlM; have HN := Lib.hid hn; have HRs := Lib.hid hst
   clear hz hGo hgl hGn hge hGl hofs hcell har hok hlM hn hst hst2 hs1 hs2 hTk
   obtain ⟨b0, b1⟩ := (HOb.out).c2
   have b0f : wr.frozen? ⟨h1, 0, none⟩ = false := HOb.out.frozen 0
   have hcv : (convert 26 9 (.slice (some ⟨wr.heap.size, 0, none⟩) 1 1)).run Try.prog (wr.alloc (.cells #[.int .u8 (65 + (k : Int))] 5)) = .ok (.string (nmL k)) (wr.alloc (.cells #[.int .u8 (65 + (k : Int))] 5)) := by
    refine run_convert_bytes_back (l := [UInt8.ofNat (65 + k)]) _ _ _ 5 ⟨wr.heap.size, 0, none⟩ 1 (by kernel_rfl) (by kernel_rfl) (by kernel_rfl) (fun j hj => ?_)
    have hj0 : j = 0 := by simp at hj; omega
    subst hj0
    have h := (hrow.new wr #[.int .u8 (65 + (k : Int))] 5).cell 0
    have hu : ((UInt8.ofNat (65 + k)).toNat : Int) = 65 + (k : Int) := by
     have h2 : (UInt8.ofNat (65 + k)).toNat = (65 + k) % 256 := UInt8.toNat_ofNat' ..
     rw [h2]; omega
    show (wr.alloc _).cell? ⟨wr.heap.size, 0, none⟩ = _
    rw [h]
    show some (Value.int .u8 (65 + (k : Int))) = some (Value.int .u8 ((UInt8.ofNat (65 + k)).toNat : Int))
    rw [hu]
   have ha1 := (Below.refl wr.heap.size wr).alloc (Nat.le_refl _) (.cells #[.int .u8 (65 + (k : Int))] 5)
   have ha2 := ha1.alloc (by simp) (.cells #[.string (nmL k), .int .i64 (n : Int)] 90)
   have HOb2 := Lib.hid (HOb.out.below ha2)
   have HZ2 := Lib.hid (HZ.out.below ha2)
   have HRu2 := Lib.hid (owns_fr HRu.out (Fr.of_below (F := fun _ => False) ha2) (fun _ _ h => h))
   have HNd2 := Lib.hid (HNd.out.below ha2)
   have HB2 := Lib.hid (HB.out.trans (ha2.mono HB.out.size))
   have HS2 : Hid (Sv ((wr.alloc (.cells #[.int .u8 (65 + (k : Int))] 5)).alloc (.cells #[.string (nmL k), .int .i64 (n : Int)] 90)) (some ⟨wr.heap.size + 1, 0, none⟩) 1 1 2 [.string (nmL k), .int .i64 (n : Int)]) := by
    have h := Sv.lit (wr.alloc (.cells #[.int .u8 (65 + (k : Int))] 5)) 90 #[.string (nmL k), .int .i64 (n : Int)] 1 2 (by decide) rfl
    rw [World.size_alloc] at h; exact h
   have HO2 := Lib.hid (ruc_one [⟨nmL k, (n : Int)⟩])
   have HLn : Hid ((k + 1) * 24 ≤ 140737488355328 ∧ k + 1 ≤ maxLen) := ⟨by omega, by simp only [maxLen]; omega⟩
   have HBf : Hid (∀ v' w', AppTo ((wr.alloc (.cells #[.int .u8 (65 + (k : Int))] 5)).alloc (.cells #[.string (nmL k), .int .i64 (n : Int)] 90)) w.heap.size 90 2 (.slice ro k rc) k (rs.flatMap ruc) 1 [.string (nmL k), .int .i64 (n : Int)] v' w' → (∃ o' c', v' = .slice o' (k + 1) c') ∧ w'.cell? ⟨h1, 0, none⟩ = some (.slice ro k rc) ∧ w'.frozen? ⟨h1, 0, none⟩ = false) := fun v' w' hA => by
    have ho2 := hrow_appTo HOb2.out HRu2.out (by decide) hA
    refine ⟨?_, ho2.cell 0, ho2.frozen 0⟩
    rcases hA with ⟨gk, cap', e1, e2, _⟩ | ho
    ·exact ⟨_, _, e2⟩
    ·obtain ⟨o', c', e, _⟩ := ho.sv; exact ⟨o', c', e⟩
   clear HOb HZ HRu HNd HB ha1 ha2
   go_upto_region 7 with (at_builtin; refine wpList_appf _ w.heap.size rfl _ _ 22 90 rfl elemRu _ k _ rfl HRu2.out _ 1 1 _ rfl HS2.out HO2.out (by decide) HLn.out ?_; intro v8 w8 hA; obtain ⟨⟨o', c', rfl⟩, q0, q0f⟩ := HBf.out _ _ hA; have HA := Lib.hid hA; clear hA)
   have HOb3 : Hid (hrow (w8.setCell ⟨h1, 0, none⟩ (.slice o' (k + 1) c')) h1 #[.slice o' (k + 1) c', .slice no n nc] 25) := heap_setCell_same _ _ _ _ _ _ (hrow_appTo HOb2.out HRu2.out (by decide) HA.out).h
   have hob : hrow w8 h1 #[.slice ro k rc, .slice no n nc] 25 := hrow_appTo HOb2.out HRu2.out (by decide) HA.out
   have HZ3 : Hid (hrow (w8.setCell ⟨h1, 0, none⟩ (.slice o' (k + 1) c')) h0 #[.slice none 0 0, .slice none 0 0] 25) := Lib.hid ((hrow_appTo HZ2.out HRu2.out (by decide) HA.out).fr (Fr.setCell w8 ⟨h1, 0, none⟩ _) hne)
   have HRu3 : Hid ((w8.setCell ⟨h1, 0, none⟩ (.slice o' (k + 1) c')).ownsRow w.heap.size 90 2 (.slice o' (k + 1) c') (k + 1) (rs.flatMap ruc ++ [.string (nmL k), .int .i64 (n : Int)])) := Lib.hid (owns_set (HA.out.own HB2.out.size) hob (by decide) 0 _)
   have HNd3 : Hid (Cn w.heap.size (w8.setCell ⟨h1, 0, none⟩ (.slice o' (k + 1) c')) (.slice no n nc) NL) := Lib.hid ((HNd2.out.appTo HRu2.out (by decide) (by decide) HA.out).set hob (by decide) (by decide) 0 _)
   have HB3 : Hid (Below w.heap.size w (w8.setCell ⟨h1, 0, none⟩ (.slice o' (k + 1) c'))) := Lib.hid ((HA.out.below HB2.out (fun b hb => (HRu2.out.lt b hb).1)).setCell (p := ⟨h1, 0, none⟩) (by have := HH.out; show w.heap.size ≤ h1; omega) _)
   clear HOb2 HZ2 HRu2 HNd2 HB2 HS2 HO2 HLn HBf HA q0 q0f hcv b0 b0f b1 hob
   revert HOb3 HZ3 HRu3 HNd3 HB3
   generalize w8.setCell _ _ = w9
   intro HOb3 HZ3 HRu3 HNd3 HB3
   obtain ⟨a, rfl, c0⟩ := HCl.out w9 HB3.out
   have b1 : w9.cell? ⟨h1, 1, none⟩ = some (.slice no n nc) := HOb3.out.cell 1
   have HMv := Lib.hid (moved_any w9.drew bv bN (n : Int) ((HAr.out w9 HB3.out).below (Below.refl _ _).drew) HOk.out (by omega) (by omega))
   have HQ : Hid (∀ w6 e, Mk w9.drew (bN.map (mvN (n : Int))) e w6 → ∃ o2 m c2 ML, e = .returned (.slice o2 m c2) ∧ w6.cell? ⟨h1, 1, none⟩ = some (.slice no n nc) ∧ w6.cell? (a.add k) = some bv ∧ Sv w6 o2 m c2 9 (ML.flatMap ndc) ∧ (0 < m ∧ (n + m) * 96 ≤ 140737488355328 ∧ n + m ≤ maxLen) ∧ ML.length = m ∧ w6.ownsRow w.heap.size 57 9 (.slice no n nc) n (NL.flatMap ndc) ∧
     (∀ v' w', AppTo w6 w.heap.size 57 9 (.slice no n nc) n (NL.flatMap ndc) m (ML.flatMap ndc) v' w' → (∃ o8 c8, v' = .slice o8 (n + m) c8) ∧ w'.cell? (a.add k) = some bv ∧ w'.cell? ⟨h1, 1, none⟩ = some (.slice no n nc) ∧ w'.frozen? ⟨h1, 1, none⟩ = false ∧
      hrow (w'.setCell ⟨h1, 1, none⟩ v') h0 #[.slice none 0 0, .slice none 0 0] 25 ∧ Gm w (w'.setCell ⟨h1, 1, none⟩ v') h1 ((bs.take (k + 1)).map (·.2)) (.slice o' (k + 1) c') v' (NL ++ ML))) := fun w6 e hm => by
    obtain ⟨v10, ML, rfl, hC, hM, hB⟩ := hm
    have hcl : ∀ w', Below w.heap.size w w' → w'.cell? (a.add k) = some bv := fun w' hb => by obtain ⟨a', e, c⟩ := HCl.out w' hb; cases e; exact c
    have hb9 : Below w9.heap.size w9 w6 := (Below.refl _ _).drew.trans hB
    obtain ⟨o2, c2, rfl, hs⟩ := Sv.of_owns hC.own
    have hml : ML.length = bN.length := by have h := congrArg List.length hM; simpa using h
    have hok := HOk.out.1
    have hn6 := HNd3.out.below hb9
    have hno : w6.ownsRow w.heap.size 57 9 (.slice no n nc) n (NL.flatMap ndc) := by have h := hn6.own; rw [← HN.out] at h; exact h
    refine ⟨o2, ML.length, c2, ML, rfl, (HOb3.out.below hb9).cell 1, hcl w6 (HB3.out.trans (hb9.mono HB3.out.size)), hs, ⟨by omega, by omega, by simp only [maxLen]; omega⟩, rfl, hno, fun v' w' hA => ?_⟩
    have ho := hrow_appTo (HOb3.out.below hb9) hno (by decide) hA
    have hb6 := HB3.out.trans (hb9.mono HB3.out.size)
    have hmore : Cn w.heap.size w' v' (NL ++ ML) := by
     refine hn6.more (B2 := w9.heap.size) hC.kids hC.ap HB3.out.size (fun p hp q hq b h1 h2 => ?_) hb6.size (by rw [← HN.out]; exact hA)
     have h3 := ((HNd3.out.kids p hp).lt b h1).2
     have h4 : w9.heap.size ≤ b := ((hC.kids q hq).lt b h2).1
     omega
    refine ⟨hA.form, hcl w' (hA.below hb6 (fun b hb => (hno.lt b hb).1)), ho.cell 1, ho.frozen 1, (hrow_appTo (HZ3.out.below hb9) hno (by decide) hA).fr (Fr.setCell w' ⟨h1, 1, none⟩ _) hne, ?_, ?_, hmore.set ho (by decide) (by decide) 1 _, ?_, ?_⟩
    ·exact heap_setCell_same _ _ _ _ _ _ ho.h
    ·have h6 := owns_fr HRu3.out (Fr.of_below (F := fun _ => False) hb9) (fun _ _ h => h)
     have h7 := owns_set (owns_appTo h6 hno (by decide) hA) ho (by decide) 1 v'
     rw [HOf.out]
     have hl : ((bs.take (k + 1)).map (·.2)).length = k + 1 := by simp; omega
     have hx : (grS (rs, rest) bN).1.flatMap ruc = rs.flatMap ruc ++ [.string (nmL k), .int .i64 (n : Int)] := by
      simp only [grS, List.flatMap_append, HRs.out, ← HLM.out, ← HN.out]; rfl
     rw [hl, hx]; exact h7
    ·rw [HOf.out, List.map_append, HM.out, hM]
     simp only [grS, ← HLM.out, ← HN.out]
    ·exact (hA.below hb6 (fun b hb => (hno.lt b hb).1)).setCell (p := ⟨h1, 1, none⟩) (by have := HH.out; show w.heap.size ≤ h1; omega) _
   have HKp : Hid (∀ (w' : World) (v : Value), w'.cell? (a.add k) = some bv → (w'.setCell ⟨h1, 1, none⟩ v).cell? (a.add k) = some bv) := fun w' v h => by
    obtain ⟨a', e, c⟩ := HCl.out w (Below.refl _ _)
    cases e
    have hlt := World.block_lt_of_cell? _ _ c
    have h0 := HH.out
    rw [World.cell?_setCell_other _ _ _ _ (fun e => by have e2 : h1 = (a.add k).block := congrArg Addr.block e; omega)]; exact h
   have hcf : (callFunc 33 #[bv, .int .i64 (n : Int)]).run Try.prog w9.drew = .ok (.enter 33 #[bv, .int .i64 (n : Int)]) w9.drew := by kernel_rfl
   have HCf := Lib.hid hcf
   clear hcf
   clear HOb3 HZ3 HRu3 HNd3 HB3 HAr HCl HOk HM HRs HLM HOf
   go_region_law (first
     | (refine step_call (by rfl) 33 [.tmp 32, .tmp 33] _ (by rfl) [bv, .int .i64 (n : Int)] (by rfl) HCf.out HMv.out ?_; rintro e w6 hm; obtain ⟨o2, m, c2, ML, rfl, b1, d1, HS, HLn, HMl, HNo, HF⟩ := HQ.out w6 e hm; refine ⟨_, rfl, ?_⟩; have HS := Lib.hid HS; have HLn := Lib.hid HLn; have HNo := Lib.hid HNo; have HF := Lib.hid HF; have HOc := Lib.hid (ndc_one ML); clear hm)
     | (refine step_appf _ w.heap.size (by rfl) (.tmp 28) (.tmp 34) 23 57 rfl elemNo _ n _ (by rfl) HNo.out _ m c2 _ (by rfl) HS.out HOc.out HLn.out.1 HLn.out.2 ?_; intro v8 w11 hA; obtain ⟨⟨o8, c8, rfl⟩, d2, q1, q1f, q2, q3⟩ := HF.out _ _ hA; have HZ := Lib.hid q2; have HG := Lib.hid q3; clear hA q2 q3))
   all_goals
    go_wp2_with fail
    go_roundw
    case rel => exact ⟨k + 1, by omega, by go_num, _, _, _, HZ.out, HG.out⟩
    case measure => simp [intOf]; omega
  ·have hke : k = bs.length := by omega
   subst hke
   obtain ⟨rv, nv, NL, hz, hG⟩ := hI.out
   rw [List.take_of_length_le (Nat.le_refl _)] at hG
   have HG := Lib.hid hG; have HZ := Lib.hid hz
   obtain ⟨ro, rc, e1, _⟩ := Sv.of_owns hG.rul
   obtain ⟨no, nc, e2, _⟩ := Sv.of_owns hG.nod.own
   rw [e1, e2] at HG
   clear hI hG hz e1 e2
   have hl2 : (bs.map (·.2)).length = bs.length := by simp
   rw [hl2] at HG
   obtain ⟨a0, a1⟩ := (HG.out.obj).c2
   obtain ⟨zq0, zq1⟩ := (HZ.out).c2
   obtain ⟨zf0, zf1⟩ := (HZ.out).f2
   have zr := set2_row (.slice ro bs.length rc) (.slice no NL.length nc) HZ.out
   have zb : Below w.heap.size w (set2 wr h0 (.slice ro bs.length rc) (.slice no NL.length nc)) := (HG.out.low.setCell (p := ⟨h0, 0, none⟩) (by have := HH.out; show w.heap.size ≤ h0; omega) _).setCell (p := ⟨h0, 1, none⟩) (by have := HH.out; show w.heap.size ≤ h0; omega) _
   have zo : (set2 wr h0 (.slice ro bs.length rc) (.slice no NL.length nc)).ownsRow w.heap.size 90 2 (.slice ro bs.length rc) bs.length ((grL (bs.map (·.2))).1.flatMap ruc) := by
    have h := HG.out.rul; rw [hl2] at h
    have h1 := owns_set h HZ.out (by decide) 0 (.slice ro bs.length rc)
    have h2 : hrow (wr.setCell ⟨h0, 0, none⟩ (.slice ro bs.length rc)) h0 #[.slice ro bs.length rc, .slice none 0 0] 25 := heap_setCell_same _ _ _ _ _ _ HZ.out.h
    exact owns_set h1 h2 (by decide) 1 _
   have zn : Cn w.heap.size (set2 wr h0 (.slice ro bs.length rc) (.slice no NL.length nc)) (.slice no NL.length nc) NL := by
    have h2 : hrow (wr.setCell ⟨h0, 0, none⟩ (.slice ro bs.length rc)) h0 #[.slice ro bs.length rc, .slice none 0 0] 25 := heap_setCell_same _ _ _ _ _ _ HZ.out.h
    exact (HG.out.nod.set HZ.out (by decide) (by decide) 0 (.slice ro bs.length rc)).set h2 (by decide) (by decide) 1 (.slice no NL.length nc)
   have he := HG.out.eq
   unfold set2 at zr zb zo zn
   have ZR := Lib.hid zr; have ZB := Lib.hid zb; have ZO := Lib.hid zo; have ZN := Lib.hid zn; have HE := Lib.hid he
   clear zr zb zo zn he
   go_wp2_with fail
   revert ZR ZB ZO ZN
   generalize (wr.setCell _ _).setCell _ _ = wz
   intro ZR ZB ZO ZN
   obtain ⟨zc0, zc1⟩ := (ZR.out).c2
   exact bodyPost_ret (v := .agg #[.slice ro bs.length rc, .slice no NL.length nc]) (by simp [results, Try.results13, go_sem, zc0, zc1]) rfl ⟨_, _, NL, rfl, ZO.out, ZN.out, HE.out, ZB.out⟩
end Go.Proofs.Ytdnkffplkleolaa
namespace Go.Proofs.Ytdnkffplkleolaa
open Go.RowKit
set_option maxRecDepth 100000
set_option maxHeartbeats 2000000

theorem Mk.ars {w w' : World} {N : List Nd} {e : Ending} (h : Mk w N e w') (hN : okN N) : ∃ o n c, e = .returned (.slice o n c) ∧ Ar w' (.slice o n c) N ∧ Below w.heap.size w w' := by
 obtain ⟨v, rfl, h1, h2⟩ := h.ar hN
 have h1' := h1
 obtain ⟨o, c, NK, rfl, _⟩ := h1
 exact ⟨o, _, c, rfl, h1', h2⟩
/-- Of, of a row that has just been laid. -/
theorem ofs_any (w : World) (kd : Int) (bs : List (Value × List Nd)) (n : Nat) (hn : bs.length = n) (hl : n ≤ 15) (ha : ∀ p ∈ bs, Ar w p.1 p.2) (ho : ∀ p ∈ bs, okN p.2) :
  Calls Try.prog 29 #[.int .i64 kd, .slice (some ⟨w.heap.size, 0, none⟩) n n] (w.alloc (.cells (bs.map (·.1)).toArray 23)) (Mk w (ofN kd (bs.map (·.2)))) := by
 subst hn
 exact (of_any' _ kd _ _ bs (Bw.lit w bs bs.length rfl (by omega) ha ho) hl).mono fun e w' h => h.since ((Below.refl _ _).alloc (Nat.le_refl _) _)
/-- A grammar's texts are short. -/
def okG (G : Gr) : Prop := (∀ r ∈ G.rules, r.name.size ≤ 5000) ∧ ∀ x ∈ G.nodes, x.text.size ≤ 5000
/-- The grammar G, its rows the call's own. -/
structure Og (B : Nat) (w : World) (ro : Option Addr) (rn rc : Nat) (no : Option Addr) (nn nc : Nat) (NL : List (Nd × (Option Addr × Nat))) (G : Gr) : Prop where
 rul : w.ownsRow B 90 2 (.slice ro rn rc) rn (G.rules.flatMap ruc)
 nod : Cn B w (.slice no nn nc) NL
 eq : NL.map (·.1) = G.nodes
 len : nn = NL.length
theorem Og.below {B : Nat} {w w' : World} {ro no : Option Addr} {rn rc nn nc : Nat} {NL : List (Nd × (Option Addr × Nat))} {G : Gr} (h : Og B w ro rn rc no nn nc NL G) (hb : Below w.heap.size w w') : Og B w' ro rn rc no nn nc NL G :=
 ⟨owns_fr h.rul (Fr.of_below (F := fun _ => False) hb) (fun _ _ h => h), h.nod.below hb, h.eq, h.len⟩
theorem Og.mono {B B' : Nat} {w : World} {ro no : Option Addr} {rn rc nn nc : Nat} {NL : List (Nd × (Option Addr × Nat))} {G : Gr} (h : Og B w ro rn rc no nn nc NL G) (hB : B' ≤ B) : Og B' w ro rn rc no nn nc NL G := ⟨h.rul.mono hB, h.nod.mono hB, h.eq, h.len⟩
theorem Og.set {B : Nat} {w : World} {ro no : Option Addr} {rn rc nn nc : Nat} {NL : List (Nd × (Option Addr × Nat))} {G : Gr} (h : Og B w ro rn rc no nn nc NL G) {g : Nat} {cs : Array Value} (hr : hrow w g cs 25) (j : Nat) (u : Value) : Og B (w.setCell ⟨g, j, none⟩ u) ro rn rc no nn nc NL G :=
 ⟨owns_set h.rul hr (by decide) j u, h.nod.set hr (by decide) (by decide) j u, h.eq, h.len⟩
theorem Og.set2 {B : Nat} {w : World} {ro no : Option Addr} {rn rc nn nc : Nat} {NL : List (Nd × (Option Addr × Nat))} {G : Gr} (h : Og B w ro rn rc no nn nc NL G) {g : Nat} {a0 a1 : Value} (hr : hrow w g #[a0, a1] 25) (x0 x1 : Value) : Og B (Proofs.Ytdnkffplkleolaa.set2 w g x0 x1) ro rn rc no nn nc NL G :=
 (h.set hr 0 x0).set (cs := #[x0, a1]) (heap_setCell_same _ _ _ _ _ _ hr.h) 1 x1
theorem Og.gr {B : Nat} {w : World} {ro no : Option Addr} {rn rc nn nc : Nat} {NL : List (Nd × (Option Addr × Nat))} {G : Gr} (h : Og B w ro rn rc no nn nc NL G) (hG : okG G) : GrW w ro rn rc no nn nc NL G := by
 obtain ⟨ro', rc', e, hs⟩ := Sv.of_owns h.rul
 simp only [Value.slice.injEq, true_and] at e
 obtain ⟨rfl, rfl⟩ := e
 obtain ⟨no', nc', e, hn⟩ := h.nod.ndw (fun p hp => by have := hG.2 p.1 (by rw [← h.eq]; exact List.mem_map_of_mem hp); omega)
 rw [h.len] at e
 simp only [Value.slice.injEq, true_and] at e
 obtain ⟨rfl, rfl⟩ := e
 rw [h.len]
 exact ⟨hs, fun r hr => by have := hG.1 r hr; omega, hn, h.eq⟩
/-- A call answers the grammar G, in memory of its own. -/
def Gk (w : World) (G : Gr) (e : Ending) (w' : World) : Prop := ∃ ro rn rc no nn nc NL, e = .returned (.agg #[.slice ro rn rc, .slice no nn nc]) ∧ Og w.heap.size w' ro rn rc no nn nc NL G ∧ Below w.heap.size w w'
theorem gram_gr (w : World) (bs : List (Value × List Nd)) (n : Nat) (hn : bs.length = n) (hl : n ≤ 15) (ha : ∀ p ∈ bs, Ar w p.1 p.2) (ho : ∀ p ∈ bs, okN p.2) :
  Calls Try.prog 13 #[.slice (some ⟨w.heap.size, 0, none⟩) n n] (w.alloc (.cells (bs.map (·.1)).toArray 23)) (Gk w (gramN (bs.map (·.2)))) := by
 subst hn
 refine (gram_any _ _ _ bs (Bw.lit w bs bs.length rfl (by omega) ha ho) hl).mono ?_
 rintro e w' ⟨rv, nv, NL, rfl, h1, h2, h3, h4⟩
 obtain ⟨ro, rc, rfl, hs⟩ := Sv.of_owns h1
 obtain ⟨no, nc, rfl, hn⟩ := Sv.of_owns h2.own
 exact ⟨ro, _, rc, no, _, nc, NL, rfl, ⟨h1.mono (by simp), h2.mono (by simp), h3, rfl⟩, ((Below.refl _ _).alloc (Nat.le_refl _) _).trans (h4.mono (by simp))⟩

theorem pick_any (w : World) (x n : Int) (h1 : 1 ≤ n) (hn : n ≤ 1000000) : Calls Try.prog 28 #[.int .i64 x, .int .i64 n] w fun r w' => r = .returned (.int .i64 (x % n)) ∧ w = w' := by
 have hd : n ≠ 0 := by omega
 have ht : decide (n < 1) = false := decide_eq_false (by omega)
 have hlt := Int.tmod_lt_of_pos x (show 0 < n by omega)
 have hgt : -n < x.tmod n := by have h := Int.tmod_lt_of_pos (-x) (show 0 < n by omega); rw [Int.neg_tmod] at h; omega
 by_cases hx : x.tmod n < 0
 ·have hr : x % n = x.tmod n + n := by
   have h1 := Int.tmod_eq_emod (a := x) (b := n)
   have h2 := Int.emod_nonneg x hd
   have h3 := Int.emod_lt_of_pos x (show 0 < n by omega)
   split at h1 <;> omega
  rw [hr]
  clear hr
  go_enter Try.func28, Try.ntmps28
  go_wp2_with fail
  go_ret
  exact ⟨rfl, rfl⟩
 ·have hr : x % n = x.tmod n := by
   have h1 := Int.tmod_eq_emod (a := x) (b := n)
   have h2 := Int.emod_nonneg x hd
   have h3 := Int.emod_lt_of_pos x (show 0 < n by omega)
   split at h1 <;> omega
  have hx' : 0 ≤ x.tmod n := by omega
  rw [hr]
  clear hr
  go_enter Try.func28, Try.ntmps28
  go_wp2_with fail
  go_ret
  exact ⟨rfl, rfl⟩

def exG : Gr := gramN [ofN 7 [ofN 6 [wordN ⟨#[97]⟩, callN 0 3], callN 1 0], ofN 10 [wordN ⟨#[98]⟩]]
theorem example_any (w : World) : Calls Try.prog 11 #[] w (Gk w exG) := by
 have HB0 := Lib.hid ((Below.refl w.heap.size w).alloc (Nat.le_refl _) (.cells #[.slice none 0 0, .slice none 0 0] 25))
 have HZ0 := Lib.hid (hrow.new w #[.slice none 0 0, .slice none 0 0] 25)
 go_enter Try.func11, Try.ntmps11
 go_upto_region 1 with (fail)
 revert HB0 HZ0
 generalize w.alloc _ = w1
 generalize hh0 : w.heap.size = h0
 intro HB0 HZ0
 have HH : Hid (w.heap.size = h0) := hh0
 have B0 : Hid (Below w.heap.size w w1) := by rw [hh0]; exact HB0.out
 clear HB0 hh0
 have H0 := Lib.hid HZ0.out
 clear HZ0
 go_wp2_with fail
 refine (word_any _ ⟨#[97]⟩).mono ?_
 rintro e x1 hm
 obtain ⟨o1, n1, c1, rfl, A1, b1⟩ := hm.ars (by show okN (wordN ⟨#[97]⟩); unfold okN; decide +kernel)
 have B1 := Lib.hid (B0.out.trans (b1.mono B0.out.size))
 have H0 := Lib.hid (H0.out.below b1)
 have H1 : Hid (Ar x1 (.slice o1 n1 c1) (wordN ⟨#[97]⟩)) := A1
 clear A1 b1 B0
 go_wp2_with fail
 refine (call_any' _ 0 3).mono ?_
 rintro e x2 hm
 obtain ⟨o2, n2, c2, rfl, A2, b2⟩ := hm.ars (by show okN (callN 0 3); unfold okN; decide +kernel)
 have B2 := Lib.hid (B1.out.trans (b2.mono B1.out.size))
 have H0 := Lib.hid (H0.out.below b2)
 have H1 := Lib.hid (H1.out.below b2)
 have H2 : Hid (Ar x2 (.slice o2 n2 c2) (callN 0 3)) := A2
 clear A2 b2 B1
 go_wp2_with fail
 refine (chain_any _ _ _ _ _ H1.out H2.out (by unfold okN; decide +kernel) (by unfold okN; decide +kernel)).mono ?_
 rintro e x3 hm
 obtain ⟨o3, n3, c3, rfl, A3, b3⟩ := hm.ars (by show okN (ofN 6 [wordN ⟨#[97]⟩, callN 0 3]); unfold okN; decide +kernel)
 have B3 := Lib.hid (B2.out.trans (b3.mono B2.out.size))
 have H0 := Lib.hid (H0.out.below b3)
 have H3 : Hid (Ar x3 (.slice o3 n3 c3) (ofN 6 [wordN ⟨#[97]⟩, callN 0 3])) := A3
 clear A3 b3 B2
 go_wp2_with fail
 refine (call_any' _ 1 0).mono ?_
 rintro e x4 hm
 obtain ⟨o4, n4, c4, rfl, A4, b4⟩ := hm.ars (by show okN (callN 1 0); unfold okN; decide +kernel)
 have B4 := Lib.hid (B3.out.trans (b4.mono B3.out.size))
 have H0 := Lib.hid (H0.out.below b4)
 have H3 := Lib.hid (H3.out.below b4)
 have H4 : Hid (Ar x4 (.slice o4 n4 c4) (callN 1 0)) := A4
 clear A4 b4 B3
 go_wp2_with fail
 refine (first_any _ _ _ _ _ H3.out H4.out (by unfold okN; decide +kernel) (by unfold okN; decide +kernel)).mono ?_
 rintro e x5 hm
 obtain ⟨o5, n5, c5, rfl, A5, b5⟩ := hm.ars (by show okN (ofN 7 [ofN 6 [wordN ⟨#[97]⟩, callN 0 3], callN 1 0]); unfold okN; decide +kernel)
 have B5 := Lib.hid (B4.out.trans (b5.mono B4.out.size))
 have H0 := Lib.hid (H0.out.below b5)
 have H5 : Hid (Ar x5 (.slice o5 n5 c5) (ofN 7 [ofN 6 [wordN ⟨#[97]⟩, callN 0 3], callN 1 0])) := A5
 clear A5 b5 B4
 go_wp2_with fail
 refine (word_any _ ⟨#[98]⟩).mono ?_
 rintro e x6 hm
 obtain ⟨o6, n6, c6, rfl, A6, b6⟩ := hm.ars (by show okN (wordN ⟨#[98]⟩); unfold okN; decide +kernel)
 have B6 := Lib.hid (B5.out.trans (b6.mono B5.out.size))
 have H0 := Lib.hid (H0.out.below b6)
 have H5 := Lib.hid (H5.out.below b6)
 have H6 : Hid (Ar x6 (.slice o6 n6 c6) (wordN ⟨#[98]⟩)) := A6
 clear A6 b6 B5
 go_wp2_with fail
 refine (in_any _ 10 _ _ H6.out (by unfold okN; decide +kernel)).mono ?_
 rintro e x7 hm
 obtain ⟨o7, n7, c7, rfl, A7, b7⟩ := hm.ars (by show okN (ofN 10 [wordN ⟨#[98]⟩]); unfold okN; decide +kernel)
 have B7 := Lib.hid (B6.out.trans (b7.mono B6.out.size))
 have H0 := Lib.hid (H0.out.below b7)
 have H5 := Lib.hid (H5.out.below b7)
 have H7 : Hid (Ar x7 (.slice o7 n7 c7) (ofN 10 [wordN ⟨#[98]⟩])) := A7
 clear A7 b7 B6
 go_wp2_with fail
 refine (gram_gr _ [(.slice o5 n5 c5, ofN 7 [ofN 6 [wordN ⟨#[97]⟩, callN 0 3], callN 1 0]), (.slice o7 n7 c7, ofN 10 [wordN ⟨#[98]⟩])] 2 rfl (by decide) (by simp only [List.mem_cons, List.not_mem_nil, or_false, forall_eq, forall_eq_or_imp]; exact ⟨H5.out, H7.out⟩) (by simp only [List.mem_cons, List.not_mem_nil, or_false, forall_eq, forall_eq_or_imp]; unfold okN; decide +kernel)).mono ?_
 rintro e wg ⟨ro, rn, rc, no, nn, nc, NK, rfl, hg, hb⟩
 have HZg := Lib.hid (H0.out.below hb)
 have HGg := Lib.hid hg
 have HBg := Lib.hid (B7.out.trans (hb.mono B7.out.size))
 clear hg hb
 obtain ⟨zq0, zq1⟩ := (HZg.out).c2
 obtain ⟨zf0, zf1⟩ := (HZg.out).f2
 have zr := set2_row (.slice ro rn rc) (.slice no nn nc) HZg.out
 have zg := (HGg.out.mono (B7.out.size)).set2 HZg.out (.slice ro rn rc) (.slice no nn nc)
 have zf := set2_fr wg h0 (.slice ro rn rc) (.slice no nn nc)
 unfold set2 at zr zf zg
 have ZR := Lib.hid zr
 have ZF := Lib.hid zf
 have HGz := Lib.hid zg
 clear zr zf zg
 go_wp2_with fail
 revert ZR ZF HGz
 generalize (wg.setCell _ _).setCell _ _ = wz
 intro ZR ZF HGz
 obtain ⟨zc0, zc1⟩ := (ZR.out).c2
 exact bodyPost_ret (v := .agg #[.slice ro rn rc, .slice no nn nc]) (by simp [results, Try.results11, go_sem, zc0, zc1]) rfl ⟨ro, rn, rc, no, nn, nc, NK, rfl, HGz.out, HBg.out.trans (ZF.out.below HBg.out.size (fun k hk e => by have e' : k = h0 := e; have := HH.out; omega))⟩
end Go.Proofs.Ytdnkffplkleolaa
