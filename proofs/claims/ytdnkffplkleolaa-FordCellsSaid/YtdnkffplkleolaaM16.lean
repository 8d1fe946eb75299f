/- Walks and plain laws: Rm Mp W3 W6 Ge. -/
import Derived.Test.YtdnkffplkleolaaM13
import Derived.Test.YtdnkffplkleolaaM14
import Derived.Test.YtdnkffplkleolaaM15
import Derived.Test.YtdnkffplkleolaaM01
import Derived.MapKept
import Derived.WideKeyRuns
import Derived.ChangeMaps4
import Derived.ChangeKeysEq
import Derived.Test.YtdnkffplkleolaaM03
import Derived.Maps.Own
import Derived.Deep.RegionHeld3
import Derived.BigQuiet
import Derived.Test.YtdnkffplkleolaaM05
import Derived.Test.YtdnkffplkleolaaM02
namespace Go.Proofs.Ytdnkffplkleolaa
open Go.RowKit

theorem kid_list {R : Nat} {x : Nd} (h : nodeB R x = true) (hk : 8 ≤ x.kind) (hks : ∀ k ∈ x.kids, 0 ≤ k ∧ (k < (2048 : Int))) : ∃ kk : Nat, x.kids = [(kk : Int)] ∧ (x.kids.headD 0).toNat = kk := by
 obtain ⟨k, e, _⟩ := node_one h hk
 have := hks k (by rw [e]; simp)
 refine ⟨k.toNat, by rw [e, Int.toNat_of_nonneg this.1], by rw [e]; rfl⟩

theorem reval_kind (K : Env) (hK : EnvOk K) (f : Nat) (hE : EvC K f) (w : World) (cs : List Ce) (L : Nat) (v : Value) (KS : List (Ce × (Option Addr × Nat))) (n p : Nat) (x : Nd) (h : RW K w ⟨cs, false, L + 1, false⟩ v KS) (hc : L ≤ f ∧ f + 1 ≤ 20000 ∧ cs.length + (L + 1) ≤ 20001)
  (hs : StOk K.G.rules.length K.W.length ⟨cs, false, L, false⟩) (hx : K.G.nodes[n]? = some x) (hp : p ≤ K.W.length) :
  Calls Try.prog 38 #[.pointer (some ⟨K.g, 0, none⟩), .int .i64 n, .int .i64 p] w (REnd K w (kindR (ev K.G K.W f) K.G K.W x p ⟨cs, false, L, false⟩)) := by
 have hno := hK.ok.nod n x hx
 have hkd := node_kind hno
 have hks : ∀ k ∈ x.kids, 0 ≤ k ∧ k < (2048 : Int) := fun k hk => by have := hK.ok.kid n x hx k hk; have := hK.ok.nl; omega
 unfold kindR
 by_cases h1 : x.kind = 1
 ·rw [if_pos h1]; exact rev1 K hK f hE w cs L v KS n p x h hc hs hx h1 hp
 rw [if_neg h1]
 by_cases h2 : x.kind = 2
 ·rw [if_pos h2]
  unfold anyR
  by_cases hl : p < K.W.length
  ·rw [if_pos hl]; exact rev2y K hK f hE w cs L v KS n p x h hc hs hx h2 hp hl
  ·rw [if_neg hl]; exact rev2n K hK f hE w cs L v KS n p x h hc hs hx h2 hp (by omega)
 rw [if_neg h2]
 by_cases h3 : x.kind = 3
 ·rw [if_pos h3]
  unfold setR
  cases hb : K.W[p]? with
  | none => exact rev3e K hK f hE w cs L v KS n p x h hc hs hx h3 hp (by have := List.getElem?_eq_none_iff.1 hb; omega)
  | some b =>
   simp only []
   have hcl := hK.ok.cls x (List.mem_of_getElem? hx)
   rw [hasB_inW hcl]
   cases hi : inW (wo x) b with
   | true => rw [if_pos rfl]; exact rev3y K hK f hE w cs L v KS n p x h hc hs hx h3 hp b hb hi
   | false => rw [if_neg Bool.false_ne_true]; exact rev3n K hK f hE w cs L v KS n p x h hc hs hx h3 hp b hb hi
 rw [if_neg h3]
 by_cases h4 : x.kind = 4
 ·rw [if_pos h4]; exact rev4 K hK f hE w cs L v KS n p x h hc hs hx h4 hp
 rw [if_neg h4]
 by_cases h5 : x.kind = 5
 ·rw [if_pos h5]
  have := node_call hno h5
  exact rev5 K hK f hE w cs L v KS n p x h hc hs hx h5 hp x.rule.toNat (by unfold Hid; omega)
 rw [if_neg h5]
 by_cases h6 : x.kind = 6
 ·rw [if_pos h6]; exact rev6 K hK f hE w cs L v KS n p x h hc hs hx h6 hp
 rw [if_neg h6]
 by_cases h7 : x.kind = 7
 ·rw [if_pos h7]; exact rev7 K hK f hE w cs L v KS n p x h hc hs hx h7 hp
 rw [if_neg h7]
 obtain ⟨kk, hkk, hh⟩ := kid_list hno (by omega) hks
 rw [hh]
 by_cases h8 : x.kind = 8
 ·rw [if_pos h8]; exact rev8 K hK f hE w cs L v KS n p x h hc hs hx h8 hp kk hkk
 rw [if_neg h8]
 by_cases h9 : x.kind = 9
 ·rw [if_pos h9]
  cases hi : (ev K.G K.W f ⟨cs, false, L, false⟩ kk p).1.is with
  | true => rw [if_pos rfl]; exact rev9y K hK f hE w cs L v KS n p x h hc hs hx h9 hp kk hkk hi
  | false => rw [if_neg Bool.false_ne_true]; exact rev9n K hK f hE w cs L v KS n p x h hc hs hx h9 hp kk hkk hi
 rw [if_neg h9]
 by_cases h10 : x.kind = 10
 ·rw [if_pos h10]
  cases hi : (ev K.G K.W f ⟨cs, false, L, false⟩ kk p).1.is with
  | true => rw [if_pos rfl]; exact rev10y K hK f hE w cs L v KS n p x h hc hs hx h10 hp kk hkk hi
  | false => rw [if_neg Bool.false_ne_true]; exact rev10n K hK f hE w cs L v KS n p x h hc hs hx h10 hp kk hkk hi
 rw [if_neg h10]
 by_cases h11 : x.kind = 11
 ·have hd : decide (x.kind = 12) = false := by rw [h11]; rfl
  rw [hd]
  cases hi : (ev K.G K.W f ⟨cs, false, L, false⟩ kk p).1.is with
  | true => rw [if_neg (by decide)]; exact rev11y K hK f hE w cs L v KS n p x h hc hs hx h11 hp kk hkk hi
  | false => rw [if_pos rfl]; exact rev11n K hK f hE w cs L v KS n p x h hc hs hx h11 hp kk hkk hi
 ·have h12 : x.kind = 12 := by omega
  have hd : decide (x.kind = 12) = true := by rw [h12]; rfl
  rw [hd]
  cases hi : (ev K.G K.W f ⟨cs, false, L, false⟩ kk p).1.is with
  | true => rw [if_pos rfl]; exact rev12y K hK f hE w cs L v KS n p x h hc hs hx h12 hp kk hkk hi
  | false => rw [if_neg (by decide)]; exact rev12n K hK f hE w cs L v KS n p x h hc hs hx h12 hp kk hkk hi
theorem reval (K : Env) (hK : EnvOk K) : ∀ f, EvC K f
 | 0, w, ⟨cs, rd, L, ov⟩, v, KS, n, p, h, hc, hs, hn, hp => by
  have hl : L = 0 := by have h : L ≤ 0 := hc.left; omega
  subst hl
  rw [ev]
  cases ov <;> cases rd
  ·exact rev_zero_false K hK w cs v KS n p h
  ·exact rev_zero_true K hK w cs v KS n p h
  ·exact rev_over_false K hK w cs 0 v KS n p h
  ·exact rev_over_true K hK w cs 0 v KS n p h
 | f + 1, w, ⟨cs, rd, L, ov⟩, v, KS, n, p, h, hc, hs, hn, hp => by
  rw [ev]
  cases ov
  ·cases L with
   | zero =>
    rw [if_pos (.inr rfl)]
    cases rd
    ·exact rev_zero_false K hK w cs v KS n p h
    ·exact rev_zero_true K hK w cs v KS n p h
   | succ L =>
    cases rd
    ·rw [if_neg (by simp [over1]), List.getElem?_eq_getElem hn]
     have h1 : L + 1 ≤ f + 1 := hc.left
     have h2 := hc.cnt
     simp only [] at h2
     exact reval_kind K hK f (reval K hK f) w cs L v KS n p _ h ⟨by omega, hc.top, h2⟩ (hs.up rfl id) (List.getElem?_eq_getElem hn) hp
    ·rw [if_pos (.inl rfl)]
     exact rev_round K hK w cs L v KS n p h
  ·rw [if_pos (.inr (by simp [over1]))]
   have e : over1 ⟨cs, rd, L, true⟩ = ⟨cs, rd, L, true⟩ := rfl
   rw [e]
   cases rd
   ·exact rev_over_false K hK w cs L v KS n p h
   ·exact rev_over_true K hK w cs L v KS n p h
end Go.Proofs.Ytdnkffplkleolaa
namespace Go.Proofs.Ytdnkffplkleolaa
open Go.RowKit Go.ChangeMaps

theorem getM {P : Program} {w : World} {r : Nat} {es : Array MapEntry} {clock : Nat} (hb : w.heap[r]? = some (.map es clock)) : (getObj r).run P w = .ok (.map es clock) w := by
 simp [getObj, Sem.run, hb]
theorem setM {P : Program} {w : World} {r : Nat} {es : Array MapEntry} {clock : Nat} (o : Obj) (hb : w.heap[r]? = some (.map es clock)) : (setObj r o).run P w = .ok () (setBlock w r o) := by
 simp [setObj, Sem.run, hb, setBlock]
/-- The first entry of a key. -/
noncomputable def findV (k : Value) : List MapEntry → Nat → Option (Nat × Value)
 | [], _ => none
 | e :: es, i => @ite _ (e.key = k) (Classical.propDecidable _) (some (i, e.val)) (findV k es (i + 1))
theorem findV_yes {k : Value} : ∀ (es : List MapEntry) (i j : Nat) {e : MapEntry}, es[j]? = some e → e.key = k → (∀ m, m < j → ∀ x, es[m]? = some x → x.key ≠ k) → findV k es i = some (i + j, e.val)
 | [], _, _, _, h, _, _ => by cases h
 | x :: es, i, 0, e, h, hk, _ => by
  simp only [List.getElem?_cons_zero, Option.some.injEq] at h
  subst h
  simp [findV, hk]
 | x :: es, i, j + 1, e, h, hk, hn => by
  have h0 := hn 0 (by omega) x rfl
  simp only [findV, if_neg h0]
  rw [findV_yes es (i + 1) j (by simpa using h) hk (fun m hm y hy => hn (m + 1) (by omega) y (by simpa using hy))]
  congr 2; omega
theorem findV_no {k : Value} : ∀ (es : List MapEntry) (i : Nat), (∀ x ∈ es, x.key ≠ k) → findV k es i = none
 | [], _, _ => rfl
 | x :: es, i, h => by
  simp only [findV, if_neg (h x (by simp))]
  exact findV_no es (i + 1) fun y hy => h y (by simp [hy])

/-- A type of keys, those keys that are used, and what asking for one does. -/
structure KeyT (P : Program) (kt : TypeId) (K : Value → Prop) : Prop where
 check : ∀ (e : Bool) (w : World) (k : Value), K k → (Instr.checkKey e 10000 kt k).run P w = .ok () w
 find : ∀ (w : World) (k : Value) (es : List MapEntry), K k → (∀ x ∈ es, K x.key) → (Instr.findKey kt k es).run P w = .ok (findV k es 0) w
 stay : ∀ (w : World) (k : Value), K k → (Instr.keyThatStays k k).run P w = .ok k w

section
variable {P : Program} {kt : TypeId} {K : Value → Prop} {t e : TypeId} {w : World} {g clock : Nat} {es : Array MapEntry} {k v : Value}
theorem run_map_new (hK : KeyT P kt K) (ht : P.underlying t = some (.map kt e)) (hb : w.heap[g]? = some (.map es clock)) (hes : ∀ x ∈ es.toList, K x.key) (hk : K k) (hn : ∀ x ∈ es.toList, x.key ≠ k) :
  (Instr.mapUpdate t (.map (some g)) k v).run P w = .ok () (setBlock w g (.map (es.push ⟨k, v, clock⟩) (clock + 1))) := by
 unfold Instr.mapUpdate
 simp only [Sem.run_bind, run_underlying ht, Result.andThen_ok, getM hb, hK.check _ _ _ hk, hK.find _ _ _ hk hes, findV_no _ _ hn]
 exact setM _ hb
theorem run_map_old (hK : KeyT P kt K) (ht : P.underlying t = some (.map kt e)) (hb : w.heap[g]? = some (.map es clock)) (hes : ∀ x ∈ es.toList, K x.key) (hk : K k) {i : Nat} {x : MapEntry} (hi : es[i]? = some x) (hx : x.key = k)
  (hn : ∀ m, m < i → ∀ y, es[m]? = some y → y.key ≠ k) :
  (Instr.mapUpdate t (.map (some g)) k v).run P w = .ok () (setBlock w g (.map (es.modify i fun e => { e with key := k, val := v }) clock)) := by
 unfold Instr.mapUpdate
 simp only [Sem.run_bind, run_underlying ht, Result.andThen_ok, getM hb, hK.check _ _ _ hk, hK.find _ _ _ hk hes]
 rw [findV_yes es.toList 0 i (e := x) (by simpa using hi) hx (fun m hm y hy => hn m hm y (by simpa using hy))]
 simp only [Nat.zero_add, hi, Option.map_some, Option.getD_some, hx, Sem.run_bind, hK.stay _ _ hk, Result.andThen_ok]
 exact setM _ hb
theorem run_look_no (hK : KeyT P kt K) (ht : P.underlying t = some (.map kt e)) (hb : w.heap[g]? = some (.map es clock)) (hes : ∀ x ∈ es.toList, K x.key) (hk : K k) (hn : ∀ x ∈ es.toList, x.key ≠ k) {z : Value} (hz : (zeroValue e).run P w = .ok z w) (c : Bool) :
  (Instr.lookup t (.map (some g)) k c).run P w = .ok (if c then .tuple #[z, .bool false] else z) w := by
 unfold Instr.lookup
 simp only [Sem.run_bind, run_underlying ht, Result.andThen_ok, getM hb, Sem.run_pure, hK.check _ _ _ hk, hK.find _ _ _ hk hes, findV_no _ _ hn, hz]
theorem run_look_yes (hK : KeyT P kt K) (ht : P.underlying t = some (.map kt e)) (hb : w.heap[g]? = some (.map es clock)) (hes : ∀ x ∈ es.toList, K x.key) (hk : K k) {i : Nat} {x : MapEntry} (hi : es[i]? = some x) (hx : x.key = k)
  (hn : ∀ m, m < i → ∀ y, es[m]? = some y → y.key ≠ k) (c : Bool) :
  (Instr.lookup t (.map (some g)) k c).run P w = .ok (if c then .tuple #[x.val, .bool true] else x.val) w := by
 unfold Instr.lookup
 simp only [Sem.run_bind, run_underlying ht, Result.andThen_ok, getM hb, Sem.run_pure, hK.check _ _ _ hk, hK.find _ _ _ hk hes]
 rw [findV_yes es.toList 0 i (e := x) (by simpa using hi) hx (fun m hm y hy => hn m hm y (by simpa using hy))]
 simp
end

/-- Keys that are ints. -/
theorem findNow_int {q : IntKind} : ∀ (es : List MapEntry) (a : Int) (i : Nat), (∀ x ∈ es, ∃ b, x.key = .int q b) → Instr.findNow (.int q) (.int q a) es i = some (findV (.int q a) es i)
 | [], _, _, _ => rfl
 | x :: es, a, i, h => by
  obtain ⟨b, hb⟩ := h x (by simp)
  by_cases hab : a = b
  ·subst hab
   unfold findV
   rw [if_pos hb]
   simp [Instr.findNow, hb, Instr.sameNow]
  ·have h1 : (a == b) = false := by simpa using hab
   have h2 : ¬ (x.key = Value.int q a) := by rw [hb]; intro e; cases e; exact hab rfl
   unfold findV
   rw [if_neg h2]
   simp only [Instr.findNow, hb, Instr.sameNow, if_true, h1]
   exact findNow_int es a (i + 1) fun y hy => h y (by simp [hy])
theorem keyInt {P : Program} {kt : TypeId} {q : IntKind} (hu : P.underlying kt = some (.int q)) : KeyT P kt (fun v => ∃ a, v = .int q a) := by
 refine ⟨fun e w k hk => ?_, fun w k es hk hes => ?_, fun w k hk => ?_⟩
 ·obtain ⟨a, rfl⟩ := hk
  rw [show (10000 : Nat) = 9999 + 1 from rfl]
  unfold Instr.checkKey
  simp only [Sem.run_bind, run_underlying hu, Result.andThen_ok]
  rfl
 ·obtain ⟨a, rfl⟩ := hk
  exact MapKept.run_findKey hu (findNow_int es a 0 hes)
 ·obtain ⟨a, rfl⟩ := hk
  unfold Instr.keyThatStays
  have : Instr.sameBits 10000 (.int q a) (.int q a) = true := by
   rw [show (10000 : Nat) = 9999 + 1 from rfl]
   simp [Instr.sameBits]
  rw [if_pos this]
  rfl

/-! Keys that are pairs of ints. -/
section
variable {P : Program} {kt e : TypeId} {q : IntKind}
theorem part_int (he : P.underlying e = some (.int q)) (w : World) (cs : Array Value) (o : Nat) (v : Value) (h : cs[o]? = some v) : (part e cs o).run P w = .ok v w := by
 have ha : (isAgg e).run P w = .ok false w := by simp [isAgg, run_underlying he]
 unfold part
 simp [ha, h]
theorem eq_int (he : P.underlying e = some (.int q)) (w : World) (d : Nat) (x y : Int) : (Op.equalIn (d + 1) e (.int q x) (.int q y)).run P w = .ok (x == y) w := by
 simp [Op.equalIn, run_underlying he]
theorem item_int (he : P.underlying e = some (.int q)) (w : World) (d : Nat) (xs ys : Array Value) (i : Nat) (is : List Nat) (x y : Int) (hx : xs[i * 1]? = some (.int q x)) (hy : ys[i * 1]? = some (.int q y)) :
  (Op.eqItems (d + 1) e 1 xs ys (i :: is)).run P w = if (x == y) = true then (Op.eqItems (d + 1) e 1 xs ys is).run P w else .ok false w := by
 simp only [Op.eqItems, Sem.run_bind, part_int he w _ _ _ hx, part_int he w _ _ _ hy, Result.andThen_ok, eq_int he]
 cases x == y <;> rfl
theorem eq_pair (hu : P.underlying kt = some (.array 2 e)) (he : P.underlying e = some (.int q)) (hc : P.cellsOf e = 1) (w : World) (d : Nat) (a b a' b' : Int) :
  (Op.equalIn (d + 2) kt (.agg #[.int q a, .int q b]) (.agg #[.int q a', .int q b'])).run P w = .ok (a == a' && b == b') w := by
 obtain ⟨i, hi⟩ := info_of_underlying he
 rw [run_equalIn_array (P := P) w (d + 1) (e := e) (n := 2) (i := i) _ _ hu hi]
 rw [hc, show List.range 2 = [0, 1] from rfl]
 rw [item_int he w d _ _ 0 _ a a' rfl rfl, item_int he w d _ _ 1 _ b b' rfl rfl]
 have h0 : (Op.eqItems (d + 1) e 1 #[.int q a, .int q b] #[.int q a', .int q b'] []).run P w = .ok true w := by simp [Op.eqItems]
 rw [h0]
 cases a == a' <;> cases b == b' <;> rfl
theorem asking_pair (hu : P.underlying kt = some (.array 2 e)) (he : P.underlying e = some (.int q)) (hc : P.cellsOf e = 1) (w : World) (a b : Int) : ∀ (es : List MapEntry) (i : Nat), (∀ x ∈ es, ∃ c d, x.key = .agg #[.int q c, .int q d]) →
  (Instr.findAsking kt (.agg #[.int q a, .int q b]) es i).run P w = .ok (findV (.agg #[.int q a, .int q b]) es i) w
 | [], _, _ => by simp [Instr.findAsking, findV]
 | x :: es, i, h => by
  obtain ⟨c, d, hx⟩ := h x (by simp)
  have heq := eq_pair hu he hc w 9998 a b c d
  have ih := asking_pair hu he hc w a b es (i + 1) fun y hy => h y (by simp [hy])
  unfold Instr.findAsking findV
  simp only [Sem.run_bind, hx]
  have h1 : (Op.equal kt (.agg #[.int q a, .int q b]) (.agg #[.int q c, .int q d])).run P w = .ok (a == c && b == d) w := heq
  rw [h1]
  simp only [Result.andThen_ok]
  by_cases hab : a = c ∧ b = d
  ·obtain ⟨rfl, rfl⟩ := hab
   rw [if_pos (by simp), if_pos hx]
   simp
  ·have h2 : (a == c && b == d) = false := by
    rw [Bool.eq_false_iff]; intro hh; simp at hh; exact hab hh
   have h3 : ¬ (Value.agg #[.int q c, .int q d] = Value.agg #[.int q a, .int q b]) := by intro e; simp at e; exact hab ⟨e.1.symm, e.2.symm⟩
   rw [h2, if_neg (by decide), if_neg (by rw [hx]; exact h3)]
   exact ih
theorem check_pair (hu : P.underlying kt = some (.array 2 e)) (he : P.underlying e = some (.int q)) (hc : P.cellsOf e = 1) (w : World) (em : Bool) (n : Nat) (a b : Int) :
  (Instr.checkKey em (n + 2) kt (.agg #[.int q a, .int q b])).run P w = .ok () w := by
 obtain ⟨i, hi⟩ := info_of_underlying he
 have h1 : ∀ x : Int, (Instr.checkKey em (n + 1) e (.int q x)).run P w = .ok () w := fun x => by
  unfold Instr.checkKey
  simp only [Sem.run_bind, run_underlying he, Result.andThen_ok]
  rfl
 have hs := run_sizeOf (P := P) w hi
 rw [hc] at hs
 have p0 := part_int he w #[.int q a, .int q b] (0 * 1) (.int q a) rfl
 have p1 := part_int he w #[.int q a, .int q b] (1 * 1) (.int q b) rfl
 rw [show n + 2 = (n + 1) + 1 from rfl]
 unfold Instr.checkKey
 simp only [Sem.run_bind, run_underlying hu, Result.andThen_ok]
 simp only [Std.Legacy.Range.forIn_eq_forIn_range', Std.Legacy.Range.size, Nat.sub_zero, Nat.add_one_sub_one, Nat.div_one]
 rw [show List.range' 0 2 = [0, 1] from rfl]
 simp only [List.forIn_cons, List.forIn_nil, Sem.run_bind, hs, Result.andThen_ok, p0, p1, h1, Sem.run_pure]
theorem keyPair (hu : P.underlying kt = some (.array 2 e)) (he : P.underlying e = some (.int q)) (hc : P.cellsOf e = 1) : KeyT P kt (fun v => ∃ a b, v = .agg #[.int q a, .int q b]) := by
 refine ⟨fun em w k hk => ?_, fun w k es hk hes => ?_, fun w k hk => ?_⟩
 ·obtain ⟨a, b, rfl⟩ := hk
  exact check_pair hu he hc w em 9998 a b
 ·obtain ⟨a, b, rfl⟩ := hk
  rw [run_findKey_eq w (by rw [hu])]
  exact asking_pair hu he hc w a b es 0 hes
 ·obtain ⟨a, b, rfl⟩ := hk
  unfold Instr.keyThatStays
  have : Instr.sameBits 10000 (.agg #[.int q a, .int q b]) (.agg #[.int q a, .int q b]) = true := by
   rw [show (10000 : Nat) = 9998 + 1 + 1 from rfl]
   simp [Instr.sameBits]
  rw [if_pos this]
  rfl
end
end Go.Proofs.Ytdnkffplkleolaa
namespace Go.Proofs.Ytdnkffplkleolaa
open Go.RowKit Go.ChangeMaps
set_option maxRecDepth 100000
set_option maxHeartbeats 2000000

theorem setBlock_new (w : World) (o o' : Obj) : setBlock (w.alloc o) w.heap.size o' = w.alloc o' := by
 unfold setBlock
 show ({ w with heap := (w.heap.push o).setIfInBounds w.heap.size o' } : World) = { w with heap := w.heap.push o' }
 congr 1
 apply Array.ext
 ·simp
 ·intro i h1 h2
  rw [Array.getElem_setIfInBounds (by simpa using h1)]
  by_cases h : w.heap.size = i
  ·subst h; simp
  ·rw [if_neg h, Array.getElem_push, Array.getElem_push]
   have : i < w.heap.size := by simp at h2; omega
   rw [dif_pos this, dif_pos this]

/-- What kinds want, as the map has it. -/
def wantE : Array MapEntry := #[⟨.int .i64 1, .func (.func 87) #[] #[], 0⟩, ⟨.int .i64 2, .func (.func 87) #[] #[], 1⟩, ⟨.int .i64 3, .func (.func 88) #[] #[], 2⟩, ⟨.int .i64 4, .func (.func 89) #[] #[], 3⟩, ⟨.int .i64 5, .func (.func 90) #[] #[], 4⟩,
 ⟨.int .i64 6, .func (.func 91) #[] #[], 5⟩, ⟨.int .i64 7, .func (.func 91) #[] #[], 6⟩, ⟨.int .i64 8, .func (.func 92) #[] #[], 7⟩, ⟨.int .i64 9, .func (.func 92) #[] #[], 8⟩, ⟨.int .i64 10, .func (.func 92) #[] #[], 9⟩, ⟨.int .i64 11, .func (.func 92) #[] #[], 10⟩, ⟨.int .i64 12, .func (.func 92) #[] #[], 11⟩]

theorem kind_und : Try.prog.underlying 51 = some (.int .i64) := by kernel_rfl
theorem want_und : Try.prog.underlying 137 = some (.map 51 136) := by kernel_rfl

theorem mapUp (w : World) (es : Array MapEntry) (clock : Nat) (n : Int) (v : Value) (h1 : ∀ x ∈ es.toList, ∃ a, x.key = .int .i64 a) (h2 : ∀ x ∈ es.toList, x.key ≠ .int .i64 n) :
  (Instr.mapUpdate 137 (.map (some w.heap.size)) (.int .i64 n) v).run Try.prog (w.alloc (.map es clock)) = .ok () (w.alloc (.map (es.push ⟨.int .i64 n, v, clock⟩) (clock + 1))) := by
 rw [run_map_new (keyInt kind_und) want_und (heap_alloc_new _ _) h1 ⟨n, rfl⟩ h2, setBlock_new]

theorem wants_any (w : World) : Calls Try.prog 73 #[] w fun e w' => e = .returned (.map (some w.heap.size)) ∧ w' = w.alloc (.map wantE 12) := by
 have hmm := @run_makeMap Try.prog
 have hmu := mapUp
 go_enter Try.func73, Try.ntmps73
 go_wp2_with fail
 go_ret
 exact ⟨rfl, rfl⟩

/-- What a kind has in that map. -/
def wantV (k : Int) : Value :=
 if k = 1 ∨ k = 2 then .func (.func 87) #[] #[] else if k = 3 then .func (.func 88) #[] #[] else if k = 4 then .func (.func 89) #[] #[] else if k = 5 then .func (.func 90) #[] #[]
 else if k = 6 ∨ k = 7 then .func (.func 91) #[] #[] else if 8 ≤ k ∧ k ≤ 12 then .func (.func 92) #[] #[] else .nilFunc
theorem wantE_at (i : Nat) (h : i < 12) : ∃ b, wantE[i]? = some ⟨.int .i64 ((i : Int) + 1), wantV ((i : Int) + 1), b⟩ := by
 match i, h with
 | 0, _ => exact ⟨_, rfl⟩
 | 1, _ => exact ⟨_, rfl⟩
 | 2, _ => exact ⟨_, rfl⟩
 | 3, _ => exact ⟨_, rfl⟩
 | 4, _ => exact ⟨_, rfl⟩
 | 5, _ => exact ⟨_, rfl⟩
 | 6, _ => exact ⟨_, rfl⟩
 | 7, _ => exact ⟨_, rfl⟩
 | 8, _ => exact ⟨_, rfl⟩
 | 9, _ => exact ⟨_, rfl⟩
 | 10, _ => exact ⟨_, rfl⟩
 | 11, _ => exact ⟨_, rfl⟩
theorem wantE_key : ∀ x ∈ wantE.toList, ∃ a, x.key = .int .i64 a := by
 intro x hx
 obtain ⟨i, hi⟩ := List.mem_iff_getElem?.1 hx
 have hlt : i < 12 := (List.getElem?_eq_some_iff.1 hi).1
 obtain ⟨b, hb⟩ := wantE_at i hlt
 have : wantE[i]? = some x := by simpa using hi
 rw [hb] at this
 cases this
 exact ⟨_, rfl⟩
theorem zeroF (w : World) : (zeroValue 136).run Try.prog w = .ok .nilFunc w := by kernel_rfl
theorem look_want (w : World) (g : Nat) (hg : w.heap[g]? = some (.map wantE 12)) (k : Int) : (Instr.lookup 137 (.map (some g)) (.int .i64 k) false).run Try.prog w = .ok (wantV k) w := by
 by_cases h : 1 ≤ k ∧ k ≤ 12
 ·obtain ⟨i, rfl⟩ : ∃ i : Nat, k = (i : Int) + 1 := ⟨(k - 1).toNat, by omega⟩
  obtain ⟨b, hb⟩ := wantE_at i (by omega)
  have := run_look_yes (keyInt kind_und) want_und hg wantE_key ⟨_, rfl⟩ hb rfl (fun m hm y hy e => by
   obtain ⟨b', hb'⟩ := wantE_at m (by omega)
   rw [hb'] at hy
   cases hy
   simp only [Value.int.injEq, true_and] at e
   omega) false
  simpa using this
 ·have hn : ∀ x ∈ wantE.toList, x.key ≠ .int .i64 k := by
   intro x hx e
   obtain ⟨i, hi⟩ := List.mem_iff_getElem?.1 hx
   have hlt : i < 12 := (List.getElem?_eq_some_iff.1 hi).1
   obtain ⟨b, hb⟩ := wantE_at i hlt
   have hx' : wantE[i]? = some x := by simpa using hi
   rw [hb] at hx'
   cases hx'
   simp only [Value.int.injEq, true_and] at e
   omega
  have := run_look_no (keyInt kind_und) want_und hg wantE_key ⟨_, rfl⟩ hn (zeroF w) false
  have hv : wantV k = .nilFunc := by
   unfold wantV
   rw [if_neg (by omega), if_neg (by omega), if_neg (by omega), if_neg (by omega), if_neg (by omega), if_neg (by omega)]
  rw [hv]
  simpa using this
/-- The map behind a box, behind the draw. -/
theorem look_box (w : World) (o : Obj) (k : Int) : (Instr.lookup 137 (.map (some (w.heap.size + 1))) (.int .i64 k) false).run Try.prog ((w.alloc o).alloc (.map wantE 12)).drew = .ok (wantV k) ((w.alloc o).alloc (.map wantE 12)).drew := by
 refine look_want _ _ ?_ k
 have := heap_alloc_new (w.alloc o) (.map wantE 12)
 rw [World.size_alloc] at this
 exact this

theorem eq_fun (d : Nat) (w : World) (fn : Fn) (x y : Array Value) : (Op.equalIn (d + 1) 136 (.func fn x y) .nilFunc).run Try.prog w = .ok false w := by
 simp [Op.equalIn, run_underlying Try.underlying136]
theorem eq_nof (d : Nat) (w : World) : (Op.equalIn (d + 1) 136 .nilFunc .nilFunc).run Try.prog w = .ok true w := by
 simp [Op.equalIn, run_underlying Try.underlying136]
theorem neq_fun (w : World) (fn : Fn) (x y : Array Value) : (binOp .neq 136 (.func fn x y) .nilFunc).run Try.prog w = .ok (.bool true) w := by
 have h : (Op.equal 136 (.func fn x y) .nilFunc).run Try.prog w = .ok false w := eq_fun 9999 w fn x y
 simp [binOp, h]
theorem neq_nof (w : World) : (binOp .neq 136 .nilFunc .nilFunc).run Try.prog w = .ok (.bool false) w := by
 have h : (Op.equal 136 .nilFunc .nilFunc).run Try.prog w = .ok true w := eq_nof 9999 w
 simp [binOp, h]

/-- A node, as a value. -/
def ndv (x : Nd) (ka : Option Addr) (kc : Nat) : Value := .agg #[.int .i64 x.kind, .int .u64 x.c0, .int .u64 x.c1, .int .u64 x.c2, .int .u64 x.c3, .string x.text, .int .i64 x.rule, .int .i64 x.lev, .slice ka x.kids.length kc]

theorem nil_size : (ByteArray.mk #[]).size = 0 := rfl
set_option linter.unusedSimpArgs false
section
variable {k a b c d : Int} {t : ByteArray} {r l : Int} {kids : List Int} {n : Nat}
theorem nb_bare (h : k = 1 ∨ k = 2) : (plainB a b c d t r l && kids.length == 0) = nodeB n ⟨k, a, b, c, d, t, r, l, kids⟩ := by
 unfold nodeB plainB clsB txtB calB
 simp only []
 rw [if_pos h]
 rw [Bool.eq_iff_iff]
 simp only [Bool.and_eq_true, Bool.or_eq_true, Bool.not_eq_true', beq_iff_eq, decide_eq_true_eq, Bool.and_eq_false_iff, beq_eq_false_iff_ne, ne_eq, beq_self_eq_true, true_and, and_true, nil_size]
 first | omega | grind
theorem wv_bare (h : k = 1 ∨ k = 2) : wantV k = .func (.func 87) #[] #[] := by
 unfold wantV
 rw [if_pos h]
theorem nb_set (h : k = 3) : (!(a == 0 && b == 0 && c == 0 && d == 0) && (plainB 0 0 0 0 t r l && kids.length == 0)) = nodeB n ⟨k, a, b, c, d, t, r, l, kids⟩ := by
 unfold nodeB plainB clsB txtB calB
 simp only []
 rw [if_neg (by omega), if_pos h]
 rw [Bool.eq_iff_iff]
 simp only [Bool.and_eq_true, Bool.or_eq_true, Bool.not_eq_true', beq_iff_eq, decide_eq_true_eq, Bool.and_eq_false_iff, beq_eq_false_iff_ne, ne_eq, beq_self_eq_true, true_and, and_true, nil_size]
 first | omega | grind
theorem wv_set (h : k = 3) : wantV k = .func (.func 88) #[] #[] := by
 unfold wantV
 rw [if_neg (by omega), if_pos h]
theorem nb_text (h : k = 4) : (decide (0 < t.size) && decide (t.size ≤ 64) && (plainB a b c d ⟨#[]⟩ r l && kids.length == 0)) = nodeB n ⟨k, a, b, c, d, t, r, l, kids⟩ := by
 unfold nodeB plainB clsB txtB calB
 simp only []
 rw [if_neg (by omega), if_neg (by omega), if_pos h]
 rw [Bool.eq_iff_iff]
 simp only [Bool.and_eq_true, Bool.or_eq_true, Bool.not_eq_true', beq_iff_eq, decide_eq_true_eq, Bool.and_eq_false_iff, beq_eq_false_iff_ne, ne_eq, beq_self_eq_true, true_and, and_true, nil_size]
 first | omega | grind
theorem wv_text (h : k = 4) : wantV k = .func (.func 89) #[] #[] := by
 unfold wantV
 rw [if_neg (by omega), if_neg (by omega), if_pos h]
theorem nb_call (h : k = 5) : (decide (0 ≤ r) && decide (r < n) && decide (0 ≤ l) && decide (l ≤ 99) && (plainB a b c d t 0 0 && kids.length == 0)) = nodeB n ⟨k, a, b, c, d, t, r, l, kids⟩ := by
 unfold nodeB plainB clsB txtB calB
 simp only []
 rw [if_neg (by omega), if_neg (by omega), if_neg (by omega), if_pos h]
 rw [Bool.eq_iff_iff]
 simp only [Bool.and_eq_true, Bool.or_eq_true, Bool.not_eq_true', beq_iff_eq, decide_eq_true_eq, Bool.and_eq_false_iff, beq_eq_false_iff_ne, ne_eq, beq_self_eq_true, true_and, and_true, nil_size]
 first | omega | grind
theorem wv_call (h : k = 5) : wantV k = .func (.func 90) #[] #[] := by
 unfold wantV
 rw [if_neg (by omega), if_neg (by omega), if_neg (by omega), if_pos h]
theorem nb_many (h : k = 6 ∨ k = 7) : (plainB a b c d t r l && decide (2 ≤ kids.length) && decide (kids.length ≤ 64)) = nodeB n ⟨k, a, b, c, d, t, r, l, kids⟩ := by
 unfold nodeB plainB clsB txtB calB
 simp only []
 rw [if_neg (by omega), if_neg (by omega), if_neg (by omega), if_neg (by omega), if_pos h]
 rw [Bool.eq_iff_iff]
 simp only [Bool.and_eq_true, Bool.or_eq_true, Bool.not_eq_true', beq_iff_eq, decide_eq_true_eq, Bool.and_eq_false_iff, beq_eq_false_iff_ne, ne_eq, beq_self_eq_true, true_and, and_true, nil_size]
 first | omega | grind
theorem wv_many (h : k = 6 ∨ k = 7) : wantV k = .func (.func 91) #[] #[] := by
 unfold wantV
 rw [if_neg (by omega), if_neg (by omega), if_neg (by omega), if_neg (by omega), if_pos h]
theorem nb_one (h : 8 ≤ k ∧ k ≤ 12) : (plainB a b c d t r l && kids.length == 1) = nodeB n ⟨k, a, b, c, d, t, r, l, kids⟩ := by
 unfold nodeB plainB clsB txtB calB
 simp only []
 rw [if_neg (by omega), if_neg (by omega), if_neg (by omega), if_neg (by omega), if_neg (by omega), if_pos h]
 rw [Bool.eq_iff_iff]
 simp only [Bool.and_eq_true, Bool.or_eq_true, Bool.not_eq_true', beq_iff_eq, decide_eq_true_eq, Bool.and_eq_false_iff, beq_eq_false_iff_ne, ne_eq, beq_self_eq_true, true_and, and_true, nil_size]
 first | omega | grind
theorem wv_one (h : 8 ≤ k ∧ k ≤ 12) : wantV k = .func (.func 92) #[] #[] := by
 unfold wantV
 rw [if_neg (by omega), if_neg (by omega), if_neg (by omega), if_neg (by omega), if_neg (by omega), if_pos h]
theorem nb_none (h : k < 1 ∨ 12 < k) : false = nodeB n ⟨k, a, b, c, d, t, r, l, kids⟩ := by
 unfold nodeB
 simp only []
 rw [if_neg (by omega), if_neg (by omega), if_neg (by omega), if_neg (by omega), if_neg (by omega), if_neg (by omega)]
theorem wv_none (h : k < 1 ∨ 12 < k) : wantV k = .nilFunc := by
 unfold wantV
 rw [if_neg (by omega), if_neg (by omega), if_neg (by omega), if_neg (by omega), if_neg (by omega), if_neg (by omega)]
end

theorem node_any (w : World) (x : Nd) (ka : Option Addr) (kc : Nat) (n : Nat) (ht : x.text.size ≤ 9223372036854775807) :
  Calls Try.prog 64 #[ndv x ka kc, .int .i64 n] w fun e w' => e = .returned (.bool (nodeB n x)) ∧ Below w.heap.size w w' := by
 obtain ⟨kind, a, b, c, d, t, r, l, kids⟩ := x
 unfold ndv
 have hlk := look_box
 have hfe := neq_fun
 have hfn := neq_nof
 have HB0 := Lib.hid (al1 (Below.refl w.heap.size w) (.cells #[.int .i64 kind, .int .u64 a, .int .u64 b, .int .u64 c, .int .u64 d, .string t, .int .i64 r, .int .i64 l, .slice ka kids.length kc] 57))
 go_enter Try.func64, Try.ntmps64
 go_wp2_with fail
 go_region_with ((go_at_call 73; refine (wants_any _).mono ?_; rintro e w2 ⟨rfl, rfl⟩))
 all_goals
  have HBW := Lib.hid ((al1 HB0.out (.map wantE 12)).drew)
  rcases (show (kind = 1 ∨ kind = 2) ∨ kind = 3 ∨ kind = 4 ∨ kind = 5 ∨ (kind = 6 ∨ kind = 7) ∨ (8 ≤ kind ∧ kind ≤ 12) ∨ (kind < 1 ∨ 12 < kind) by omega) with h | h | h | h | h | h | h
  ·rw [wv_bare h]
   have H := Lib.hid h; clear h
   go_wp2_with fail
   refine (bare_any _ kind a b c d t r l ka kids.length kc n).mono ?_
   rintro e w2 ⟨rfl, hb⟩
   have HB2 := Lib.hid (HBW.out.trans (hb.mono HBW.out.size))
   clear hb
   go_wp2_with fail
   go_ret
   exact ⟨ret_bool (nb_bare H.out), HB2.out⟩
  ·rw [wv_set h]
   have H := Lib.hid h; clear h
   go_wp2_with fail
   refine (setS_any _ kind a b c d t r l ka kids.length kc n).mono ?_
   rintro e w2 ⟨rfl, hb⟩
   have HB2 := Lib.hid (HBW.out.trans (hb.mono HBW.out.size))
   clear hb
   go_wp2_with fail
   go_ret
   exact ⟨ret_bool (by rw [← nb_set H.out]; simp), HB2.out⟩
  ·rw [wv_text h]
   have H := Lib.hid h; clear h
   go_wp2_with fail
   refine (textS_any _ kind a b c d t r l ka kids.length kc n ht).mono ?_
   rintro e w2 ⟨rfl, hb⟩
   have HB2 := Lib.hid (HBW.out.trans (hb.mono HBW.out.size))
   clear hb
   go_wp2_with fail
   go_ret
   exact ⟨ret_bool (nb_text H.out), HB2.out⟩
  ·rw [wv_call h]
   have H := Lib.hid h; clear h
   go_wp2_with fail
   refine (callS_any _ kind a b c d t r l ka kids.length kc n).mono ?_
   rintro e w2 ⟨rfl, hb⟩
   have HB2 := Lib.hid (HBW.out.trans (hb.mono HBW.out.size))
   clear hb
   go_wp2_with fail
   go_ret
   exact ⟨ret_bool (nb_call H.out), HB2.out⟩
  ·rw [wv_many h]
   have H := Lib.hid h; clear h
   go_wp2_with fail
   refine (many_any _ kind a b c d t r l ka kids.length kc n).mono ?_
   rintro e w2 ⟨rfl, hb⟩
   have HB2 := Lib.hid (HBW.out.trans (hb.mono HBW.out.size))
   clear hb
   go_wp2_with fail
   go_ret
   exact ⟨ret_bool (nb_many H.out), HB2.out⟩
  ·rw [wv_one h]
   have H := Lib.hid h; clear h
   go_wp2_with fail
   refine (one_any _ kind a b c d t r l ka kids.length kc n).mono ?_
   rintro e w2 ⟨rfl, hb⟩
   have HB2 := Lib.hid (HBW.out.trans (hb.mono HBW.out.size))
   clear hb
   go_wp2_with fail
   go_ret
   exact ⟨ret_bool (nb_one H.out), HB2.out⟩
  ·rw [wv_none h]
   have H := Lib.hid h; clear h
   go_wp2_with fail
   go_ret
   exact ⟨ret_bool (nb_none H.out), HBW.out⟩
end Go.Proofs.Ytdnkffplkleolaa
namespace Go.Proofs.Ytdnkffplkleolaa
open Go.RowKit
set_option maxRecDepth 100000
set_option maxHeartbeats 2000000

theorem whole1_any (w : World) (x : Nd) (ka : Option Addr) (kc : Nat) (ht : x.text.size ≤ 9223372036854775807) (p : Addr) (ro : Option Addr) (rn rc : Nat) (hp : w.cell? p = some (.slice ro rn rc)) :
  Calls Try.prog 63 #[ndv x ka kc, .pointer (some p)] w fun e w' => e = .returned (.bool (!nodeB rn x)) ∧ Below w.heap.size w w' := by
 have hlt := World.block_lt_of_cell? w _ hp
 obtain ⟨k, a, b, c, d, t, r, l, kids⟩ := x
 have HN := Lib.hid (fun w' => node_any w' ⟨k, a, b, c, d, t, r, l, kids⟩ ka kc rn ht)
 unfold ndv
 have HB := Lib.hid (al1 (Below.refl w.heap.size w) (.cells #[.int .i64 k, .int .u64 a, .int .u64 b, .int .u64 c, .int .u64 d, .string t, .int .i64 r, .int .i64 l, .slice ka kids.length kc] 57))
 have hp2 : (w.alloc (.cells #[.int .i64 k, .int .u64 a, .int .u64 b, .int .u64 c, .int .u64 d, .string t, .int .i64 r, .int .i64 l, .slice ka kids.length kc] 57)).cell? p = some (.slice ro rn rc) := (HB.out.cell hlt).trans hp
 go_enter Try.func63, Try.ntmps63
 go_wp2_with fail
 refine (HN.out _).mono ?_
 rintro e w2 ⟨rfl, hb⟩
 have HB2 := Lib.hid (HB.out.trans (hb.mono HB.out.size))
 clear hb
 go_wp2_with fail
 go_ret
 exact ⟨rfl, HB2.out⟩

/-- What the search for a node that is not right tells. -/
def NodeAt (w : World) (rn : Nat) (N : List Nd) (e : Ending) (w' : World) : Prop := ∃ r : Int, e = .returned (.int .i64 r) ∧ (0 ≤ r ↔ ¬ N.all (nodeB rn) = true) ∧ Below w.heap.size w w'

theorem indexN_any (w : World) (no : Option Addr) (nn nc : Nat) (NK : List (Nd × (Option Addr × Nat))) (hN : NdW w no nn nc NK) (p : Addr) (ro : Option Addr) (rn rc : Nat) (hp : w.cell? p = some (.slice ro rn rc)) :
  Calls Try.prog 72 #[.slice no nn nc, .func (.func 63) #[] #[.pointer (some p)]] w (NodeAt w rn (NK.map (·.1))) := by
 obtain ⟨b1, b2⟩ := hN.sv.bound
 have hl := hN.sv.n_eq ndc_len (by decide)
 have HN := Lib.hid hN
 have HL := Lib.hid hl
 have hlt := World.block_lt_of_cell? w _ hp
 have HP := Lib.hid hp
 clear hN hl hp
 go_enter Try.func72, Try.ntmps72
 go_wp2_with fail
 go_loopw [8] (fun i wr => ∃ k : Nat, k ≤ nn ∧ i = .int .i64 k ∧ Hid (Below w.heap.size w wr ∧ ∀ i, (h : i < k) → (h' : i < NK.length) → nodeB rn (NK[i]'h').1 = true)) (fun i _ => nn - (intOf i).toNat)
 case atStart => exact ⟨0, by omega, rfl, Below.refl _ _, fun i h => absurd h (by omega)⟩
 case round =>
  obtain ⟨k, hk, rfl, HI⟩ := hrel
  by_cases hlt2 : k < nn
  ·have hk' : (k : Int) < nn := by omega
   have hkl : k < NK.length := by have := HL.out; omega
   have hmem : NK[k]'hkl ∈ NK := List.getElem_mem hkl
   obtain ⟨ra, rfl, hc⟩ := Sv.at ndc_len (HN.out.below HI.out.1).sv (by decide) k hkl
   have htx := HN.out.txt _ hmem
   have HY : Hid (nodeB rn (NK[k]'hkl).1 = false → ¬ (NK.map (·.1)).all (nodeB rn) = true) := fun h hall => by
    have := List.all_eq_true.1 hall (NK[k]'hkl).1 (List.mem_map.2 ⟨_, hmem, rfl⟩)
    rw [h] at this; cases this
   have HM : Hid (nodeB rn (NK[k]'hkl).1 = true → ∀ i, (h : i < k + 1) → (h' : i < NK.length) → nodeB rn (NK[i]'h').1 = true) := fun h i hi h' => by
    by_cases e : i = k
    ·subst e; exact h
    ·exact HI.out.2 i (by omega) h'
   have hpw : wr.cell? p = some (.slice ro rn rc) := (HI.out.1.cell hlt).trans HP.out
   clear hmem
   generalize NK[k]'hkl = q at *
   obtain ⟨⟨kd, a, b, c, d, t, r, l, kids⟩, ka, kc⟩ := q
   simp only [] at htx HY HM
   have c0 : wr.cell? (ra.add (k * 9)) = some (.int .i64 kd) := hc 0 _ rfl
   have cc := fun j v (hj : 0 < j) (h : (ndc (⟨kd, a, b, c, d, t, r, l, kids⟩, ka, kc))[j]? = some v) => (add_off ra (k * 9) j hj) ▸ hc j v h
   have c1 : wr.cell? ⟨(ra.add (k * 9)).block, (ra.add (k * 9)).off + 1, none⟩ = some (.int .u64 a) := cc 1 _ (by decide) rfl
   have c2 : wr.cell? ⟨(ra.add (k * 9)).block, (ra.add (k * 9)).off + 2, none⟩ = some (.int .u64 b) := cc 2 _ (by decide) rfl
   have c3 : wr.cell? ⟨(ra.add (k * 9)).block, (ra.add (k * 9)).off + 3, none⟩ = some (.int .u64 c) := cc 3 _ (by decide) rfl
   have c4 : wr.cell? ⟨(ra.add (k * 9)).block, (ra.add (k * 9)).off + 4, none⟩ = some (.int .u64 d) := cc 4 _ (by decide) rfl
   have c5 : wr.cell? ⟨(ra.add (k * 9)).block, (ra.add (k * 9)).off + 5, none⟩ = some (.string t) := cc 5 _ (by decide) rfl
   have c6 : wr.cell? ⟨(ra.add (k * 9)).block, (ra.add (k * 9)).off + 6, none⟩ = some (.int .i64 r) := cc 6 _ (by decide) rfl
   have c7 : wr.cell? ⟨(ra.add (k * 9)).block, (ra.add (k * 9)).off + 7, none⟩ = some (.int .i64 l) := cc 7 _ (by decide) rfl
   have c8 : wr.cell? ⟨(ra.add (k * 9)).block, (ra.add (k * 9)).off + 8, none⟩ = some (.slice ka kids.length kc) := cc 8 _ (by decide) rfl
   have HW := Lib.hid (whole1_any wr ⟨kd, a, b, c, d, t, r, l, kids⟩ ka kc htx p ro rn rc hpw)
   clear hc cc hpw htx
   cases hb : nodeB rn ⟨kd, a, b, c, d, t, r, l, kids⟩
   ·have HRes := Lib.hid (HY.out hb)
    have HBn := Lib.hid hb
    clear hb HY HM
    go_wp2_with fail
    refine HW.out.mono ?_
    rintro e w3 ⟨rfl, hb3⟩
    have HB3 := Lib.hid (HI.out.1.trans (hb3.mono HI.out.1.size))
    rw [HBn.out]
    clear hb3
    go_wp2_with fail
    go_ret
    exact ⟨(k : Int), rfl, ⟨fun _ => HRes.out, fun _ => by omega⟩, HB3.out⟩
   ·have HRes := Lib.hid (HM.out hb)
    have HBn := Lib.hid hb
    clear hb HY HM
    go_wp2_with fail
    refine HW.out.mono ?_
    rintro e w3 ⟨rfl, hb3⟩
    have HB3 := Lib.hid (HI.out.1.trans (hb3.mono HI.out.1.size))
    rw [HBn.out]
    clear hb3
    go_wp2_with fail
    go_roundw
    case rel => exact ⟨k + 1, by omega, by go_num, HB3.out, HRes.out⟩
    case measure => simp [intOf]; omega
  ·have hge : (nn : Int) ≤ k := by omega
   have HRes : Hid ((NK.map (·.1)).all (nodeB rn) = true) := by
    show _ = true
    rw [List.all_eq_true]
    intro x hx
    obtain ⟨q, hq, rfl⟩ := List.mem_map.1 hx
    obtain ⟨i, hi, rfl⟩ := List.getElem_of_mem hq
    exact HI.out.2 i (by have := HL.out; omega) hi
   go_wp2_with fail
   go_ret
   exact ⟨-1, rfl, ⟨fun h => by omega, fun h => absurd HRes.out h⟩, HI.out.1⟩

theorem contN_any (w : World) (no : Option Addr) (nn nc : Nat) (NK : List (Nd × (Option Addr × Nat))) (hN : NdW w no nn nc NK) (p : Addr) (ro : Option Addr) (rn rc : Nat) (hp : w.cell? p = some (.slice ro rn rc)) :
  Calls Try.prog 62 #[.slice no nn nc, .func (.func 63) #[] #[.pointer (some p)]] w fun e w' => e = .returned (.bool (!(NK.map (·.1)).all (nodeB rn))) ∧ Below w.heap.size w w' := by
 have HX := Lib.hid (indexN_any w no nn nc NK hN p ro rn rc hp)
 clear hN hp
 go_enter Try.func62, Try.ntmps62
 go_wp2_with fail
 refine HX.out.mono ?_
 rintro e w2 ⟨r, rfl, hr, hb⟩
 have HR := Lib.hid hr
 have HB := Lib.hid hb
 clear hr hb
 go_wp2_with fail
 go_ret
 refine ⟨ret_bool ?_, HB.out⟩
 rw [Bool.eq_iff_iff]
 have := HR.out
 simp only [decide_eq_true_eq, Bool.not_eq_true', Bool.not_eq_true] at this ⊢
 exact this
end Go.Proofs.Ytdnkffplkleolaa
namespace Go.Proofs.Ytdnkffplkleolaa
open Go.RowKit

section
variable {N : List Nd}
theorem tabs_none : ∀ (e : Nat) {d : Nat}, tabs N d = none → d ≤ e → tabs N e = none
 | 0, d, h, hd => by
  obtain rfl : d = 0 := by omega
  exact h
 | e + 1, d, h, hd => by
  by_cases he : d = e + 1
  ·subst he; exact h
  ·have := tabs_none e h (by omega)
   simp only [tabs, this]
theorem tabs_step {d : Nat} {T : List (Nat × Nat)} (hT : tabs N d = some T) (hd : d < N.length) : tabs N (d + 1) = match kidsT (N.length - d) T N.length (N[N.length - (d + 1)]'(by omega)).kids (N.length - d) 0 with
  | none => none
  | some (next, high) => some ((next - (N.length - (d + 1)), high + 1) :: T) := by
 simp only [tabs, hT, List.getElem?_eq_getElem (show N.length - (d + 1) < N.length by omega)]
 cases kidsT (N.length - d) T N.length (N[N.length - (d + 1)]'(by omega)).kids (N.length - d) 0 <;> rfl
theorem kidsT_cons {n : Nat} {T : List (Nat × Nat)} {len : Nat} {k : Int} {ks : List Int} {m h : Nat} : kidsT n T len (k :: ks) m h = if k ≠ (m : Int) ∨ (len : Int) ≤ k then none else kidsT n T len ks (m + (T.getD (m - n) (0, 0)).1) (max h (T.getD (m - n) (0, 0)).2) := rfl
end

theorem tabs_at {κ : Type} {NK : List (Nd × κ)} {nn d n : Nat} {T : List (Nat × Nat)} (hl : NK.length = nn) (hn : n + 1 + d = nn) (hT : tabs (NK.map (·.1)) d = some T) (h : n < NK.length) :
  tabs (NK.map (·.1)) (d + 1) = match kidsT (n + 1) T nn (NK[n]'h).1.kids (n + 1) 0 with
   | none => none
   | some p => some ((p.1 - n, p.2 + 1) :: T) := by
 have hL : (NK.map (·.1)).length = nn := by simp [hl]
 have e1 : (NK.map (·.1)).length - (d + 1) = n := by omega
 have e2 : (NK.map (·.1)).length - d = n + 1 := by omega
 rw [tabs_step hT (by omega)]
 have e3 : ((NK.map (·.1))[(NK.map (·.1)).length - (d + 1)]'(by omega)) = (NK[n]'h).1 := by
  simp only [e1, List.getElem_map]
 rw [e3, e2, e1, hL]
 cases kidsT (n + 1) T nn (NK[n]'h).1.kids (n + 1) 0 <;> rfl

def rngs (n : Nat) (S : Nat → Nat) : Array Value := ((List.range n).map fun i => Value.int .i64 (S i)).toArray
theorem rngs_get (n : Nat) (S : Nat → Nat) (i : Nat) (h : i < n) : (rngs n S)[i]? = some (.int .i64 (S i)) := by
 simp [rngs, h]
def updN (S : Nat → Nat) (k v : Nat) : Nat → Nat := fun i => if i = k then v else S i
theorem rngs_set (n : Nat) (S : Nat → Nat) (k v : Nat) : (rngs n S).setIfInBounds k (.int .i64 v) = rngs n (updN S k v) := by
 apply Array.ext
 ·simp [rngs]
 ·intro i h1 h2
  have hi : i < n := by simpa [rngs] using h2
  rw [Array.getElem_setIfInBounds (by simpa using h1)]
  by_cases h : k = i
  ·subst h; simp [rngs, updN]
  ·simp [rngs, updN, h, show ¬ i = k from fun e => h e.symm]

/-- The kids, as far as they are gone through. -/
theorem tab_at {N : List Nd} {n : Nat} {T : List (Nat × Nat)} (h : TabOk N n T) {k : Nat} (h1 : n ≤ k) (h2 : k < N.length) : k + (T.getD (k - n) (0, 0)).1 ≤ N.length ∧ (T.getD (k - n) (0, 0)).2 ≤ N.length := by
 have h3 := h.2 k h1 h2
 exact ⟨(aft_range h3).2.1, by have := aft_len h3; omega⟩

/-- While the table is made: its box, the sizes, the heights. -/
structure OfS (w0 w : World) (gb g1 g2 nn : Nat) (S H : Nat → Nat) : Prop where
 box : hrow w gb #[.slice (some ⟨g1, 0, none⟩) nn nn, .slice (some ⟨g2, 0, none⟩) nn nn] 112
 bel : Below w0.heap.size w0 w
 siz : hrow w g1 (rngs nn S) 3
 hei : hrow w g2 (rngs nn H) 3
 ne : g1 ≠ g2
 lo : w0.heap.size ≤ gb ∧ w0.heap.size ≤ g1 ∧ w0.heap.size ≤ g2
section
variable {w0 w w' : World} {gb g1 g2 nn : Nat} {S H : Nat → Nat}
theorem OfS.below (h : OfS w0 w gb g1 g2 nn S H) (hb : Below w.heap.size w w') : OfS w0 w' gb g1 g2 nn S H :=
 ⟨h.box.below hb, h.bel.trans (hb.mono h.bel.size), h.siz.below hb, h.hei.below hb, h.ne, h.lo⟩
theorem OfS.nb (h : OfS w0 w gb g1 g2 nn S H) : gb ≠ g1 ∧ gb ≠ g2 := by
 constructor
 ·rintro rfl
  have := h.box.h.symm.trans h.siz.h
  simp only [Option.some.injEq, Obj.cells.injEq] at this
  exact absurd this.2.1 (by decide)
 ·rintro rfl
  have := h.box.h.symm.trans h.hei.h
  simp only [Option.some.injEq, Obj.cells.injEq] at this
  exact absurd this.2.1 (by decide)
theorem OfS.put1 (h : OfS w0 w gb g1 g2 nn S H) (k v : Nat) : OfS w0 (w.setCell ⟨g1, k, none⟩ (.int .i64 v)) gb g1 g2 nn (updN S k v) H := by
 have hf := Fr.setCell w ⟨g1, k, none⟩ (.int .i64 v)
 refine ⟨h.box.fr hf h.nb.1, h.bel.setCell h.lo.2.1 _, ?_, h.hei.fr hf (fun e => h.ne e.symm), h.ne, h.lo⟩
 rw [← rngs_set]
 exact heap_setCell_same _ _ _ _ _ _ h.siz.h
theorem OfS.put2 (h : OfS w0 w gb g1 g2 nn S H) (k v : Nat) : OfS w0 (w.setCell ⟨g2, k, none⟩ (.int .i64 v)) gb g1 g2 nn S (updN H k v) := by
 have hf := Fr.setCell w ⟨g2, k, none⟩ (.int .i64 v)
 refine ⟨h.box.fr hf h.nb.2, h.bel.setCell h.lo.2.2 _, h.siz.fr hf h.ne, ?_, h.ne, h.lo⟩
 rw [← rngs_set]
 exact heap_setCell_same _ _ _ _ _ _ h.hei.h
theorem OfS.same (h : OfS w0 w gb g1 g2 nn S H) : OfS w0 ((w.setCell ⟨gb, 0, none⟩ (.slice (some ⟨g1, 0, none⟩) nn nn)).setCell ⟨gb, 1, none⟩ (.slice (some ⟨g2, 0, none⟩) nn nn)) gb g1 g2 nn S H := by
 have f1 := Fr.setCell w ⟨gb, 0, none⟩ (.slice (some ⟨g1, 0, none⟩) nn nn)
 have f2 := Fr.setCell (w.setCell ⟨gb, 0, none⟩ (.slice (some ⟨g1, 0, none⟩) nn nn)) ⟨gb, 1, none⟩ (.slice (some ⟨g2, 0, none⟩) nn nn)
 have hb : hrow (w.setCell ⟨gb, 0, none⟩ (.slice (some ⟨g1, 0, none⟩) nn nn)) gb _ _ := heap_setCell_same _ _ _ _ _ _ h.box.h
 have hb2 : hrow ((w.setCell ⟨gb, 0, none⟩ (.slice (some ⟨g1, 0, none⟩) nn nn)).setCell ⟨gb, 1, none⟩ (.slice (some ⟨g2, 0, none⟩) nn nn)) gb _ _ := heap_setCell_same _ _ _ _ _ _ hb.h
 exact ⟨hb2, (h.bel.setCell h.lo.1 _).setCell h.lo.1 _, (h.siz.fr f1 (fun e => h.nb.1 e.symm)).fr f2 (fun e => h.nb.1 e.symm), (h.hei.fr f1 (fun e => h.nb.2 e.symm)).fr f2 (fun e => h.nb.2 e.symm), h.ne, h.lo⟩
end
/-- The sizes and heights that stand are those of the table. -/
def Agrees (n : Nat) (T : List (Nat × Nat)) (len : Nat) (S H : Nat → Nat) : Prop := ∀ j, n ≤ j → j < len → S j = (T.getD (j - n) (0, 0)).1 ∧ H j = (T.getD (j - n) (0, 0)).2
theorem Agrees.next {n : Nat} {T : List (Nat × Nat)} {len : Nat} {S H : Nat → Nat} (h : Agrees (n + 1) T len S H) (a b : Nat) : Agrees n ((a, b) :: T) len (updN S n a) (updN H n b) := by
 intro j h1 h2
 by_cases e : j = n
 ·subst e; simp [updN]
 ·obtain ⟨q, hq⟩ : ∃ q, j - n = q + 1 := ⟨j - (n + 1), by omega⟩
  have := h j (by omega) h2
  rw [hq, List.getD_cons_succ, show q = j - (n + 1) by omega]
  simpa [updN, e] using this
end Go.Proofs.Ytdnkffplkleolaa
