/- Maps that the call makes, known entry by entry: what is found, what is put. -/
import Derived.Test.YtnfkcdnkmcifbaaDoorFr
import Derived.MapKept
import Derived.WideKeyRuns
import Derived.ChangeMaps4
import Derived.ChangeKeysEq
namespace Go.Proofs.YtnfkcdnkmcifbaaDoor
open Go.RowKit Go.ChangeMaps

theorem getM {P : Program} {w : World} {r : Nat} {es : Array MapEntry} {clock : Nat} (hb : w.heap[r]? = some (.map es clock)) : (getObj r).run P w = .ok (.map es clock) w := by
 simp [getObj, Sem.run, hb]
theorem setM {P : Program} {w : World} {r : Nat} {es : Array MapEntry} {clock : Nat} (o : Obj) (hb : w.heap[r]? = some (.map es clock)) : (setObj r o).run P w = .ok () (setBlock w r o) := by
 simp [setObj, Sem.run, hb, setBlock]
/-- The first entry of a key. -/
noncomputable def findV (k : Value) : List MapEntry → Nat → Option (Nat × Value)
 | [], _ => none
 | e :: es, i => @ite _ (e.key = k) (Classical.propDecidable _) (some (i, e.val)) (findV k es (i + 1))
theorem findV_yes {k : Value} : ∀ (es : List MapEntry) (i j : Nat) {e : MapEntry}, es[j]? = some e → e.key = k → (∀ m, m < j → ∀ x, es[m]? = some x → x.key ≠ k) → findV k es i = some (i + j, e.val)
 | [], _, _, _, h, _, _ => by cases h
 | x :: es, i, 0, e, h, hk, _ => by
  simp only [List.getElem?_cons_zero, Option.some.injEq] at h
  subst h
  simp [findV, hk]
 | x :: es, i, j + 1, e, h, hk, hn => by
  have h0 := hn 0 (by omega) x rfl
  simp only [findV, if_neg h0]
  rw [findV_yes es (i + 1) j (by simpa using h) hk (fun m hm y hy => hn (m + 1) (by omega) y (by simpa using hy))]
  congr 2; omega
theorem findV_no {k : Value} : ∀ (es : List MapEntry) (i : Nat), (∀ x ∈ es, x.key ≠ k) → findV k es i = none
 | [], _, _ => rfl
 | x :: es, i, h => by
  simp only [findV, if_neg (h x (by simp))]
  exact findV_no es (i + 1) fun y hy => h y (by simp [hy])

/-- A type of keys, those keys that are used, and what asking for one does. -/
structure KeyT (P : Program) (kt : TypeId) (K : Value → Prop) : Prop where
 check : ∀ (e : Bool) (w : World) (k : Value), K k → (Instr.checkKey e 10000 kt k).run P w = .ok () w
 find : ∀ (w : World) (k : Value) (es : List MapEntry), K k → (∀ x ∈ es, K x.key) → (Instr.findKey kt k es).run P w = .ok (findV k es 0) w
 stay : ∀ (w : World) (k : Value), K k → (Instr.keyThatStays k k).run P w = .ok k w

section
variable {P : Program} {kt : TypeId} {K : Value → Prop} {t e : TypeId} {w : World} {g clock : Nat} {es : Array MapEntry} {k v : Value}
theorem run_map_new (hK : KeyT P kt K) (ht : P.underlying t = some (.map kt e)) (hb : w.heap[g]? = some (.map es clock)) (hes : ∀ x ∈ es.toList, K x.key) (hk : K k) (hn : ∀ x ∈ es.toList, x.key ≠ k) :
  (Instr.mapUpdate t (.map (some g)) k v).run P w = .ok () (setBlock w g (.map (es.push ⟨k, v, clock⟩) (clock + 1))) := by
 unfold Instr.mapUpdate
 simp only [Sem.run_bind, run_underlying ht, Result.andThen_ok, getM hb, hK.check _ _ _ hk, hK.find _ _ _ hk hes, findV_no _ _ hn]
 exact setM _ hb
theorem run_map_old (hK : KeyT P kt K) (ht : P.underlying t = some (.map kt e)) (hb : w.heap[g]? = some (.map es clock)) (hes : ∀ x ∈ es.toList, K x.key) (hk : K k) {i : Nat} {x : MapEntry} (hi : es[i]? = some x) (hx : x.key = k)
  (hn : ∀ m, m < i → ∀ y, es[m]? = some y → y.key ≠ k) :
  (Instr.mapUpdate t (.map (some g)) k v).run P w = .ok () (setBlock w g (.map (es.modify i fun e => { e with key := k, val := v }) clock)) := by
 unfold Instr.mapUpdate
 simp only [Sem.run_bind, run_underlying ht, Result.andThen_ok, getM hb, hK.check _ _ _ hk, hK.find _ _ _ hk hes]
 rw [findV_yes es.toList 0 i (e := x) (by simpa using hi) hx (fun m hm y hy => hn m hm y (by simpa using hy))]
 simp only [Nat.zero_add, hi, Option.map_some, Option.getD_some, hx, Sem.run_bind, hK.stay _ _ hk, Result.andThen_ok]
 exact setM _ hb
theorem run_look_no (hK : KeyT P kt K) (ht : P.underlying t = some (.map kt e)) (hb : w.heap[g]? = some (.map es clock)) (hes : ∀ x ∈ es.toList, K x.key) (hk : K k) (hn : ∀ x ∈ es.toList, x.key ≠ k) {z : Value} (hz : (zeroValue e).run P w = .ok z w) (c : Bool) :
  (Instr.lookup t (.map (some g)) k c).run P w = .ok (if c then .tuple #[z, .bool false] else z) w := by
 unfold Instr.lookup
 simp only [Sem.run_bind, run_underlying ht, Result.andThen_ok, getM hb, Sem.run_pure, hK.check _ _ _ hk, hK.find _ _ _ hk hes, findV_no _ _ hn, hz]
theorem run_look_yes (hK : KeyT P kt K) (ht : P.underlying t = some (.map kt e)) (hb : w.heap[g]? = some (.map es clock)) (hes : ∀ x ∈ es.toList, K x.key) (hk : K k) {i : Nat} {x : MapEntry} (hi : es[i]? = some x) (hx : x.key = k)
  (hn : ∀ m, m < i → ∀ y, es[m]? = some y → y.key ≠ k) (c : Bool) :
  (Instr.lookup t (.map (some g)) k c).run P w = .ok (if c then .tuple #[x.val, .bool true] else x.val) w := by
 unfold Instr.lookup
 simp only [Sem.run_bind, run_underlying ht, Result.andThen_ok, getM hb, Sem.run_pure, hK.check _ _ _ hk, hK.find _ _ _ hk hes]
 rw [findV_yes es.toList 0 i (e := x) (by simpa using hi) hx (fun m hm y hy => hn m hm y (by simpa using hy))]
 simp
end

/-- Keys that are ints. -/
theorem findNow_int {q : IntKind} : ∀ (es : List MapEntry) (a : Int) (i : Nat), (∀ x ∈ es, ∃ b, x.key = .int q b) → Instr.findNow (.int q) (.int q a) es i = some (findV (.int q a) es i)
 | [], _, _, _ => rfl
 | x :: es, a, i, h => by
  obtain ⟨b, hb⟩ := h x (by simp)
  by_cases hab : a = b
  ·subst hab
   unfold findV
   rw [if_pos hb]
   simp [Instr.findNow, hb, Instr.sameNow]
  ·have h1 : (a == b) = false := by simpa using hab
   have h2 : ¬ (x.key = Value.int q a) := by rw [hb]; intro e; cases e; exact hab rfl
   unfold findV
   rw [if_neg h2]
   simp only [Instr.findNow, hb, Instr.sameNow, if_true, h1]
   exact findNow_int es a (i + 1) fun y hy => h y (by simp [hy])
theorem keyInt {P : Program} {kt : TypeId} {q : IntKind} (hu : P.underlying kt = some (.int q)) : KeyT P kt (fun v => ∃ a, v = .int q a) := by
 refine ⟨fun e w k hk => ?_, fun w k es hk hes => ?_, fun w k hk => ?_⟩
 ·obtain ⟨a, rfl⟩ := hk
  rw [show (10000 : Nat) = 9999 + 1 from rfl]
  unfold Instr.checkKey
  simp only [Sem.run_bind, run_underlying hu, Result.andThen_ok]
  rfl
 ·obtain ⟨a, rfl⟩ := hk
  exact MapKept.run_findKey hu (findNow_int es a 0 hes)
 ·obtain ⟨a, rfl⟩ := hk
  unfold Instr.keyThatStays
  have : Instr.sameBits 10000 (.int q a) (.int q a) = true := by
   rw [show (10000 : Nat) = 9999 + 1 from rfl]
   simp [Instr.sameBits]
  rw [if_pos this]
  rfl

/-! Keys that are pairs of ints. -/
section
variable {P : Program} {kt e : TypeId} {q : IntKind}
theorem part_int (he : P.underlying e = some (.int q)) (w : World) (cs : Array Value) (o : Nat) (v : Value) (h : cs[o]? = some v) : (part e cs o).run P w = .ok v w := by
 have ha : (isAgg e).run P w = .ok false w := by simp [isAgg, run_underlying he]
 unfold part
 simp [ha, h]
theorem eq_int (he : P.underlying e = some (.int q)) (w : World) (d : Nat) (x y : Int) : (Op.equalIn (d + 1) e (.int q x) (.int q y)).run P w = .ok (x == y) w := by
 simp [Op.equalIn, run_underlying he]
theorem item_int (he : P.underlying e = some (.int q)) (w : World) (d : Nat) (xs ys : Array Value) (i : Nat) (is : List Nat) (x y : Int) (hx : xs[i * 1]? = some (.int q x)) (hy : ys[i * 1]? = some (.int q y)) :
  (Op.eqItems (d + 1) e 1 xs ys (i :: is)).run P w = if (x == y) = true then (Op.eqItems (d + 1) e 1 xs ys is).run P w else .ok false w := by
 simp only [Op.eqItems, Sem.run_bind, part_int he w _ _ _ hx, part_int he w _ _ _ hy, Result.andThen_ok, eq_int he]
 cases x == y <;> rfl
theorem eq_pair (hu : P.underlying kt = some (.array 2 e)) (he : P.underlying e = some (.int q)) (hc : P.cellsOf e = 1) (w : World) (d : Nat) (a b a' b' : Int) :
  (Op.equalIn (d + 2) kt (.agg #[.int q a, .int q b]) (.agg #[.int q a', .int q b'])).run P w = .ok (a == a' && b == b') w := by
 obtain ⟨i, hi⟩ := info_of_underlying he
 rw [run_equalIn_array (P := P) w (d + 1) (e := e) (n := 2) (i := i) _ _ hu hi]
 rw [hc, show List.range 2 = [0, 1] from rfl]
 rw [item_int he w d _ _ 0 _ a a' rfl rfl, item_int he w d _ _ 1 _ b b' rfl rfl]
 have h0 : (Op.eqItems (d + 1) e 1 #[.int q a, .int q b] #[.int q a', .int q b'] []).run P w = .ok true w := by simp [Op.eqItems]
 rw [h0]
 cases a == a' <;> cases b == b' <;> rfl
theorem asking_pair (hu : P.underlying kt = some (.array 2 e)) (he : P.underlying e = some (.int q)) (hc : P.cellsOf e = 1) (w : World) (a b : Int) : ∀ (es : List MapEntry) (i : Nat), (∀ x ∈ es, ∃ c d, x.key = .agg #[.int q c, .int q d]) →
  (Instr.findAsking kt (.agg #[.int q a, .int q b]) es i).run P w = .ok (findV (.agg #[.int q a, .int q b]) es i) w
 | [], _, _ => by simp [Instr.findAsking, findV]
 | x :: es, i, h => by
  obtain ⟨c, d, hx⟩ := h x (by simp)
  have heq := eq_pair hu he hc w 9998 a b c d
  have ih := asking_pair hu he hc w a b es (i + 1) fun y hy => h y (by simp [hy])
  unfold Instr.findAsking findV
  simp only [Sem.run_bind, hx]
  have h1 : (Op.equal kt (.agg #[.int q a, .int q b]) (.agg #[.int q c, .int q d])).run P w = .ok (a == c && b == d) w := heq
  rw [h1]
  simp only [Result.andThen_ok]
  by_cases hab : a = c ∧ b = d
  ·obtain ⟨rfl, rfl⟩ := hab
   rw [if_pos (by simp), if_pos hx]
   simp
  ·have h2 : (a == c && b == d) = false := by
    rw [Bool.eq_false_iff]; intro hh; simp at hh; exact hab hh
   have h3 : ¬ (Value.agg #[.int q c, .int q d] = Value.agg #[.int q a, .int q b]) := by intro e; simp at e; exact hab ⟨e.1.symm, e.2.symm⟩
   rw [h2, if_neg (by decide), if_neg (by rw [hx]; exact h3)]
   exact ih
theorem check_pair (hu : P.underlying kt = some (.array 2 e)) (he : P.underlying e = some (.int q)) (hc : P.cellsOf e = 1) (w : World) (em : Bool) (n : Nat) (a b : Int) :
  (Instr.checkKey em (n + 2) kt (.agg #[.int q a, .int q b])).run P w = .ok () w := by
 obtain ⟨i, hi⟩ := info_of_underlying he
 have h1 : ∀ x : Int, (Instr.checkKey em (n + 1) e (.int q x)).run P w = .ok () w := fun x => by
  unfold Instr.checkKey
  simp only [Sem.run_bind, run_underlying he, Result.andThen_ok]
  rfl
 have hs := run_sizeOf (P := P) w hi
 rw [hc] at hs
 have p0 := part_int he w #[.int q a, .int q b] (0 * 1) (.int q a) rfl
 have p1 := part_int he w #[.int q a, .int q b] (1 * 1) (.int q b) rfl
 rw [show n + 2 = (n + 1) + 1 from rfl]
 unfold Instr.checkKey
 simp only [Sem.run_bind, run_underlying hu, Result.andThen_ok]
 simp only [Std.Legacy.Range.forIn_eq_forIn_range', Std.Legacy.Range.size, Nat.sub_zero, Nat.add_one_sub_one, Nat.div_one]
 rw [show List.range' 0 2 = [0, 1] from rfl]
 simp only [List.forIn_cons, List.forIn_nil, Sem.run_bind, hs, Result.andThen_ok, p0, p1, h1, Sem.run_pure]
theorem keyPair (hu : P.underlying kt = some (.array 2 e)) (he : P.underlying e = some (.int q)) (hc : P.cellsOf e = 1) : KeyT P kt (fun v => ∃ a b, v = .agg #[.int q a, .int q b]) := by
 refine ⟨fun em w k hk => ?_, fun w k es hk hes => ?_, fun w k hk => ?_⟩
 ·obtain ⟨a, b, rfl⟩ := hk
  exact check_pair hu he hc w em 9998 a b
 ·obtain ⟨a, b, rfl⟩ := hk
  rw [run_findKey_eq w (by rw [hu])]
  exact asking_pair hu he hc w a b es 0 hes
 ·obtain ⟨a, b, rfl⟩ := hk
  unfold Instr.keyThatStays
  have : Instr.sameBits 10000 (.agg #[.int q a, .int q b]) (.agg #[.int q a, .int q b]) = true := by
   rw [show (10000 : Nat) = 9998 + 1 + 1 from rfl]
   simp [Instr.sameBits]
  rw [if_pos this]
  rfl
end
end Go.Proofs.YtnfkcdnkmcifbaaDoor
