/- Two words are compared. -/
import Derived.Test.YtnfkcdnkmcifbaaDoorWf
import Derived.Test.YtnfkcdnkmcifbaaDoorLater
import Derived.Test.YtnfkcdnkmcifbaaDoorProg
import Derived.ChangeKeysEq
import Derived.Lib.Strings
import Derived.WalkLawsBesides
import Derived.WalkSpells
namespace Go.Proofs.YtnfkcdnkmcifbaaDoor
open Go.RowKit
set_option maxRecDepth 100000
set_option maxHeartbeats 1000000

section
theorem u64_und : Tryd.prog.underlying 29 = some (.int .u64) := by kernel_rfl
theorem part_u64 (w : World) (cs : Array Value) (o : Nat) (v : Value) (h : cs[o]? = some v) : (part 29 cs o).run Tryd.prog w = .ok v w := by
 have ha : (isAgg 29).run Tryd.prog w = .ok false w := by simp [isAgg, run_underlying u64_und]
 unfold part
 simp [ha, h]
theorem eq_u64 (w : World) (d : Nat) (x y : Int) : (Op.equalIn (d + 1) 29 (.int .u64 x) (.int .u64 y)).run Tryd.prog w = .ok (x == y) w := by
 simp [Op.equalIn, run_underlying u64_und]
theorem items_step (w : World) (d : Nat) (xs ys : Array Value) (i : Nat) (is : List Nat) (x y : Int) (hx : xs[i * 1]? = some (.int .u64 x)) (hy : ys[i * 1]? = some (.int .u64 y)) :
  (Op.eqItems (d + 1) 29 1 xs ys (i :: is)).run Tryd.prog w = if (x == y) = true then (Op.eqItems (d + 1) 29 1 xs ys is).run Tryd.prog w else .ok false w := by
 simp only [Op.eqItems, Sem.run_bind, part_u64 w _ _ _ hx, part_u64 w _ _ _ hy, Result.andThen_ok, eq_u64]
 cases x == y <;> rfl
theorem cls_eqd (d : Nat) (w : World) (a b c e a' b' c' e' : Int) : (Op.equalIn (d + 2) 31 (.agg #[.int .u64 a, .int .u64 b, .int .u64 c, .int .u64 e]) (.agg #[.int .u64 a', .int .u64 b', .int .u64 c', .int .u64 e'])).run Tryd.prog w = .ok (a == a' && b == b' && c == c' && e == e') w := by
 obtain ⟨i, hi⟩ := Option.isSome_iff_exists.1 (show (Tryd.prog.info? 29).isSome = true by kernel_rfl)
 rw [run_equalIn_array (P := Tryd.prog) w (d + 1) (e := 29) (n := 4) (i := i) _ _ Tryd.underlying31 hi]
 rw [show Tryd.prog.cellsOf 29 = 1 by kernel_rfl, show List.range 4 = [0, 1, 2, 3] from rfl]
 rw [items_step w d _ _ 0 _ a a' rfl rfl, items_step w d _ _ 1 _ b b' rfl rfl, items_step w d _ _ 2 _ c c' rfl rfl, items_step w d _ _ 3 _ e e' rfl rfl]
 have h0 : (Op.eqItems (d + 1) 29 1 #[.int .u64 a, .int .u64 b, .int .u64 c, .int .u64 e] #[.int .u64 a', .int .u64 b', .int .u64 c', .int .u64 e'] []).run Tryd.prog w = .ok true w := by simp [Op.eqItems]
 rw [h0]
 cases a == a' <;> cases b == b' <;> cases c == c' <;> cases e == e' <;> rfl
/-- Two classes are compared word by word. -/
theorem cls_eq (w : World) (a b c d a' b' c' d' : Int) : (Op.equalIn 10000 31 (.agg #[.int .u64 a, .int .u64 b, .int .u64 c, .int .u64 d]) (.agg #[.int .u64 a', .int .u64 b', .int .u64 c', .int .u64 d'])).run Tryd.prog w = .ok (a == a' && b == b' && c == c' && d == d') w := by
 rw [show (10000 : Nat) = 9998 + 2 from rfl]
 exact cls_eqd 9998 w a b c d a' b' c' d'
end
theorem fields_step {P : Program} (w : World) (d : Nat) (xs ys : Array Value) (f : Field) (fs : List Field) (x y : Value) (b : Bool) (hn : f.name ≠ "_") (hx : (part f.type xs f.offset).run P w = .ok x w) (hy : (part f.type ys f.offset).run P w = .ok y w) (he : (Op.equalIn d f.type x y).run P w = .ok b w) :
  (Op.eqFields d xs ys (f :: fs)).run P w = if b = true then (Op.eqFields d xs ys fs).run P w else .ok false w := by
 simp only [Op.eqFields]
 rw [if_pos hn]
 simp only [Sem.run_bind, hx, hy, Result.andThen_ok, he]
 cases b <;> rfl
theorem wd_fs : (Tryd.prog.fieldsOf 33).toList.map (fun f => (f.name, f.type, f.offset)) = [("Kind", 28, 0), ("At", 3, 1), ("Next", 3, 2), ("Text", 9, 3), ("Level", 3, 4), ("Class", 31, 5)] := by kernel_rfl
theorem part_cls (w : World) (k a n l c0 c1 c2 c3 : Int) (t : ByteArray) : (part 31 #[.int .i64 k, .int .i64 a, .int .i64 n, .string t, .int .i64 l, .int .u64 c0, .int .u64 c1, .int .u64 c2, .int .u64 c3] 5).run Tryd.prog w = .ok (.agg #[.int .u64 c0, .int .u64 c1, .int .u64 c2, .int .u64 c3]) w := by kernel_rfl
theorem kind_und : Tryd.prog.underlying 28 = some (.int .i64) := by kernel_rfl
theorem int_und : Tryd.prog.underlying 3 = some (.int .i64) := by kernel_rfl
theorem str_und : Tryd.prog.underlying 9 = some .string := by kernel_rfl
theorem wd_eq (w : World) (k a n l c0 c1 c2 c3 k' a' n' l' c0' c1' c2' c3' : Int) (t t' : ByteArray) :
  (Op.equalIn 10000 33 (.agg #[.int .i64 k, .int .i64 a, .int .i64 n, .string t, .int .i64 l, .int .u64 c0, .int .u64 c1, .int .u64 c2, .int .u64 c3]) (.agg #[.int .i64 k', .int .i64 a', .int .i64 n', .string t', .int .i64 l', .int .u64 c0', .int .u64 c1', .int .u64 c2', .int .u64 c3'])).run Tryd.prog w =
   .ok (k == k' && (a == a' && (n == n' && (t.toList == t'.toList && (l == l' && (c0 == c0' && c1 == c1' && c2 == c2' && c3 == c3')))))) w := by
 rw [show (10000 : Nat) = 9999 + 1 from rfl, run_equalIn_struct (P := Tryd.prog) w 9999 33 _ _ (by kernel_rfl) (by kernel_rfl)]
 have h := wd_fs
 generalize (Tryd.prog.fieldsOf 33).toList = fs at *
 have hl : fs.length = 6 := by have := congrArg List.length h; simpa using this
 obtain ⟨f0, f1, f2, f3, f4, f5, rfl⟩ : ∃ f0 f1 f2 f3 f4 f5, fs = [f0, f1, f2, f3, f4, f5] := by
  match fs, hl with
  | [f0, f1, f2, f3, f4, f5], _ => exact ⟨_, _, _, _, _, _, rfl⟩
 ·clear hl
  simp only [List.map_cons, List.map_nil, List.cons.injEq, Prod.mk.injEq, and_true] at h
  obtain ⟨⟨n0, t0, o0⟩, ⟨n1, t1, o1⟩, ⟨n2, t2, o2⟩, ⟨n3, t3, o3⟩, ⟨n4, t4, o4⟩, n5, t5, o5⟩ := h
  rw [fields_step w 9999 _ _ f0 _ (.int .i64 k) (.int .i64 k') (k == k') (by rw [n0]; decide) (by rw [t0, o0]; exact run_part_plain _ (by kernel_rfl) rfl) (by rw [t0, o0]; exact run_part_plain _ (by kernel_rfl) rfl) (by rw [t0]; exact run_equalIn_int w 9998 _ _ _ _ _ kind_und)]
  rw [fields_step w 9999 _ _ f1 _ (.int .i64 a) (.int .i64 a') (a == a') (by rw [n1]; decide) (by rw [t1, o1]; exact run_part_plain _ (by kernel_rfl) rfl) (by rw [t1, o1]; exact run_part_plain _ (by kernel_rfl) rfl) (by rw [t1]; exact run_equalIn_int w 9998 _ _ _ _ _ int_und)]
  rw [fields_step w 9999 _ _ f2 _ (.int .i64 n) (.int .i64 n') (n == n') (by rw [n2]; decide) (by rw [t2, o2]; exact run_part_plain _ (by kernel_rfl) rfl) (by rw [t2, o2]; exact run_part_plain _ (by kernel_rfl) rfl) (by rw [t2]; exact run_equalIn_int w 9998 _ _ _ _ _ int_und)]
  rw [fields_step w 9999 _ _ f3 _ (.string t) (.string t') (t.toList == t'.toList) (by rw [n3]; decide) (by rw [t3, o3]; exact run_part_plain _ (by kernel_rfl) rfl) (by rw [t3, o3]; exact run_part_plain _ (by kernel_rfl) rfl) (by rw [t3]; exact run_equalIn_string w 9998 _ _ _ str_und)]
  rw [fields_step w 9999 _ _ f4 _ (.int .i64 l) (.int .i64 l') (l == l') (by rw [n4]; decide) (by rw [t4, o4]; exact run_part_plain _ (by kernel_rfl) rfl) (by rw [t4, o4]; exact run_part_plain _ (by kernel_rfl) rfl) (by rw [t4]; exact run_equalIn_int w 9998 _ _ _ _ _ int_und)]
  rw [fields_step w 9999 _ _ f5 _ _ _ (c0 == c0' && c1 == c1' && c2 == c2' && c3 == c3') (by rw [n5]; decide) (by rw [t5, o5]; exact part_cls w _ _ _ _ _ _ _ _ _) (by rw [t5, o5]; exact part_cls w _ _ _ _ _ _ _ _ _) (by rw [t5]; exact cls_eqd 9997 w _ _ _ _ _ _ _ _)]
  have h0 : (Op.eqFields 9999 #[.int .i64 k, .int .i64 a, .int .i64 n, .string t, .int .i64 l, .int .u64 c0, .int .u64 c1, .int .u64 c2, .int .u64 c3] #[.int .i64 k', .int .i64 a', .int .i64 n', .string t', .int .i64 l', .int .u64 c0', .int .u64 c1', .int .u64 c2', .int .u64 c3'] []).run Tryd.prog w = .ok true w := rfl
  rw [h0]
  cases k == k' <;> cases a == a' <;> cases n == n' <;> cases t.toList == t'.toList <;> cases l == l' <;> cases (c0 == c0' && c1 == c1' && c2 == c2' && c3 == c3') <;> rfl
end Go.Proofs.YtnfkcdnkmcifbaaDoor
