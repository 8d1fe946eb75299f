/- Walks and plain laws: CC Am Dh Ka Dd Kb Kc. -/
import Derived.Test.YtdnkffplkleolaaGreatM04
import Derived.Test.YtdnkffplkleolaaGreatM02
import Derived.BigQuiet
import Derived.OwnWalk
namespace Go.Proofs.YtdnkffplkleolaaGreat
open Go.RowKit
set_option maxRecDepth 100000
set_option maxHeartbeats 1000000

def starts : Nat → List (List Tw) → List Int
 | _, [] => []
 | p, u :: us => (p : Int) :: starts (p + u.length) us

theorem after_any (w : World) (ao : Option Addr) (cap n : Nat) (t : List Tw) (hs : Sv w ao n cap 5 (t.flatMap twc)) (hn : n ≤ 1000000) (hk : ∀ x ∈ t, 0 ≤ x.kids ∧ x.kids ≤ 1000000) (p d : Nat) (hd : afT 1 (t.drop p) = some d) (hp : p ≤ n) :
  Calls Tryz.prog 145 #[.slice ao n cap, .int .i64 p] w fun r w' => r = .returned (.int .i64 ((p + d : Nat) : Int)) ∧ w = w' := by
 obtain ⟨h1, h2⟩ := hs.bound
 have hl := hs.elems_len twc_len (by omega)
 have HSl := Lib.hid hs; clear hs
 have HL := Lib.hid hl; clear hl
 have HK := Lib.hid hk; clear hk
 have HN := Lib.hid hn; clear hn
 have HD := Lib.hid hd; clear hd
 have HP := Lib.hid hp; clear hp
 go_enter Tryz.func145, Tryz.ntmps145
 go_wp2_with fail
 go_loopw [1, 5] (fun i v wr => wr = w ∧ ∃ q L : Nat, i = .int .i64 q ∧ v = .int .i64 L ∧ Hid (q ≤ n ∧ L ≤ (q + 1) * 1000001 ∧ ∃ e, afT L (t.drop q) = some e ∧ q + e = p + d)) (fun i _ _ => n - (intOf i).toNat)
 case atStart => exact ⟨rfl, p, 1, rfl, rfl, HP.out, by omega, d, HD.out, rfl⟩
 case round =>
  obtain ⟨rfl, q, L, rfl, rfl, hI⟩ := hrel
  by_cases hL : L = 0
  ·subst hL
   have hq : q = p + d := by
    obtain ⟨e, h3, h4⟩ := hI.out.2.2
    rw [afT_zero] at h3
    cases h3; omega
   subst hq
   clear hI
   go_wp2_with fail
   go_ret
   exact ⟨rfl, rfl⟩
  ·have hq : q < n := by
    rcases Nat.lt_or_ge q n with h | h
    ·exact h
    ·exfalso
     obtain ⟨e, h3, h4⟩ := hI.out.2.2
     rw [List.drop_eq_nil_of_le (by have := HL.out; omega)] at h3
     obtain ⟨L', rfl⟩ : ∃ L', L = L' + 1 := ⟨L - 1, by omega⟩
     cases h3
   have hqz : q < t.length := by have := HL.out; omega
   obtain ⟨a, rfl, hc⟩ := HSl.out.elem twc_len q hqz (by omega)
   have hdr : t.drop q = t[q] :: t.drop (q + 1) := List.drop_eq_getElem_cons hqz
   have hkx := HK.out _ (List.getElem_mem hqz)
   have HX := Lib.hid hdr
   clear hdr
   generalize t[q]'_ = x at *
   clear hqz
   obtain ⟨x1, x2, x3, x4, x5⟩ := x
   obtain ⟨L, rfl⟩ : ∃ L', L = L' + 1 := ⟨L - 1, by omega⟩
   obtain ⟨hk0, hk1⟩ := hkx
   simp only [] at hk0 hk1
   obtain ⟨m, rfl⟩ := Int.eq_ofNat_of_zero_le hk0
   have HNx : Hid (q + 1 ≤ n ∧ (L + m) ≤ (q + 1 + 1) * 1000001 ∧ ∃ e, afT (L + m) (t.drop (q + 1)) = some e ∧ q + 1 + e = p + d) := by
    obtain ⟨hq1, hL1, e, h3, h4⟩ := hI.out
    rw [HX.out] at h3
    simp only [afT, Int.toNat_natCast, Option.map_eq_some_iff] at h3
    obtain ⟨e', h5, h6⟩ := h3
    exact ⟨by omega, by omega, e', h5, by omega⟩
   have hb1 : (L : Int) + m ≤ 100000000000000 := by have := HNx.out.2.1; have := HN.out; omega
   have c4 : wr.cell? ⟨(a.add (q * 5)).block, (a.add (q * 5)).off + 4, none⟩ = some (.int .i64 m) := hc 4 _ rfl
   have hq0 : (0 : Int) ≤ q := by omega
   have hqn : (q : Int) < n := by omega
   have hL0 : (0 : Int) < (L : Int) + 1 := by omega
   have hL2 : (0 : Int) ≤ L := by omega
   have hq3 : (q : Int) ≤ 100000000000000 := by have := HN.out; omega
   clear hI hc hL
   go_wp2_with fail
   go_roundw
   case rel => exact ⟨trivial, q + 1, L + m, by go_num, by go_num, HNx.out⟩
   case measure => simp [intOf]; omega

theorem iInt : Elem Tryz.prog 49 3 1 8 (.int .i64 0) := ⟨by kernel_rfl, by kernel_rfl, rfl, by decide⟩

theorem drop_flat {t A B : List Tw} {u : List Tw} {us : List (List Tw)} (h : t = A ++ (u :: us).flatten ++ B) (hu : IsTree u) : afT 1 (t.drop A.length) = some u.length := by
 subst h
 rw [List.append_assoc, List.drop_left, List.flatten_cons, List.append_assoc]
 exact hu _

theorem IsTree.pos {u : List Tw} (h : IsTree u) : 1 ≤ u.length := by
 cases u with
 | nil => have := h []; cases this
 | cons x u => simp
theorem trees_len : ∀ ts : List (List Tw), (∀ u ∈ ts, IsTree u) → ts.length ≤ ts.flatten.length
 | [], _ => by simp
 | u :: ts, h => by
  have := trees_len ts (fun u hu => h u (by simp [hu]))
  have := (h u (by simp)).pos
  simp only [List.length_cons, List.flatten_cons, List.length_append]; omega
theorem starts_app : ∀ (p : Nat) (a b : List (List Tw)), starts p (a ++ b) = starts p a ++ starts (p + a.flatten.length) b
 | p, [], b => by simp [starts]
 | p, u :: a, b => by
  simp only [List.cons_append, starts, starts_app (p + u.length) a b, List.flatten_cons, List.length_append, Nat.add_assoc]

theorem some_any (w : World) (ao : Option Addr) (cap n : Nat) (t : List Tw) (hs : Sv w ao n cap 5 (t.flatMap twc)) (hn : n ≤ 1000000) (hk : ∀ x ∈ t, 0 ≤ x.kids ∧ x.kids ≤ 1000000)
  (A B : List Tw) (ts : List (List Tw)) (ht : t = A ++ ts.flatten ++ B) (hts : ∀ u ∈ ts, IsTree u) (p e : Nat) (hp : p = A.length) (he : e = p + ts.flatten.length) :
  Calls Tryz.prog 130 #[.slice ao n cap, .int .i64 p, .int .i64 e] w fun r w' => (∃ v, r = .returned v ∧ Own w w' 3 1 v ts.length ((starts p ts).map (.int .i64))) := by
 have hl := hs.elems_len twc_len (by omega)
 have hen : e ≤ n := by
  have := congrArg List.length ht
  simp only [List.length_append] at this; omega
 have HTL := Lib.hid (trees_len ts hts)
 have HAf := Lib.hid (fun w' (hb : Below w.heap.size w w') q d hd hq => after_any w' ao cap n t (hs.below hb) hn hk q d hd hq)
 clear hs
 have HT := Lib.hid ht; clear ht
 have HTs := Lib.hid hts; clear hts
 have HL := Lib.hid hl; clear hl hk
 have HP := Lib.hid hp; clear hp
 have HE := Lib.hid he; clear he
 go_enter Tryz.func130, Tryz.ntmps130
 go_wp2_with fail
 go_loopw [1, 6] (fun i v wr => ∃ q : Nat, q ≤ e ∧ i = .int .i64 q ∧ Hid (∃ ts1 ts2 : List (List Tw), ts = ts1 ++ ts2 ∧ q = p + ts1.flatten.length ∧ Own w wr 3 1 v ts1.length ((starts p ts1).map (.int .i64)))) (fun i _ _ => e - (intOf i).toNat)
 case atStart => exact ⟨p, by have := HE.out; omega, rfl, [], ts, rfl, by simp, Own.nil w 3 1⟩
 case round =>
  obtain ⟨q, hq, rfl, hI⟩ := hrel
  by_cases hlt : q < e
  ·obtain ⟨ts1, ts2, h3, h4, h5⟩ := hI.out
   clear hI
   cases ts2 with
   | nil =>
    exfalso
    have := HE.out
    rw [h3, List.append_nil] at this
    omega
   | cons u ts2 =>
    have HU := Lib.hid (HTs.out u (by rw [h3]; simp))
    have HO := Lib.hid h5
    have H3 := Lib.hid h3
    have H4 := Lib.hid h4
    have HD := Lib.hid (drop_flat (t := t) (A := A ++ ts1.flatten) (B := B) (u := u) (us := ts2) (by rw [HT.out, h3]; simp) HU.out)
    have hAl : (A ++ ts1.flatten).length = q := by rw [List.length_append, ← HP.out, h4]
    rw [hAl] at HD
    have HLn : Hid ((ts1.length + 1) * 8 ≤ 140737488355328 ∧ ts1.length + 1 ≤ maxLen) := by
     have h6 := HTL.out
     rw [h3] at h6
     have h7 := HE.out
     rw [h3] at h7
     simp only [List.length_append, List.length_cons, List.flatten_append, List.flatten_cons] at h6 h7
     have := trees_len ts1 (fun u hu => HTs.out u (by rw [h3]; simp [hu]))
     unfold Hid maxLen; omega
    have HQe : Hid (q + u.length ≤ e ∧ 1 ≤ u.length) := by
     have h7 := HE.out
     rw [h3] at h7
     simp only [List.length_append, List.flatten_append, List.flatten_cons] at h7
     exact ⟨by omega, HU.out.pos⟩
    clear h3 h4 h5 hAl
    have hq0 : (0 : Int) ≤ q := by omega
    go_wp2_with (first
     | (at_builtin; go_loud (refine wpList_app1 w _ rfl _ _ 49 3 rfl iInt u6 ts1.length _ rfl HO.out #[.int .i64 q] rfl rfl (by simp [Value.oneCell']) HLn.out.1 HLn.out.2 ?_; intro v' w8 hO8; have HO8 := Lib.hid hO8; clear hO8))
     | (go_at_call 145; refine (HAf.out _ HO8.out.2 q u.length HD.out (by omega)).mono ?_; rintro e' w9 ⟨rfl, rfl⟩))
    go_roundw
    case rel =>
     refine ⟨q + u.length, HQe.out.1, rfl, ts1 ++ [u], ts2, by rw [H3.out]; simp, by rw [H4.out]; simp; omega, ?_⟩
     have := HO8.out
     simp only [List.length_append, List.length_singleton, starts_app, List.map_append, starts, List.map_cons, List.map_nil]
     rw [← H4.out]
     exact this
    case measure => have := HQe.out; simp [intOf]; omega
  ·have HO : Hid (Own w wr 3 1 u6 ts.length ((starts p ts).map (.int .i64))) := by
    obtain ⟨ts1, ts2, h3, h4, h5⟩ := hI.out
    cases ts2 with
    | nil => rw [List.append_nil] at h3; subst h3; exact h5
    | cons u ts2 =>
     exfalso
     have h6 := (HTs.out u (by rw [h3]; simp)).pos
     have h7 := HE.out
     rw [h3] at h7
     simp only [List.length_append, List.flatten_append, List.flatten_cons] at h7
     omega
   clear hI
   go_wp2_with fail
   go_ret
   exact ⟨_, rfl, HO.out⟩

theorem roots_any (w : World) (ao : Option Addr) (cap n : Nat) (t : List Tw) (hs : Sv w ao n cap 5 (t.flatMap twc)) (hn : n ≤ 1000000) (hk : ∀ x ∈ t, 0 ≤ x.kids ∧ x.kids ≤ 1000000)
  (ts : List (List Tw)) (ht : t = ts.flatten) (hts : ∀ u ∈ ts, IsTree u) :
  Calls Tryz.prog 110 #[.slice ao n cap] w fun r w' => (∃ v, r = .returned v ∧ Own w w' 3 1 v ts.length ((starts 0 ts).map (.int .i64))) := by
 have hl := hs.elems_len twc_len (by omega)
 have HX := Lib.hid (some_any w ao cap n t hs hn hk [] [] ts (by simp [ht]) hts 0 n rfl (by rw [← hl, ht]; simp))
 clear hs hl ht hts hk
 go_enter Tryz.func110, Tryz.ntmps110
 go_wp2_with (first | (go_at_call 130; refine HX.out.mono ?_; rintro e w2 ⟨v, rfl, ho⟩; have HO := Lib.hid ho; clear ho))
 go_ret
 exact ⟨_, rfl, HO.out⟩

theorem Roots_any (w : World) (ao : Option Addr) (cap n : Nat) (t : List Tw) (hs : Sv w ao n cap 5 (t.flatMap twc)) (hn : n ≤ 1000000) (hk : ∀ x ∈ t, 0 ≤ x.kids ∧ x.kids ≤ 1000000) (hf : forestB t = true)
  (ts : List (List Tw)) (ht : t = ts.flatten) (hts : ∀ u ∈ ts, IsTree u) :
  Calls Tryz.prog 89 #[.slice ao n cap] w fun r w' => (∃ v, r = .returned v ∧ Own w w' 3 1 v ts.length ((starts 0 ts).map (.int .i64))) := by
 have HX := Lib.hid (fun w' hb => roots_any w' ao cap n t (hs.below hb) hn hk ts ht hts)
 have HF := Lib.hid (forest_any w ao cap n t hs hn (fun x hx => (hk x hx).2))
 rw [hf] at HF
 clear hs ht hts hk
 go_enter Tryz.func89, Tryz.ntmps89
 go_wp2_with (first
  | (go_at_call 109; refine HF.out.mono ?_; rintro e w2 ⟨rfl, hb2⟩; have HB2 := Lib.hid hb2; clear hb2)
  | (go_at_call 110; refine (HX.out _ HB2.out).mono ?_; rintro e w3 ⟨v, rfl, ho⟩; have HO := Lib.hid ho; clear ho))
 go_ret
 exact ⟨_, rfl, HO.out.since HB2.out⟩
end Go.Proofs.YtdnkffplkleolaaGreat
namespace Go.Proofs.YtdnkffplkleolaaGreat
open Go.RowKit
set_option maxRecDepth 100000

theorem elemTw : Elem Tryz.prog 32 74 5 40 (.agg #[.int .i64 0, .int .i64 0, .int .i64 0, .int .i64 0, .int .i64 0]) := ⟨by kernel_rfl, by kernel_rfl, by decide, by decide⟩
theorem hrow.setCell {w : World} {g : Nat} {cs : Array Value} {t : TypeId} (h : hrow w g cs t) (o : Nat) (v : Value) : hrow (w.setCell ⟨g, o, none⟩ v) g (cs.setIfInBounds o v) t := heap_setCell_same _ _ _ _ _ _ h.h
def tw (lv a b m : Nat) : Tw := ⟨0, lv, a, b, m⟩
/-- The mark of a place in a list. -/
def mkI (k i : Int) : Int := 1000003 * (k + 7) + i
theorem mark_any (w : World) (k i : Int) (h0 : 0 ≤ k) (h1 : k ≤ 1000) (h2 : 0 ≤ i) (h3 : i ≤ 10000) :
  Calls Tryz.prog 55 #[.int .i64 k, .int .i64 i] w fun r w' => r = .returned (.int .i64 (mkI k i)) ∧ w = w' := by
 go_enter Tryz.func55, Tryz.ntmps55
 go_wp2_with fail
 go_ret
 exact ⟨rfl, rfl⟩
/-- A twig of a mark; what a mark is, is left open: a large number in it would cost the kernel too much. -/
def mkT (μ : Int → Int → Int) (k i : Int) : Tw := ⟨μ k i, 0, 0, 0, 0⟩
/-- The marks are those of μ. -/
def MkC (μ : Int → Int → Int) : Prop := ∀ (w : World) (k i : Int), 0 ≤ k → k ≤ 1000 → 0 ≤ i → i ≤ 10000 →
  Calls Tryz.prog 94 #[.int .i64 k, .int .i64 i] w fun r w' => r = .returned (.agg #[.int .i64 (μ k i), .int .i64 0, .int .i64 0, .int .i64 0, .int .i64 0]) ∧ Below w.heap.size w w'
theorem markTw_any (w : World) (k i : Int) (h0 : 0 ≤ k) (h1 : k ≤ 1000) (h2 : 0 ≤ i) (h3 : i ≤ 10000) :
  Calls Tryz.prog 94 #[.int .i64 k, .int .i64 i] w fun r w' => r = .returned (.agg #[.int .i64 (mkI k i), .int .i64 0, .int .i64 0, .int .i64 0, .int .i64 0]) ∧ Below w.heap.size w w' := by
 have HM := Lib.hid (fun w' => mark_any w' k i h0 h1 h2 h3)
 clear h0 h1 h2 h3
 go_enter Tryz.func94, Tryz.ntmps94
 go_wp2_with (first | (go_at_call 55; refine (HM.out _).mono ?_; rintro e w2 ⟨rfl, rfl⟩))
 exact bodyPost_ret (v := .agg #[.int .i64 (mkI k i), .int .i64 0, .int .i64 0, .int .i64 0, .int .i64 0]) (by simp [results, Tryz.results94, go_sem]) rfl ⟨rfl, (Below.refl _ _).alloc (Nat.le_refl _) _⟩
end Go.Proofs.YtdnkffplkleolaaGreat
namespace Go.Proofs.YtdnkffplkleolaaGreat
open Go.RowKit
set_option maxRecDepth 100000
set_option maxHeartbeats 2000000

def bt (w : List Int) (p : Nat) : Int := w.getD p (-1)
def byc (l : List Int) : List Value := l.map fun c => .int .u8 c
theorem byc_len (l : List Int) : (byc l).length = l.length := by simp [byc]
theorem byc_one (l : List Int) : ∀ u ∈ byc l, u.oneCell' = true := by intro u hu; simp only [byc, List.mem_map] at hu; obtain ⟨_, _, rfl⟩ := hu; rfl
theorem bt_get {l : List Int} {p : Nat} (h : p < l.length) : l[p] = bt l p := by simp [bt, List.getD_eq_getElem?_getD, h]
theorem Sv.byte {w : World} {ao : Option Addr} {n cap : Nat} {l : List Int} (h : Sv w ao n cap 1 (byc l)) (k : Nat) (hk : k < l.length) : ∃ a, ao = some a ∧ w.cell? (a.add k) = some (.int .u8 (bt l k)) := by
 obtain ⟨a, ha, hc⟩ := h.cell k (by rw [byc_len]; exact hk)
 exact ⟨a, ha, by rw [hc]; simp [byc, hk, bt_get hk]⟩
theorem Sv.byte_len {w : World} {ao : Option Addr} {n cap : Nat} {l : List Int} (h : Sv w ao n cap 1 (byc l)) : l.length = n := by
 have := h.len; rw [byc_len] at this; omega

/-- The byte that marks a place. -/
def mbI (k i : Int) : Int := IntKind.u64.wrap (IntKind.u64.wrap (mkI k i) * 11400714819323198485) / 72057594037927936 % 256
/-- The bytes that mark are those of β: what they are is left open. -/
def MbC (β : Int → Int → Int) : Prop := ∀ (w : World) (k i : Int), 0 ≤ k → k ≤ 1000 → 0 ≤ i → i ≤ 10000 →
  Calls Tryz.prog 30 #[.int .i64 k, .int .i64 i] w fun r w' => r = .returned (.int .u8 (β k i)) ∧ w = w'
theorem markBy_any : MbC mbI := by
 intro w k i h0 h1 h2 h3
 have HM := Lib.hid (fun w' => mark_any w' k i h0 h1 h2 h3)
 clear h0 h1 h2 h3
 go_enter Tryz.func30, Tryz.ntmps30
 go_wp2_with (first | (go_at_call 55; refine (HM.out _).mono ?_; rintro e w2 ⟨rfl, rfl⟩))
 go_ret
 exact ⟨rfl, rfl⟩
theorem mbI_bd (k i : Int) : 0 ≤ mbI k i ∧ mbI k i < 256 := by
 unfold mbI
 exact ⟨Int.emod_nonneg _ (by decide), Int.emod_lt_of_pos _ (by decide)⟩
theorem markTw_all : MkC mkI := fun w k i h0 h1 h2 h3 => markTw_any w k i h0 h1 h2 h3
end Go.Proofs.YtdnkffplkleolaaGreat
namespace Go.Proofs.YtdnkffplkleolaaGreat
open Go.RowKit
set_option maxRecDepth 100000
set_option maxHeartbeats 2000000

def bmarks (β : Int → Int → Int) (k : Nat) : List Int := (List.range k).map fun i : Nat => β 1 (i : Int)
theorem bmarks_len (β : Int → Int → Int) (k : Nat) : (bmarks β k).length = k := by simp [bmarks]
theorem bmarks_succ (β : Int → Int → Int) (k : Nat) : bmarks β (k + 1) = bmarks β k ++ [β 1 (k : Int)] := by simp [bmarks, List.range_succ]
theorem infoBy : (Tryz.prog.info? 5).map (fun i => (i.zero, i.size, i.bytes)) = some (some (.int .u8 0), 1, 1) := by kernel_rfl
theorem one_new (w : World) (t : TypeId) (x : Value) : ∀ j u, [x][j]? = some u → (w.alloc (.cells #[x] t)).cell? ((⟨w.heap.size, 0, none⟩ : Addr).add j) = some u :=
 fun j u h => World.news_of_block (heap_alloc_new w (.cells #[x] t)) j u h
theorem byc_append (a b : List Int) : byc (a ++ b) = byc a ++ byc b := by simp [byc]

theorem lentBy_any (β : Int → Int → Int) (HMb : Hid (MbC β)) (w : World) (ao : Option Addr) (n cap : Nat) (W : List Int) (hs : Sv w ao n cap 1 (byc W)) (hbig : n ≤ 100000) :
  Calls Tryz.prog 10 #[.slice ao n cap] w fun r w' => r = .returned (.slice (some ⟨w.heap.size, 0, none⟩) n (n + 12)) ∧ hrow w' w.heap.size (byc (W ++ bmarks β 12)).toArray 5 ∧ Below w.heap.size w w' := by
 obtain ⟨h1, h2⟩ := hs.bound
 have hwl := hs.byte_len
 have HSl := Lib.hid hs; have HWl := Lib.hid hwl; clear hs hwl
 obtain ⟨i0, hi, hz0, hz1, hz2⟩ := info_parts infoBy
 have Hi := Lib.hid hi; have Hz0 := Lib.hid hz0; have Hz1 := Lib.hid hz1; have Hz2 := Lib.hid hz2
 clear hi hz0 hz1 hz2
 have e12 : ((n : Int) + 12) = ((n + 12 : Nat) : Int) := by omega
 have HE := Lib.hid e12; clear e12
 have HBy := Lib.hid (show i0.bytes * (n + 12) ≤ 281474976710656 by rw [Hz2.out]; omega)
 have HOc := Lib.hid (byc_one W)
 go_enter Tryz.func10, Tryz.ntmps10
 go_wp2_with (first
  | (at_make; refine wpList_make_own _ rfl _ _ 26 rfl w.heap.size 5 i0 _ 1 Tryz.underlying26 Hi.out Hz0.out Hz1.out _ _ _ (n + 12) rfl rfl HE.out HBy.out (by unfold maxLen; omega) (Nat.le_refl _) ?_; intro w1 hown1 hg1; have HO1 := Lib.hid hown1; have HB1 := Lib.hid (((Below.refl w.heap.size w).grown hg1 (Nat.le_refl _) (by simp))); clear hown1 hg1)
  | (at_builtin; refine wpList_append_fits_any _ rfl (.tmp 9) (.tmp 10) 26 rfl w.heap.size 5 i0 1 Tryz.underlying26 Hi.out Hz1.out w.heap.size 0 (n + 12) [] rfl HO1.out ao n cap (byc W) rfl (by have := HWl.out; simp [byc_len]; omega) ?_ ?_ HOc.out (by omega) ?_))
 ·intro hn
  have h := HSl.out.nn hn
  omega
 ·intro ad had j u hj
  obtain ⟨ad', h1, h2⟩ := (HSl.out.below HB1.out).cell j (List.getElem?_eq_some_iff.1 hj).1
  rw [had] at h1; cases h1
  exact h2.trans hj
 intro w2 hown2 hg2
 have HO2 := Lib.hid hown2
 have HB2 := Lib.hid (HB1.out.grown hg2 HB1.out.size (by intro k hk; cases hk; exact Nat.le_refl _))
 clear hown2 hg2 HO1 HB1
 go_wp2_with fail
 go_loopw [3, 4] (fun v i wr => ∃ k : Nat, k ≤ 12 ∧ i = .int .i64 k ∧ v = .slice (some ⟨w.heap.size, 0, none⟩) (n + k) (n + 12) ∧
   Hid (wr.ownsRow w.heap.size 5 1 (.slice (some ⟨w.heap.size, 0, none⟩) (n + k) (n + 12)) (n + k) (byc (W ++ bmarks β k)) ∧ Below w.heap.size w wr)) (fun _ i _ => 12 - (intOf i).toNat)
 case atStart => exact ⟨0, by omega, rfl, rfl, by simpa [bmarks] using HO2.out, HB2.out⟩
 case round =>
  obtain ⟨k, hk, rfl, rfl, hI⟩ := hrel
  have HO := Lib.hid hI.out.1
  have HB := Lib.hid hI.out.2
  clear hI
  by_cases hlt : k < 12
  ·go_wp2_with (first
    | (go_at_call 30; refine (HMb.out _ _ _ (by decide) (by decide) (by omega) (by omega)).mono ?_; rintro e w' ⟨rfl, rfl⟩)
    | (at_builtin; refine wpList_append_fits _ rfl (.tmp 16) (.tmp 19) 26 rfl w.heap.size 5 i0 1 Tryz.underlying26 Hi.out Hz1.out w.heap.size (n + k) (n + 12) _ rfl (HO.out.alloc _) ⟨wr.heap.size, 0, none⟩ 1 1 [_] rfl rfl (one_new _ _ _) (by simp [Value.oneCell']) (by omega) ?_; intro w3 hown3 hg3; have HO3 := Lib.hid hown3; have HB3 := Lib.hid ((HB.out.alloc HB.out.size _).grown hg3 (by have := HB.out.size; simp; omega) (by intro k hk; cases hk; exact Nat.le_refl _)); clear hown3 hg3))
   go_roundw
   case rel =>
    refine ⟨k + 1, by omega, by go_num, rfl, ?_, HB3.out⟩
    have := HO3.out
    rw [bmarks_succ]
    simpa [Nat.add_assoc, byc] using this
   case measure => simp [intOf]; omega
  ·have hke : k = 12 := by omega
   subst hke
   go_wp2_with fail
   go_ret
   refine ⟨rfl, ?_, HB.out⟩
   rcases HO.out.2 with ⟨h, _⟩ | ⟨g, c, cur, h, _, hh, h3, h4, h5, h6⟩
   ·cases h
   ·cases h
    have hcur : cur = (byc (W ++ bmarks β 12)).toArray := by
     apply Array.toList_inj.1
     rw [← h6, List.take_of_length_le (by simp [h5])]
    rw [← hcur]; exact hh
end Go.Proofs.YtdnkffplkleolaaGreat
namespace Go.Proofs.YtdnkffplkleolaaGreat
open Go.RowKit
set_option maxRecDepth 100000
set_option maxHeartbeats 2000000

theorem keptBy_any (β : Int → Int → Int) (HMb : Hid (MbC β)) (w : World) (g : Nat) (ao : Option Addr) (n cap : Nat) (W : List Int) (hr : hrow w g (byc (W ++ bmarks β 12)).toArray 5) (hs : Sv w ao n cap 1 (byc W)) (hbig : n ≤ 5000) :
  Calls Tryz.prog 16 #[.slice (some ⟨g, 0, none⟩) n (n + 12), .slice ao n cap] w fun r w' => r = .returned (.bool true) ∧ Below w.heap.size w w' := by
 obtain ⟨h1, h2⟩ := hs.bound
 have hwl := hs.byte_len
 have hcell : ∀ w', Below w.heap.size w w' → ∀ j, j < n + 12 → w'.cell? ⟨g, j, none⟩ = some (.int .u8 (if j < n then bt W j else β 1 ((j - n : Nat) : Int))) := fun w' hb j hj => by
  rw [(hr.below hb).cell, byc_append, List.getElem?_toArray]
  by_cases hjn : j < n
  ·rw [if_pos hjn, List.getElem?_append_left (by rw [byc_len]; omega)]
   simp [byc, bt, List.getD_eq_getElem?_getD, show j < W.length by omega]
  ·rw [if_neg hjn, List.getElem?_append_right (by rw [byc_len]; omega), byc_len, hwl]
   simp [byc, bmarks, show j - n < 12 by omega]
 have HC := Lib.hid hcell; have HS := Lib.hid (fun w' (hb : Below w.heap.size w w') => hs.below hb); have HWl := Lib.hid hwl
 clear hcell hr hs hwl
 go_enter Tryz.func16, Tryz.ntmps16
 go_wp2_with fail
 go_loopw [6] (fun i wr => ∃ k : Nat, k ≤ n + 12 ∧ i = .int .i64 k ∧ Hid (Below w.heap.size w wr)) (fun i _ => n + 12 - (intOf i).toNat)
 case atStart => exact ⟨0, by omega, rfl, Below.refl _ _⟩
 case round =>
  obtain ⟨k, hk, rfl, HB⟩ := hrel
  by_cases hlt : k < n + 12
  ·have hlt' : (k : Int) < (n : Int) + 12 := by omega
   have hc := HC.out wr HB.out k hlt
   by_cases hkn : k < n
   ·rw [if_pos hkn] at hc
    have hkn' : (k : Int) < n := by omega
    have t1 : decide (k < n) = true := decide_eq_true hkn
    have t2 : decide (n ≤ k) = false := decide_eq_false (by omega)
    obtain ⟨aw, rfl, hq⟩ := (HS.out wr HB.out).byte k (by have := HWl.out; omega)
    generalize bt W k = c at *
    have later : ∀ (p : Addr) (v : Value), wr.cell? p = some v → ∀ y : Later wr, y.val.cell? p = some v := fun p v h y => (y.ok.cell (World.block_lt_of_cell? wr _ h)).trans h
    have hc := later _ _ hc; have hq := later _ _ hq
    clear later
    go_wp2_with fail
    refine wp_region_later (by kernel_rfl) (by kernel_rfl) ?_
    repeat (go_big_quiet_step (fail))
    refine wpQuiet_nil ?_
    intro w5 hw5
    obtain ⟨y, rfl⟩ := hw5
    have HB5 := Lib.hid (HB.out.trans (y.ok.mono HB.out.size))
    clear hc hq
    generalize y.val = w5 at *
    go_wp2_with fail
    go_roundw
    case rel => exact ⟨k + 1, by omega, by go_num, HB5⟩
    case measure => simp [intOf]; omega
   ·rw [if_neg hkn] at hc
    have hkn' : (n : Int) ≤ k := by omega
    have t1 : decide (k < n) = false := decide_eq_false hkn
    have t2 : decide (n ≤ k) = true := decide_eq_true (by omega)
    rw [show ((k - n : Nat) : Int) = (k : Int) - n by omega] at hc
    have HM := Lib.hid (fun y : Later wr => HMb.out y.val 1 ((k : Int) - n) (by decide) (by decide) (by omega) (by omega))
    generalize β 1 ((k : Int) - n) = c at *
    have later : ∀ (p : Addr) (v : Value), wr.cell? p = some v → ∀ y : Later wr, y.val.cell? p = some v := fun p v h y => (y.ok.cell (World.block_lt_of_cell? wr _ h)).trans h
    have hc := later _ _ hc
    clear later
    go_wp2_with fail
    refine wp_region_later (by kernel_rfl) (by kernel_rfl) ?_
    repeat (go_big_quiet_step ((go_at_call 30; exact Calls.later_same (HM.out _))))
    refine wpQuiet_nil ?_
    intro w5 hw5
    obtain ⟨y, rfl⟩ := hw5
    have HB5 := Lib.hid (HB.out.trans (y.ok.mono HB.out.size))
    clear hc HM
    generalize y.val = w5 at *
    go_wp2_with fail
    go_roundw
    case rel => exact ⟨k + 1, by omega, by go_num, HB5⟩
    case measure => simp [intOf]; omega
  ·have hge : (n : Int) + 12 ≤ k := by omega
   go_wp2_with fail
   go_ret
   exact ⟨rfl, HB.out⟩
end Go.Proofs.YtdnkffplkleolaaGreat
namespace Go.Proofs.YtdnkffplkleolaaGreat
open Go.RowKit
set_option maxRecDepth 100000
set_option maxHeartbeats 2000000

/-- The marks are those of μ. -/
def MiC (μ : Int → Int → Int) : Prop := ∀ (w : World) (k i : Int), 0 ≤ k → k ≤ 1000 → 0 ≤ i → i ≤ 10000 →
  Calls Tryz.prog 55 #[.int .i64 k, .int .i64 i] w fun r w' => r = .returned (.int .i64 (μ k i)) ∧ w = w'
theorem mark_all : MiC mkI := fun w k i h0 h1 h2 h3 => mark_any w k i h0 h1 h2 h3
theorem inc_len (l : List Int) : (inc l).length = l.length := by simp [inc]
theorem inc_one (l : List Int) : ∀ u ∈ inc l, u.oneCell' = true := by intro u hu; simp only [inc, List.mem_map] at hu; obtain ⟨_, _, rfl⟩ := hu; rfl
theorem Sv.intc {w : World} {ao : Option Addr} {n cap : Nat} {l : List Int} (h : Sv w ao n cap 1 (inc l)) (k : Nat) (hk : k < l.length) : ∃ a, ao = some a ∧ w.cell? (a.add k) = some (.int .i64 (bt l k)) := by
 obtain ⟨a, ha, hc⟩ := h.cell k (by rw [inc_len]; exact hk)
 exact ⟨a, ha, by rw [hc]; simp [inc, hk, bt_get hk]⟩
theorem Sv.int_len {w : World} {ao : Option Addr} {n cap : Nat} {l : List Int} (h : Sv w ao n cap 1 (inc l)) : l.length = n := by
 have := h.len; rw [inc_len] at this; omega
def imarks (β : Int → Int → Int) (k : Nat) : List Int := (List.range k).map fun i : Nat => β 1 (i : Int)
theorem imarks_len (β : Int → Int → Int) (k : Nat) : (imarks β k).length = k := by simp [imarks]
theorem imarks_succ (β : Int → Int → Int) (k : Nat) : imarks β (k + 1) = imarks β k ++ [β 1 (k : Int)] := by simp [imarks, List.range_succ]
theorem infoIn : (Tryz.prog.info? 3).map (fun i => (i.zero, i.size, i.bytes)) = some (some (.int .i64 0), 1, 8) := by kernel_rfl
theorem inc_append (a b : List Int) : inc (a ++ b) = inc a ++ inc b := by simp [inc]

theorem lentIn_any (β : Int → Int → Int) (HMb : Hid (MiC β)) (w : World) (ao : Option Addr) (n cap : Nat) (W : List Int) (hs : Sv w ao n cap 1 (inc W)) (hbig : n ≤ 100000) :
  Calls Tryz.prog 84 #[.slice ao n cap] w fun r w' => r = .returned (.slice (some ⟨w.heap.size, 0, none⟩) n (n + 12)) ∧ hrow w' w.heap.size (inc (W ++ imarks β 12)).toArray 3 ∧ Below w.heap.size w w' := by
 obtain ⟨h1, h2⟩ := hs.bound
 have hwl := hs.int_len
 have HSl := Lib.hid hs; have HWl := Lib.hid hwl; clear hs hwl
 obtain ⟨i0, hi, hz0, hz1, hz2⟩ := info_parts infoIn
 have Hi := Lib.hid hi; have Hz0 := Lib.hid hz0; have Hz1 := Lib.hid hz1; have Hz2 := Lib.hid hz2
 clear hi hz0 hz1 hz2
 have e12 : ((n : Int) + 12) = ((n + 12 : Nat) : Int) := by omega
 have HE := Lib.hid e12; clear e12
 have HBy := Lib.hid (show i0.bytes * (n + 12) ≤ 281474976710656 by rw [Hz2.out]; omega)
 have HOc := Lib.hid (inc_one W)
 go_enter Tryz.func84, Tryz.ntmps84
 go_wp2_with (first
  | (at_make; refine wpList_make_own _ rfl _ _ 49 rfl w.heap.size 3 i0 _ 1 Tryz.underlying49 Hi.out Hz0.out Hz1.out _ _ _ (n + 12) rfl rfl HE.out HBy.out (by unfold maxLen; omega) (Nat.le_refl _) ?_; intro w1 hown1 hg1; have HO1 := Lib.hid hown1; have HB1 := Lib.hid (((Below.refl w.heap.size w).grown hg1 (Nat.le_refl _) (by simp))); clear hown1 hg1)
  | (at_builtin; refine wpList_append_fits_any _ rfl (.tmp 9) (.tmp 10) 49 rfl w.heap.size 3 i0 1 Tryz.underlying49 Hi.out Hz1.out w.heap.size 0 (n + 12) [] rfl HO1.out ao n cap (inc W) rfl (by have := HWl.out; simp [inc_len]; omega) ?_ ?_ HOc.out (by omega) ?_))
 ·intro hn
  have h := HSl.out.nn hn
  omega
 ·intro ad had j u hj
  obtain ⟨ad', h1, h2⟩ := (HSl.out.below HB1.out).cell j (List.getElem?_eq_some_iff.1 hj).1
  rw [had] at h1; cases h1
  exact h2.trans hj
 intro w2 hown2 hg2
 have HO2 := Lib.hid hown2
 have HB2 := Lib.hid (HB1.out.grown hg2 HB1.out.size (by intro k hk; cases hk; exact Nat.le_refl _))
 clear hown2 hg2 HO1 HB1
 go_wp2_with fail
 go_loopw [3, 4] (fun v i wr => ∃ k : Nat, k ≤ 12 ∧ i = .int .i64 k ∧ v = .slice (some ⟨w.heap.size, 0, none⟩) (n + k) (n + 12) ∧
   Hid (wr.ownsRow w.heap.size 3 1 (.slice (some ⟨w.heap.size, 0, none⟩) (n + k) (n + 12)) (n + k) (inc (W ++ imarks β k)) ∧ Below w.heap.size w wr)) (fun _ i _ => 12 - (intOf i).toNat)
 case atStart => exact ⟨0, by omega, rfl, rfl, by simpa [imarks] using HO2.out, HB2.out⟩
 case round =>
  obtain ⟨k, hk, rfl, rfl, hI⟩ := hrel
  have HO := Lib.hid hI.out.1
  have HB := Lib.hid hI.out.2
  clear hI
  by_cases hlt : k < 12
  ·go_wp2_with (first
    | (go_at_call 55; refine (HMb.out _ _ _ (by decide) (by decide) (by omega) (by omega)).mono ?_; rintro e w' ⟨rfl, rfl⟩)
    | (at_builtin; refine wpList_append_fits _ rfl (.tmp 16) (.tmp 19) 49 rfl w.heap.size 3 i0 1 Tryz.underlying49 Hi.out Hz1.out w.heap.size (n + k) (n + 12) _ rfl (HO.out.alloc _) ⟨wr.heap.size, 0, none⟩ 1 1 [_] rfl rfl (one_new _ _ _) (by simp [Value.oneCell']) (by omega) ?_; intro w3 hown3 hg3; have HO3 := Lib.hid hown3; have HB3 := Lib.hid ((HB.out.alloc HB.out.size _).grown hg3 (by have := HB.out.size; simp; omega) (by intro k hk; cases hk; exact Nat.le_refl _)); clear hown3 hg3))
   go_roundw
   case rel =>
    refine ⟨k + 1, by omega, by go_num, rfl, ?_, HB3.out⟩
    have := HO3.out
    rw [imarks_succ]
    simpa [Nat.add_assoc, inc] using this
   case measure => simp [intOf]; omega
  ·have hke : k = 12 := by omega
   subst hke
   go_wp2_with fail
   go_ret
   refine ⟨rfl, ?_, HB.out⟩
   rcases HO.out.2 with ⟨h, _⟩ | ⟨g, c, cur, h, _, hh, h3, h4, h5, h6⟩
   ·cases h
   ·cases h
    have hcur : cur = (inc (W ++ imarks β 12)).toArray := by
     apply Array.toList_inj.1
     rw [← h6, List.take_of_length_le (by simp [h5])]
    rw [← hcur]; exact hh
end Go.Proofs.YtdnkffplkleolaaGreat
namespace Go.Proofs.YtdnkffplkleolaaGreat
open Go.RowKit
set_option maxRecDepth 100000
set_option maxHeartbeats 2000000

theorem keptIn_any (β : Int → Int → Int) (HMb : Hid (MiC β)) (w : World) (g : Nat) (ao : Option Addr) (n cap : Nat) (W : List Int) (hr : hrow w g (inc (W ++ imarks β 12)).toArray 3) (hs : Sv w ao n cap 1 (inc W)) (hbig : n ≤ 5000) :
  Calls Tryz.prog 91 #[.slice (some ⟨g, 0, none⟩) n (n + 12), .slice ao n cap] w fun r w' => r = .returned (.bool true) ∧ Below w.heap.size w w' := by
 obtain ⟨h1, h2⟩ := hs.bound
 have hwl := hs.int_len
 have hcell : ∀ w', Below w.heap.size w w' → ∀ j, j < n + 12 → w'.cell? ⟨g, j, none⟩ = some (.int .i64 (if j < n then bt W j else β 1 ((j - n : Nat) : Int))) := fun w' hb j hj => by
  rw [(hr.below hb).cell, inc_append, List.getElem?_toArray]
  by_cases hjn : j < n
  ·rw [if_pos hjn, List.getElem?_append_left (by rw [inc_len]; omega)]
   simp [inc, bt, List.getD_eq_getElem?_getD, show j < W.length by omega]
  ·rw [if_neg hjn, List.getElem?_append_right (by rw [inc_len]; omega), inc_len, hwl]
   simp [inc, imarks, show j - n < 12 by omega]
 have HC := Lib.hid hcell; have HS := Lib.hid (fun w' (hb : Below w.heap.size w w') => hs.below hb); have HWl := Lib.hid hwl
 clear hcell hr hs hwl
 go_enter Tryz.func91, Tryz.ntmps91
 go_wp2_with fail
 go_loopw [6] (fun i wr => ∃ k : Nat, k ≤ n + 12 ∧ i = .int .i64 k ∧ Hid (Below w.heap.size w wr)) (fun i _ => n + 12 - (intOf i).toNat)
 case atStart => exact ⟨0, by omega, rfl, Below.refl _ _⟩
 case round =>
  obtain ⟨k, hk, rfl, HB⟩ := hrel
  by_cases hlt : k < n + 12
  ·have hlt' : (k : Int) < (n : Int) + 12 := by omega
   have hc := HC.out wr HB.out k hlt
   by_cases hkn : k < n
   ·rw [if_pos hkn] at hc
    have hkn' : (k : Int) < n := by omega
    have t1 : decide (k < n) = true := decide_eq_true hkn
    have t2 : decide (n ≤ k) = false := decide_eq_false (by omega)
    obtain ⟨aw, rfl, hq⟩ := (HS.out wr HB.out).intc k (by have := HWl.out; omega)
    generalize bt W k = c at *
    have later : ∀ (p : Addr) (v : Value), wr.cell? p = some v → ∀ y : Later wr, y.val.cell? p = some v := fun p v h y => (y.ok.cell (World.block_lt_of_cell? wr _ h)).trans h
    have hc := later _ _ hc; have hq := later _ _ hq
    clear later
    go_wp2_with fail
    refine wp_region_later (by kernel_rfl) (by kernel_rfl) ?_
    repeat (go_big_quiet_step (fail))
    refine wpQuiet_nil ?_
    intro w5 hw5
    obtain ⟨y, rfl⟩ := hw5
    have HB5 := Lib.hid (HB.out.trans (y.ok.mono HB.out.size))
    clear hc hq
    generalize y.val = w5 at *
    go_wp2_with fail
    go_roundw
    case rel => exact ⟨k + 1, by omega, by go_num, HB5⟩
    case measure => simp [intOf]; omega
   ·rw [if_neg hkn] at hc
    have hkn' : (n : Int) ≤ k := by omega
    have t1 : decide (k < n) = false := decide_eq_false hkn
    have t2 : decide (n ≤ k) = true := decide_eq_true (by omega)
    rw [show ((k - n : Nat) : Int) = (k : Int) - n by omega] at hc
    have HM := Lib.hid (fun y : Later wr => HMb.out y.val 1 ((k : Int) - n) (by decide) (by decide) (by omega) (by omega))
    generalize β 1 ((k : Int) - n) = c at *
    have later : ∀ (p : Addr) (v : Value), wr.cell? p = some v → ∀ y : Later wr, y.val.cell? p = some v := fun p v h y => (y.ok.cell (World.block_lt_of_cell? wr _ h)).trans h
    have hc := later _ _ hc
    clear later
    go_wp2_with fail
    refine wp_region_later (by kernel_rfl) (by kernel_rfl) ?_
    repeat (go_big_quiet_step ((go_at_call 55; exact Calls.later_same (HM.out _))))
    refine wpQuiet_nil ?_
    intro w5 hw5
    obtain ⟨y, rfl⟩ := hw5
    have HB5 := Lib.hid (HB.out.trans (y.ok.mono HB.out.size))
    clear hc HM
    generalize y.val = w5 at *
    go_wp2_with fail
    go_roundw
    case rel => exact ⟨k + 1, by omega, by go_num, HB5⟩
    case measure => simp [intOf]; omega
  ·have hge : (n : Int) + 12 ≤ k := by omega
   go_wp2_with fail
   go_ret
   exact ⟨rfl, HB.out⟩
end Go.Proofs.YtdnkffplkleolaaGreat
namespace Go.Proofs.YtdnkffplkleolaaGreat
open Go.RowKit
set_option maxRecDepth 100000
set_option maxHeartbeats 2000000

theorem Sv.tw5 {w : World} {ao : Option Addr} {n cap : Nat} {t : List Tw} (h : Sv w ao n cap 5 (t.flatMap twc)) {k : Nat} (hk : k < t.length) :
  ∃ a, ao = some a ∧ w.cell? (a.add (k * 5)) = some (.int .i64 t[k].rule) ∧ w.cell? ⟨(a.add (k * 5)).block, (a.add (k * 5)).off + 1, none⟩ = some (.int .i64 t[k].lev) ∧ w.cell? ⟨(a.add (k * 5)).block, (a.add (k * 5)).off + 2, none⟩ = some (.int .i64 t[k].fr) ∧
   w.cell? ⟨(a.add (k * 5)).block, (a.add (k * 5)).off + 3, none⟩ = some (.int .i64 t[k].to) ∧ w.cell? ⟨(a.add (k * 5)).block, (a.add (k * 5)).off + 4, none⟩ = some (.int .i64 t[k].kids) := by
 obtain ⟨a, ha, hc⟩ := h.elem twc_len k hk (by decide)
 refine ⟨a, ha, ?_, ?_, ?_, ?_, ?_⟩
 ·exact hc 0 _ rfl
 ·exact hc 1 _ rfl
 ·exact hc 2 _ rfl
 ·exact hc 3 _ rfl
 ·exact hc 4 _ rfl

theorem sameTw_any (w : World) (ao bo : Option Addr) (n ac bc : Nat) (t : List Tw) (ha : Sv w ao n ac 5 (t.flatMap twc)) (hb : Sv w bo n bc 5 (t.flatMap twc)) :
  Calls Tryz.prog 32 #[.slice ao n ac, .slice bo n bc] w fun r w' => r = .returned (.bool true) ∧ Below w.heap.size w w' := by
 obtain ⟨h1, h2⟩ := ha.bound
 obtain ⟨h3, h4⟩ := hb.bound
 have hl := ha.elems_len twc_len (by omega)
 have HA := Lib.hid ha; have HB := Lib.hid hb; have HL := Lib.hid hl
 clear ha hb hl
 go_enter Tryz.func32, Tryz.ntmps32
 go_wp2_with fail
 go_loopw [5] (fun i wr => ∃ k : Nat, k ≤ n ∧ i = .int .i64 k ∧ Hid (Below w.heap.size w wr)) (fun i _ => n - (intOf i).toNat)
 case atStart => exact ⟨0, by omega, rfl, Below.refl _ _⟩
 case round =>
  obtain ⟨k, hk, rfl, HBr⟩ := hrel
  by_cases hlt : k < n
  ·have hlt' : (k : Int) < n := by omega
   have hkl : k < t.length := by have := HL.out; omega
   obtain ⟨a, rfl, a0, a1, a2, a3, a4⟩ := (HA.out.below HBr.out).tw5 hkl
   obtain ⟨b, rfl, b0, b1, b2, b3, b4⟩ := (HB.out.below HBr.out).tw5 hkl
   generalize t[k] = x at *
   obtain ⟨x1, x2, x3, x4, x5⟩ := x
   simp only [] at a0 a1 a2 a3 a4 b0 b1 b2 b3 b4
   clear hkl
   go_wp2_with fail
   go_quiet (fail)
   go_wp2_with fail
   go_roundw
   case rel => exact ⟨k + 1, by omega, by go_num, HBr.out.trans (below_drewN (Below.refl _ _) _ |>.mono HBr.out.size)⟩
   case measure => simp [intOf]; omega
  ·have hge : (n : Int) ≤ k := by omega
   go_wp2_with fail
   go_ret
   exact ⟨rfl, HBr.out⟩
end Go.Proofs.YtdnkffplkleolaaGreat
namespace Go.Proofs.YtdnkffplkleolaaGreat
open Go.RowKit
set_option maxRecDepth 100000
set_option maxHeartbeats 2000000

theorem sameIn_any (w : World) (ao bo : Option Addr) (n ac bc : Nat) (t : List Int) (ha : Sv w ao n ac 1 (inc t)) (hb : Sv w bo n bc 1 (inc t)) :
  Calls Tryz.prog 92 #[.slice ao n ac, .slice bo n bc] w fun r w' => r = .returned (.bool true) ∧ Below w.heap.size w w' := by
 obtain ⟨h1, h2⟩ := ha.bound
 obtain ⟨h3, h4⟩ := hb.bound
 have hl := ha.int_len
 have HA := Lib.hid ha; have HB := Lib.hid hb; have HL := Lib.hid hl
 clear ha hb hl
 go_enter Tryz.func92, Tryz.ntmps92
 go_wp2_with fail
 go_loopw [5] (fun i wr => ∃ k : Nat, k ≤ n ∧ i = .int .i64 k ∧ Hid (Below w.heap.size w wr)) (fun i _ => n - (intOf i).toNat)
 case atStart => exact ⟨0, by omega, rfl, Below.refl _ _⟩
 case round =>
  obtain ⟨k, hk, rfl, HBr⟩ := hrel
  by_cases hlt : k < n
  ·have hlt' : (k : Int) < n := by omega
   have hkl : k < t.length := by have := HL.out; omega
   obtain ⟨a, rfl, a0⟩ := (HA.out.below HBr.out).intc k hkl
   obtain ⟨b, rfl, b0⟩ := (HB.out.below HBr.out).intc k hkl
   generalize bt t k = x at *
   clear hkl
   go_wp2_with fail
   go_quiet (fail)
   go_wp2_with fail
   go_roundw
   case rel => exact ⟨k + 1, by omega, by go_num, HBr.out.trans (below_drewN (Below.refl _ _) _ |>.mono HBr.out.size)⟩
   case measure => simp [intOf]; omega
  ·have hge : (n : Int) ≤ k := by omega
   go_wp2_with fail
   go_ret
   exact ⟨rfl, HBr.out⟩
theorem sameFo_any (w : World) (fi : Bool) (fe ff : Int) (ao bo : Option Addr) (ac bc : Nat) (t : List Tw) (ha : Sv w ao t.length ac 5 (t.flatMap twc)) (hb : Sv w bo t.length bc 5 (t.flatMap twc)) :
  Calls Tryz.prog 14 #[.agg #[.bool fi, .int .i64 fe, .int .i64 ff, .slice ao t.length ac], .agg #[.bool fi, .int .i64 fe, .int .i64 ff, .slice bo t.length bc]] w fun r w' => r = .returned (.bool true) ∧ Below w.heap.size w w' := by
 have HS := Lib.hid (fun w' (hw : Below w.heap.size w w') => sameTw_any w' ao bo t.length ac bc t (ha.below hw) (hb.below hw))
 have HB0 := Lib.hid (al2 (Below.refl w.heap.size w) (.cells #[.bool fi, .int .i64 fe, .int .i64 ff, .slice ao t.length ac] 34) (.cells #[.bool fi, .int .i64 fe, .int .i64 ff, .slice bo t.length bc] 34))
 have HA0 := Lib.hid ((hrow.new w #[.bool fi, .int .i64 fe, .int .i64 ff, .slice ao t.length ac] 34).below ((Below.refl _ _).alloc (Nat.le_refl _) (.cells #[.bool fi, .int .i64 fe, .int .i64 ff, .slice bo t.length bc] 34)))
 have HZ0 : Hid (hrow ((w.alloc (.cells #[.bool fi, .int .i64 fe, .int .i64 ff, .slice ao t.length ac] 34)).alloc (.cells #[.bool fi, .int .i64 fe, .int .i64 ff, .slice bo t.length bc] 34)) (w.heap.size + 1) #[.bool fi, .int .i64 fe, .int .i64 ff, .slice bo t.length bc] 34) := by have h := hrow.new (w.alloc (.cells #[.bool fi, .int .i64 fe, .int .i64 ff, .slice ao t.length ac] 34)) #[.bool fi, .int .i64 fe, .int .i64 ff, .slice bo t.length bc] 34; rwa [World.size_alloc] at h
 clear ha hb
 have he1 : (fe == fe) = true := by simp
 have he2 : (ff == ff) = true := by simp
 go_enter Tryz.func14, Tryz.ntmps14
 go_upto_region 1 with (fail)
 revert HB0 HA0 HZ0
 generalize (w.alloc _).alloc _ = w1
 generalize hh : w.heap.size + 1 = h1
 intro HB0 HA0 HZ0
 have HS1 := Lib.hid (HS.out w1 HB0.out)
 obtain ⟨a0, a1, a2, a3⟩ := (HA0.out).c4
 obtain ⟨b0, b1, b2, b3⟩ := (HZ0.out).c4
 cases fi
 all_goals
  go_wp2_with fail
  refine (HS1.out).mono ?_
  rintro e w2 ⟨rfl, hb2⟩
  have HB2 := Lib.hid (HB0.out.trans (hb2.mono HB0.out.size))
  clear hb2
  go_wp2_with fail
  go_ret
  exact ⟨rfl, HB2.out⟩
end Go.Proofs.YtdnkffplkleolaaGreat
namespace Go.Proofs.YtdnkffplkleolaaGreat
open Go.RowKit
set_option maxRecDepth 100000
set_option maxHeartbeats 2000000

def es0 : ByteArray := ⟨#[]⟩
def mkR (μ : Int → Int → Int) (k i : Int) : Ru := ⟨es0, μ k i⟩
def MrC (μ : Int → Int → Int) : Prop := ∀ (w : World) (k i : Int), 0 ≤ k → k ≤ 1000 → 0 ≤ i → i ≤ 10000 →
  Calls Tryz.prog 52 #[.int .i64 k, .int .i64 i] w fun r w' => r = .returned (.agg #[.string es0, .int .i64 (μ k i)]) ∧ Below w.heap.size w w'
theorem markRu_all : MrC mkI := by
 intro w k i h0 h1 h2 h3
 have HM := Lib.hid (fun w' => mark_any w' k i h0 h1 h2 h3)
 clear h0 h1 h2 h3
 go_enter Tryz.func52, Tryz.ntmps52
 go_wp2_with (first | (go_at_call 55; refine (HM.out _).mono ?_; rintro e w2 ⟨rfl, rfl⟩))
 exact bodyPost_ret (v := .agg #[.string es0, .int .i64 (mkI k i)]) (by simp [results, Tryz.results52, go_sem, es0]) rfl ⟨rfl, (Below.refl _ _).alloc (Nat.le_refl _) _⟩
def rmarks (β : Int → Int → Int) (k : Nat) : List Ru := (List.range k).map fun i : Nat => mkR β 1 (i : Int)
theorem rmarks_len (β : Int → Int → Int) (k : Nat) : (rmarks β k).length = k := by simp [rmarks]
theorem rmarks_succ (β : Int → Int → Int) (k : Nat) : rmarks β (k + 1) = rmarks β k ++ [mkR β 1 (k : Int)] := by simp [rmarks, List.range_succ]
theorem ruc_one (t : List Ru) : ∀ u ∈ t.flatMap ruc, u.oneCell' = true := by
 intro u hu
 simp only [List.mem_flatMap, ruc] at hu
 obtain ⟨x, _, hx⟩ := hu
 simp at hx
 rcases hx with rfl | rfl <;> rfl
theorem infoRu : (Tryz.prog.info? 112).map (fun i => (i.zero, i.size, i.bytes)) = some (some (.agg #[.string es0, .int .i64 0]), 2, 24) := by kernel_rfl
theorem two_new (w : World) (t : TypeId) (x y : Value) : ∀ j u, [x, y][j]? = some u → (w.alloc (.cells #[x, y] t)).cell? ((⟨w.heap.size, 0, none⟩ : Addr).add j) = some u :=
 fun j u h => World.news_of_block (heap_alloc_new w (.cells #[x, y] t)) j u h

theorem lentRu_any (β : Int → Int → Int) (HMb : Hid (MrC β)) (w : World) (ao : Option Addr) (n cap : Nat) (R : List Ru) (hs : Sv w ao n cap 2 (R.flatMap ruc)) (hbig : n ≤ 100000) :
  Calls Tryz.prog 28 #[.slice ao n cap] w fun r w' => r = .returned (.slice (some ⟨w.heap.size, 0, none⟩) n (n + 12)) ∧ hrow w' w.heap.size ((R ++ rmarks β 12).flatMap ruc).toArray 112 ∧ Below w.heap.size w w' := by
 obtain ⟨h1, h2⟩ := hs.bound
 have hwl := hs.n_eq ruc_len (by decide)
 have HSl := Lib.hid hs; have HWl := Lib.hid hwl; clear hs hwl
 obtain ⟨i0, hi, hz0, hz1, hz2⟩ := info_parts infoRu
 have Hi := Lib.hid hi; have Hz0 := Lib.hid hz0; have Hz1 := Lib.hid hz1; have Hz2 := Lib.hid hz2
 clear hi hz0 hz1 hz2
 have e12 : ((n : Int) + 12) = ((n + 12 : Nat) : Int) := by omega
 have HE := Lib.hid e12; clear e12
 have HBy := Lib.hid (show i0.bytes * (n + 12) ≤ 281474976710656 by rw [Hz2.out]; omega)
 have HOc := Lib.hid (ruc_one R)
 go_enter Tryz.func28, Tryz.ntmps28
 go_wp2_with (first
  | (at_make; refine wpList_make_own _ rfl _ _ 22 rfl w.heap.size 112 i0 _ 2 Tryz.underlying22 Hi.out Hz0.out Hz1.out _ _ _ (n + 12) rfl rfl HE.out HBy.out (by unfold maxLen; omega) (Nat.le_refl _) ?_; intro w1 hown1 hg1; have HO1 := Lib.hid hown1; have HB1 := Lib.hid (((Below.refl w.heap.size w).grown hg1 (Nat.le_refl _) (by simp))); clear hown1 hg1)
  | (at_builtin; refine wpList_append_fits_any _ rfl (.tmp 9) (.tmp 10) 22 rfl w.heap.size 112 i0 2 Tryz.underlying22 Hi.out Hz1.out w.heap.size 0 (n + 12) [] rfl HO1.out ao n cap (R.flatMap ruc) rfl HSl.out.len ?_ ?_ HOc.out (by omega) ?_))
 ·intro hn
  have h := HSl.out.nn hn
  omega
 ·intro ad had j u hj
  obtain ⟨ad', h1, h2⟩ := (HSl.out.below HB1.out).cell j (List.getElem?_eq_some_iff.1 hj).1
  rw [had] at h1; cases h1
  exact h2.trans hj
 intro w2 hown2 hg2
 have HO2 := Lib.hid hown2
 have HB2 := Lib.hid (HB1.out.grown hg2 HB1.out.size (by intro k hk; cases hk; exact Nat.le_refl _))
 clear hown2 hg2 HO1 HB1
 go_wp2_with fail
 go_loopw [3, 4] (fun v i wr => ∃ k : Nat, k ≤ 12 ∧ i = .int .i64 k ∧ v = .slice (some ⟨w.heap.size, 0, none⟩) (n + k) (n + 12) ∧
   Hid (wr.ownsRow w.heap.size 112 2 (.slice (some ⟨w.heap.size, 0, none⟩) (n + k) (n + 12)) (n + k) ((R ++ rmarks β k).flatMap ruc) ∧ Below w.heap.size w wr)) (fun _ i _ => 12 - (intOf i).toNat)
 case atStart => exact ⟨0, by omega, rfl, rfl, by simpa [rmarks] using HO2.out, HB2.out⟩
 case round =>
  obtain ⟨k, hk, rfl, rfl, hI⟩ := hrel
  have HO := Lib.hid hI.out.1
  have HB := Lib.hid hI.out.2
  clear hI
  by_cases hlt : k < 12
  ·go_wp2_with fail
   refine (HMb.out _ _ _ (by decide) (by decide) (by omega) (by omega)).mono ?_
   rintro e w' ⟨rfl, hb'⟩
   have HO' := Lib.hid (owns_fr HO.out (Fr.of_below (F := fun _ => False) hb') (fun _ _ h => h))
   have HB' := Lib.hid (HB.out.trans (hb'.mono HB.out.size))
   clear hb' HO HB
   go_wp2_with (at_builtin; refine wpList_append_fits _ rfl (.tmp 16) (.tmp 19) 22 rfl w.heap.size 112 i0 2 Tryz.underlying22 Hi.out Hz1.out w.heap.size (n + k) (n + 12) _ rfl (HO'.out.alloc _) ⟨w'.heap.size, 0, none⟩ 1 1 [_, _] rfl rfl (two_new _ _ _ _) (by simp [Value.oneCell']) (by omega) ?_; intro w3 hown3 hg3; have HO3 := Lib.hid hown3; have HB3 := Lib.hid ((HB'.out.alloc HB'.out.size _).grown hg3 (by have := HB'.out.size; simp; omega) (by intro k hk; cases hk; exact Nat.le_refl _)); clear hown3 hg3)
   go_roundw
   case rel =>
    refine ⟨k + 1, by omega, by go_num, rfl, ?_, HB3.out⟩
    have := HO3.out
    rw [rmarks_succ]
    simpa [Nat.add_assoc, ruc, mkR] using this
   case measure => simp [intOf]; omega
  ·have hke : k = 12 := by omega
   subst hke
   go_wp2_with fail
   go_ret
   refine ⟨rfl, ?_, HB.out⟩
   rcases HO.out.2 with ⟨h, _⟩ | ⟨g, c, cur, h, _, hh, h3, h4, h5, h6⟩
   ·cases h
   ·cases h
    have hcur : cur = ((R ++ rmarks β 12).flatMap ruc).toArray := by
     apply Array.toList_inj.1
     rw [← h6, List.take_of_length_le (by simp [h5])]
    rw [← hcur]; exact hh
end Go.Proofs.YtdnkffplkleolaaGreat
