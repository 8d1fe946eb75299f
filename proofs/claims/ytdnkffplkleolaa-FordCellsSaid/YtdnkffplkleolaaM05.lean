/- Walks and plain laws: CC Am Dh Ka Dd Kb Kc Kd Ke W5 Kf Kg Ln. -/
import Derived.Test.YtdnkffplkleolaaM04
import Derived.Test.YtdnkffplkleolaaM02
import Derived.BigQuiet
import Derived.OwnWalk
import Derived.Test.YtdnkffplkleolaaM03
namespace Go.Proofs.Ytdnkffplkleolaa
open Go.RowKit
set_option maxRecDepth 100000
set_option maxHeartbeats 1000000

def starts : Nat → List (List Tw) → List Int
 | _, [] => []
 | p, u :: us => (p : Int) :: starts (p + u.length) us

theorem after_any (w : World) (ao : Option Addr) (cap n : Nat) (t : List Tw) (hs : Sv w ao n cap 5 (t.flatMap twc)) (hn : n ≤ 1000000) (hk : ∀ x ∈ t, 0 ≤ x.kids ∧ x.kids ≤ 1000000) (p d : Nat) (hd : afT 1 (t.drop p) = some d) (hp : p ≤ n) :
  Calls Try.prog 25 #[.slice ao n cap, .int .i64 p] w fun r w' => r = .returned (.int .i64 ((p + d : Nat) : Int)) ∧ w = w' := by
 obtain ⟨h1, h2⟩ := hs.bound
 have hl := hs.elems_len twc_len (by omega)
 have HSl := Lib.hid hs; clear hs
 have HL := Lib.hid hl; clear hl
 have HK := Lib.hid hk; clear hk
 have HN := Lib.hid hn; clear hn
 have HD := Lib.hid hd; clear hd
 have HP := Lib.hid hp; clear hp
 go_enter Try.func25, Try.ntmps25
 go_wp2_with fail
 go_loopw [1, 5] (fun i v wr => wr = w ∧ ∃ q L : Nat, i = .int .i64 q ∧ v = .int .i64 L ∧ Hid (q ≤ n ∧ L ≤ (q + 1) * 1000001 ∧ ∃ e, afT L (t.drop q) = some e ∧ q + e = p + d)) (fun i _ _ => n - (intOf i).toNat)
 case atStart => exact ⟨rfl, p, 1, rfl, rfl, HP.out, by omega, d, HD.out, rfl⟩
 case round =>
  obtain ⟨rfl, q, L, rfl, rfl, hI⟩ := hrel
  by_cases hL : L = 0
  ·subst hL
   have hq : q = p + d := by
    obtain ⟨e, h3, h4⟩ := hI.out.2.2
    rw [afT_zero] at h3
    cases h3; omega
   subst hq
   clear hI
   go_wp2_with fail
   go_ret
   exact ⟨rfl, rfl⟩
  ·have hq : q < n := by
    rcases Nat.lt_or_ge q n with h | h
    ·exact h
    ·exfalso
     obtain ⟨e, h3, h4⟩ := hI.out.2.2
     rw [List.drop_eq_nil_of_le (by have := HL.out; omega)] at h3
     obtain ⟨L', rfl⟩ : ∃ L', L = L' + 1 := ⟨L - 1, by omega⟩
     cases h3
   have hqz : q < t.length := by have := HL.out; omega
   obtain ⟨a, rfl, hc⟩ := HSl.out.elem twc_len q hqz (by omega)
   have hdr : t.drop q = t[q] :: t.drop (q + 1) := List.drop_eq_getElem_cons hqz
   have hkx := HK.out _ (List.getElem_mem hqz)
   have HX := Lib.hid hdr
   clear hdr
   generalize t[q]'_ = x at *
   clear hqz
   obtain ⟨x1, x2, x3, x4, x5⟩ := x
   obtain ⟨L, rfl⟩ : ∃ L', L = L' + 1 := ⟨L - 1, by omega⟩
   obtain ⟨hk0, hk1⟩ := hkx
   simp only [] at hk0 hk1
   obtain ⟨m, rfl⟩ := Int.eq_ofNat_of_zero_le hk0
   have HNx : Hid (q + 1 ≤ n ∧ (L + m) ≤ (q + 1 + 1) * 1000001 ∧ ∃ e, afT (L + m) (t.drop (q + 1)) = some e ∧ q + 1 + e = p + d) := by
    obtain ⟨hq1, hL1, e, h3, h4⟩ := hI.out
    rw [HX.out] at h3
    simp only [afT, Int.toNat_natCast, Option.map_eq_some_iff] at h3
    obtain ⟨e', h5, h6⟩ := h3
    exact ⟨by omega, by omega, e', h5, by omega⟩
   have hb1 : (L : Int) + m ≤ 100000000000000 := by have := HNx.out.2.1; have := HN.out; omega
   have c4 : wr.cell? ⟨(a.add (q * 5)).block, (a.add (q * 5)).off + 4, none⟩ = some (.int .i64 m) := hc 4 _ rfl
   have hq0 : (0 : Int) ≤ q := by omega
   have hqn : (q : Int) < n := by omega
   have hL0 : (0 : Int) < (L : Int) + 1 := by omega
   have hL2 : (0 : Int) ≤ L := by omega
   have hq3 : (q : Int) ≤ 100000000000000 := by have := HN.out; omega
   clear hI hc hL
   go_wp2_with fail
   go_roundw
   case rel => exact ⟨trivial, q + 1, L + m, by go_num, by go_num, HNx.out⟩
   case measure => simp [intOf]; omega

theorem iInt : Elem Try.prog 55 3 1 8 (.int .i64 0) := ⟨by kernel_rfl, by kernel_rfl, rfl, by decide⟩

theorem drop_flat {t A B : List Tw} {u : List Tw} {us : List (List Tw)} (h : t = A ++ (u :: us).flatten ++ B) (hu : IsTree u) : afT 1 (t.drop A.length) = some u.length := by
 subst h
 rw [List.append_assoc, List.drop_left, List.flatten_cons, List.append_assoc]
 exact hu _

theorem IsTree.pos {u : List Tw} (h : IsTree u) : 1 ≤ u.length := by
 cases u with
 | nil => have := h []; cases this
 | cons x u => simp
theorem trees_len : ∀ ts : List (List Tw), (∀ u ∈ ts, IsTree u) → ts.length ≤ ts.flatten.length
 | [], _ => by simp
 | u :: ts, h => by
  have := trees_len ts (fun u hu => h u (by simp [hu]))
  have := (h u (by simp)).pos
  simp only [List.length_cons, List.flatten_cons, List.length_append]; omega
theorem starts_app : ∀ (p : Nat) (a b : List (List Tw)), starts p (a ++ b) = starts p a ++ starts (p + a.flatten.length) b
 | p, [], b => by simp [starts]
 | p, u :: a, b => by
  simp only [List.cons_append, starts, starts_app (p + u.length) a b, List.flatten_cons, List.length_append, Nat.add_assoc]

theorem some_any (w : World) (ao : Option Addr) (cap n : Nat) (t : List Tw) (hs : Sv w ao n cap 5 (t.flatMap twc)) (hn : n ≤ 1000000) (hk : ∀ x ∈ t, 0 ≤ x.kids ∧ x.kids ≤ 1000000)
  (A B : List Tw) (ts : List (List Tw)) (ht : t = A ++ ts.flatten ++ B) (hts : ∀ u ∈ ts, IsTree u) (p e : Nat) (hp : p = A.length) (he : e = p + ts.flatten.length) :
  Calls Try.prog 86 #[.slice ao n cap, .int .i64 p, .int .i64 e] w fun r w' => (∃ v, r = .returned v ∧ Own w w' 3 1 v ts.length ((starts p ts).map (.int .i64))) := by
 have hl := hs.elems_len twc_len (by omega)
 have hen : e ≤ n := by
  have := congrArg List.length ht
  simp only [List.length_append] at this; omega
 have HTL := Lib.hid (trees_len ts hts)
 have HAf := Lib.hid (fun w' (hb : Below w.heap.size w w') q d hd hq => after_any w' ao cap n t (hs.below hb) hn hk q d hd hq)
 clear hs
 have HT := Lib.hid ht; clear ht
 have HTs := Lib.hid hts; clear hts
 have HL := Lib.hid hl; clear hl hk
 have HP := Lib.hid hp; clear hp
 have HE := Lib.hid he; clear he
 go_enter Try.func86, Try.ntmps86
 go_wp2_with fail
 go_loopw [1, 6] (fun i v wr => ∃ q : Nat, q ≤ e ∧ i = .int .i64 q ∧ Hid (∃ ts1 ts2 : List (List Tw), ts = ts1 ++ ts2 ∧ q = p + ts1.flatten.length ∧ Own w wr 3 1 v ts1.length ((starts p ts1).map (.int .i64)))) (fun i _ _ => e - (intOf i).toNat)
 case atStart => exact ⟨p, by have := HE.out; omega, rfl, [], ts, rfl, by simp, Own.nil w 3 1⟩
 case round =>
  obtain ⟨q, hq, rfl, hI⟩ := hrel
  by_cases hlt : q < e
  ·obtain ⟨ts1, ts2, h3, h4, h5⟩ := hI.out
   clear hI
   cases ts2 with
   | nil =>
    exfalso
    have := HE.out
    rw [h3, List.append_nil] at this
    omega
   | cons u ts2 =>
    have HU := Lib.hid (HTs.out u (by rw [h3]; simp))
    have HO := Lib.hid h5
    have H3 := Lib.hid h3
    have H4 := Lib.hid h4
    have HD := Lib.hid (drop_flat (t := t) (A := A ++ ts1.flatten) (B := B) (u := u) (us := ts2) (by rw [HT.out, h3]; simp) HU.out)
    have hAl : (A ++ ts1.flatten).length = q := by rw [List.length_append, ← HP.out, h4]
    rw [hAl] at HD
    have HLn : Hid ((ts1.length + 1) * 8 ≤ 140737488355328 ∧ ts1.length + 1 ≤ maxLen) := by
     have h6 := HTL.out
     rw [h3] at h6
     have h7 := HE.out
     rw [h3] at h7
     simp only [List.length_append, List.length_cons, List.flatten_append, List.flatten_cons] at h6 h7
     have := trees_len ts1 (fun u hu => HTs.out u (by rw [h3]; simp [hu]))
     unfold Hid maxLen; omega
    have HQe : Hid (q + u.length ≤ e ∧ 1 ≤ u.length) := by
     have h7 := HE.out
     rw [h3] at h7
     simp only [List.length_append, List.flatten_append, List.flatten_cons] at h7
     exact ⟨by omega, HU.out.pos⟩
    clear h3 h4 h5 hAl
    have hq0 : (0 : Int) ≤ q := by omega
    go_wp2_with (first
     | (at_builtin; go_loud (refine wpList_app1 w _ rfl _ _ 55 3 rfl iInt u6 ts1.length _ rfl HO.out #[.int .i64 q] rfl rfl (by simp [Value.oneCell']) HLn.out.1 HLn.out.2 ?_; intro v' w8 hO8; have HO8 := Lib.hid hO8; clear hO8))
     | (go_at_call 25; refine (HAf.out _ HO8.out.2 q u.length HD.out (by omega)).mono ?_; rintro e' w9 ⟨rfl, rfl⟩))
    go_roundw
    case rel =>
     refine ⟨q + u.length, HQe.out.1, rfl, ts1 ++ [u], ts2, by rw [H3.out]; simp, by rw [H4.out]; simp; omega, ?_⟩
     have := HO8.out
     simp only [List.length_append, List.length_singleton, starts_app, List.map_append, starts, List.map_cons, List.map_nil]
     rw [← H4.out]
     exact this
    case measure => have := HQe.out; simp [intOf]; omega
  ·have HO : Hid (Own w wr 3 1 u6 ts.length ((starts p ts).map (.int .i64))) := by
    obtain ⟨ts1, ts2, h3, h4, h5⟩ := hI.out
    cases ts2 with
    | nil => rw [List.append_nil] at h3; subst h3; exact h5
    | cons u ts2 =>
     exfalso
     have h6 := (HTs.out u (by rw [h3]; simp)).pos
     have h7 := HE.out
     rw [h3] at h7
     simp only [List.length_append, List.flatten_append, List.flatten_cons] at h7
     omega
   clear hI
   go_wp2_with fail
   go_ret
   exact ⟨_, rfl, HO.out⟩

theorem roots_any (w : World) (ao : Option Addr) (cap n : Nat) (t : List Tw) (hs : Sv w ao n cap 5 (t.flatMap twc)) (hn : n ≤ 1000000) (hk : ∀ x ∈ t, 0 ≤ x.kids ∧ x.kids ≤ 1000000)
  (ts : List (List Tw)) (ht : t = ts.flatten) (hts : ∀ u ∈ ts, IsTree u) :
  Calls Try.prog 70 #[.slice ao n cap] w fun r w' => (∃ v, r = .returned v ∧ Own w w' 3 1 v ts.length ((starts 0 ts).map (.int .i64))) := by
 have hl := hs.elems_len twc_len (by omega)
 have HX := Lib.hid (some_any w ao cap n t hs hn hk [] [] ts (by simp [ht]) hts 0 n rfl (by rw [← hl, ht]; simp))
 clear hs hl ht hts hk
 go_enter Try.func70, Try.ntmps70
 go_wp2_with (first | (go_at_call 86; refine HX.out.mono ?_; rintro e w2 ⟨v, rfl, ho⟩; have HO := Lib.hid ho; clear ho))
 go_ret
 exact ⟨_, rfl, HO.out⟩

theorem Roots_any (w : World) (ao : Option Addr) (cap n : Nat) (t : List Tw) (hs : Sv w ao n cap 5 (t.flatMap twc)) (hn : n ≤ 1000000) (hk : ∀ x ∈ t, 0 ≤ x.kids ∧ x.kids ≤ 1000000) (hf : forestB t = true)
  (ts : List (List Tw)) (ht : t = ts.flatten) (hts : ∀ u ∈ ts, IsTree u) :
  Calls Try.prog 56 #[.slice ao n cap] w fun r w' => (∃ v, r = .returned v ∧ Own w w' 3 1 v ts.length ((starts 0 ts).map (.int .i64))) := by
 have HX := Lib.hid (fun w' hb => roots_any w' ao cap n t (hs.below hb) hn hk ts ht hts)
 have HF := Lib.hid (forest_any w ao cap n t hs hn (fun x hx => (hk x hx).2))
 rw [hf] at HF
 clear hs ht hts hk
 go_enter Try.func56, Try.ntmps56
 go_wp2_with (first
  | (go_at_call 9; refine HF.out.mono ?_; rintro e w2 ⟨rfl, hb2⟩; have HB2 := Lib.hid hb2; clear hb2)
  | (go_at_call 70; refine (HX.out _ HB2.out).mono ?_; rintro e w3 ⟨v, rfl, ho⟩; have HO := Lib.hid ho; clear ho))
 go_ret
 exact ⟨_, rfl, HO.out.since HB2.out⟩
end Go.Proofs.Ytdnkffplkleolaa
namespace Go.Proofs.Ytdnkffplkleolaa
open Go.RowKit
set_option maxRecDepth 100000

theorem elemTw : Elem Try.prog 30 43 5 40 (.agg #[.int .i64 0, .int .i64 0, .int .i64 0, .int .i64 0, .int .i64 0]) := ⟨by kernel_rfl, by kernel_rfl, by decide, by decide⟩
theorem hrow.setCell {w : World} {g : Nat} {cs : Array Value} {t : TypeId} (h : hrow w g cs t) (o : Nat) (v : Value) : hrow (w.setCell ⟨g, o, none⟩ v) g (cs.setIfInBounds o v) t := heap_setCell_same _ _ _ _ _ _ h.h
def tw (lv a b m : Nat) : Tw := ⟨0, lv, a, b, m⟩
/-- The mark of a place in a list. -/
def mkI (k i : Int) : Int := 1000003 * (k + 7) + i
/-- A twig of a mark; what a mark is, is left open: a large number in it would cost the kernel too much. -/
def mkT (μ : Int → Int → Int) (k i : Int) : Tw := ⟨μ k i, 0, 0, 0, 0⟩
end Go.Proofs.Ytdnkffplkleolaa
namespace Go.Proofs.Ytdnkffplkleolaa
open Go.RowKit
set_option maxRecDepth 100000
set_option maxHeartbeats 2000000

def bt (w : List Int) (p : Nat) : Int := w.getD p (-1)
def byc (l : List Int) : List Value := l.map fun c => .int .u8 c
theorem byc_len (l : List Int) : (byc l).length = l.length := by simp [byc]
theorem byc_one (l : List Int) : ∀ u ∈ byc l, u.oneCell' = true := by intro u hu; simp only [byc, List.mem_map] at hu; obtain ⟨_, _, rfl⟩ := hu; rfl
theorem bt_get {l : List Int} {p : Nat} (h : p < l.length) : l[p] = bt l p := by simp [bt, List.getD_eq_getElem?_getD, h]
theorem Sv.byte {w : World} {ao : Option Addr} {n cap : Nat} {l : List Int} (h : Sv w ao n cap 1 (byc l)) (k : Nat) (hk : k < l.length) : ∃ a, ao = some a ∧ w.cell? (a.add k) = some (.int .u8 (bt l k)) := by
 obtain ⟨a, ha, hc⟩ := h.cell k (by rw [byc_len]; exact hk)
 exact ⟨a, ha, by rw [hc]; simp [byc, hk, bt_get hk]⟩
theorem Sv.byte_len {w : World} {ao : Option Addr} {n cap : Nat} {l : List Int} (h : Sv w ao n cap 1 (byc l)) : l.length = n := by
 have := h.len; rw [byc_len] at this; omega

/-- The byte that marks a place. -/
def mbI (k i : Int) : Int := IntKind.u64.wrap (IntKind.u64.wrap (mkI k i) * 11400714819323198485) / 72057594037927936 % 256
theorem mbI_bd (k i : Int) : 0 ≤ mbI k i ∧ mbI k i < 256 := by
 unfold mbI
 exact ⟨Int.emod_nonneg _ (by decide), Int.emod_lt_of_pos _ (by decide)⟩
end Go.Proofs.Ytdnkffplkleolaa
namespace Go.Proofs.Ytdnkffplkleolaa
open Go.RowKit
set_option maxRecDepth 100000
set_option maxHeartbeats 2000000

def bmarks (β : Int → Int → Int) (k : Nat) : List Int := (List.range k).map fun i : Nat => β 1 (i : Int)
theorem bmarks_len (β : Int → Int → Int) (k : Nat) : (bmarks β k).length = k := by simp [bmarks]
theorem bmarks_succ (β : Int → Int → Int) (k : Nat) : bmarks β (k + 1) = bmarks β k ++ [β 1 (k : Int)] := by simp [bmarks, List.range_succ]
theorem infoBy : (Try.prog.info? 5).map (fun i => (i.zero, i.size, i.bytes)) = some (some (.int .u8 0), 1, 1) := by kernel_rfl
theorem one_new (w : World) (t : TypeId) (x : Value) : ∀ j u, [x][j]? = some u → (w.alloc (.cells #[x] t)).cell? ((⟨w.heap.size, 0, none⟩ : Addr).add j) = some u :=
 fun j u h => World.news_of_block (heap_alloc_new w (.cells #[x] t)) j u h
theorem byc_append (a b : List Int) : byc (a ++ b) = byc a ++ byc b := by simp [byc]

end Go.Proofs.Ytdnkffplkleolaa
namespace Go.Proofs.Ytdnkffplkleolaa
open Go.RowKit
set_option maxRecDepth 100000
set_option maxHeartbeats 2000000

end Go.Proofs.Ytdnkffplkleolaa
namespace Go.Proofs.Ytdnkffplkleolaa
open Go.RowKit
set_option maxRecDepth 100000
set_option maxHeartbeats 2000000

theorem inc_len (l : List Int) : (inc l).length = l.length := by simp [inc]
theorem inc_one (l : List Int) : ∀ u ∈ inc l, u.oneCell' = true := by intro u hu; simp only [inc, List.mem_map] at hu; obtain ⟨_, _, rfl⟩ := hu; rfl
theorem Sv.intc {w : World} {ao : Option Addr} {n cap : Nat} {l : List Int} (h : Sv w ao n cap 1 (inc l)) (k : Nat) (hk : k < l.length) : ∃ a, ao = some a ∧ w.cell? (a.add k) = some (.int .i64 (bt l k)) := by
 obtain ⟨a, ha, hc⟩ := h.cell k (by rw [inc_len]; exact hk)
 exact ⟨a, ha, by rw [hc]; simp [inc, hk, bt_get hk]⟩
theorem Sv.int_len {w : World} {ao : Option Addr} {n cap : Nat} {l : List Int} (h : Sv w ao n cap 1 (inc l)) : l.length = n := by
 have := h.len; rw [inc_len] at this; omega
def imarks (β : Int → Int → Int) (k : Nat) : List Int := (List.range k).map fun i : Nat => β 1 (i : Int)
theorem imarks_len (β : Int → Int → Int) (k : Nat) : (imarks β k).length = k := by simp [imarks]
theorem imarks_succ (β : Int → Int → Int) (k : Nat) : imarks β (k + 1) = imarks β k ++ [β 1 (k : Int)] := by simp [imarks, List.range_succ]
theorem infoIn : (Try.prog.info? 3).map (fun i => (i.zero, i.size, i.bytes)) = some (some (.int .i64 0), 1, 8) := by kernel_rfl
theorem inc_append (a b : List Int) : inc (a ++ b) = inc a ++ inc b := by simp [inc]

end Go.Proofs.Ytdnkffplkleolaa
namespace Go.Proofs.Ytdnkffplkleolaa
open Go.RowKit
set_option maxRecDepth 100000
set_option maxHeartbeats 2000000

end Go.Proofs.Ytdnkffplkleolaa
namespace Go.Proofs.Ytdnkffplkleolaa
open Go.RowKit
set_option maxRecDepth 100000
set_option maxHeartbeats 2000000

theorem Sv.tw5 {w : World} {ao : Option Addr} {n cap : Nat} {t : List Tw} (h : Sv w ao n cap 5 (t.flatMap twc)) {k : Nat} (hk : k < t.length) :
  ∃ a, ao = some a ∧ w.cell? (a.add (k * 5)) = some (.int .i64 t[k].rule) ∧ w.cell? ⟨(a.add (k * 5)).block, (a.add (k * 5)).off + 1, none⟩ = some (.int .i64 t[k].lev) ∧ w.cell? ⟨(a.add (k * 5)).block, (a.add (k * 5)).off + 2, none⟩ = some (.int .i64 t[k].fr) ∧
   w.cell? ⟨(a.add (k * 5)).block, (a.add (k * 5)).off + 3, none⟩ = some (.int .i64 t[k].to) ∧ w.cell? ⟨(a.add (k * 5)).block, (a.add (k * 5)).off + 4, none⟩ = some (.int .i64 t[k].kids) := by
 obtain ⟨a, ha, hc⟩ := h.elem twc_len k hk (by decide)
 refine ⟨a, ha, ?_, ?_, ?_, ?_, ?_⟩
 ·exact hc 0 _ rfl
 ·exact hc 1 _ rfl
 ·exact hc 2 _ rfl
 ·exact hc 3 _ rfl
 ·exact hc 4 _ rfl

end Go.Proofs.Ytdnkffplkleolaa
namespace Go.Proofs.Ytdnkffplkleolaa
open Go.RowKit
set_option maxRecDepth 100000
set_option maxHeartbeats 2000000

end Go.Proofs.Ytdnkffplkleolaa
namespace Go.Proofs.Ytdnkffplkleolaa
open Go.RowKit
set_option maxRecDepth 100000
set_option maxHeartbeats 2000000

def es0 : ByteArray := ⟨#[]⟩
def mkR (μ : Int → Int → Int) (k i : Int) : Ru := ⟨es0, μ k i⟩
def rmarks (β : Int → Int → Int) (k : Nat) : List Ru := (List.range k).map fun i : Nat => mkR β 1 (i : Int)
theorem rmarks_len (β : Int → Int → Int) (k : Nat) : (rmarks β k).length = k := by simp [rmarks]
theorem rmarks_succ (β : Int → Int → Int) (k : Nat) : rmarks β (k + 1) = rmarks β k ++ [mkR β 1 (k : Int)] := by simp [rmarks, List.range_succ]
theorem ruc_one (t : List Ru) : ∀ u ∈ t.flatMap ruc, u.oneCell' = true := by
 intro u hu
 simp only [List.mem_flatMap, ruc] at hu
 obtain ⟨x, _, hx⟩ := hu
 simp at hx
 rcases hx with rfl | rfl <;> rfl
theorem infoRu : (Try.prog.info? 90).map (fun i => (i.zero, i.size, i.bytes)) = some (some (.agg #[.string es0, .int .i64 0]), 2, 24) := by kernel_rfl
theorem two_new (w : World) (t : TypeId) (x y : Value) : ∀ j u, [x, y][j]? = some u → (w.alloc (.cells #[x, y] t)).cell? ((⟨w.heap.size, 0, none⟩ : Addr).add j) = some u :=
 fun j u h => World.news_of_block (heap_alloc_new w (.cells #[x, y] t)) j u h

end Go.Proofs.Ytdnkffplkleolaa
namespace Go.Proofs.Ytdnkffplkleolaa
open Go.RowKit
set_option maxRecDepth 100000
set_option maxHeartbeats 2000000

theorem Sv.ru2 {w : World} {ao : Option Addr} {n cap : Nat} {t : List Ru} (h : Sv w ao n cap 2 (t.flatMap ruc)) {k : Nat} (hk : k < t.length) :
  ∃ a, ao = some a ∧ w.cell? (a.add (k * 2)) = some (.string t[k].name) ∧ w.cell? ⟨(a.add (k * 2)).block, (a.add (k * 2)).off + 1, none⟩ = some (.int .i64 t[k].body) := by
 obtain ⟨a, ha, hc⟩ := h.at ruc_len (by decide) k hk
 refine ⟨a, ha, hc 0 _ rfl, ?_⟩
 have := hc 1 _ rfl
 rw [add_off _ _ _ (by decide)] at this
 exact this

end Go.Proofs.Ytdnkffplkleolaa
namespace Go.Proofs.Ytdnkffplkleolaa
open Go.RowKit
set_option maxRecDepth 100000
set_option maxHeartbeats 2000000

def set9 (w : World) (g : Nat) (x0 x1 x2 x3 x4 x5 x6 x7 x8 : Value) : World := (((((((((w.setCell ⟨g, 0, none⟩ x0).setCell ⟨g, 1, none⟩ x1).setCell ⟨g, 2, none⟩ x2).setCell ⟨g, 3, none⟩ x3).setCell ⟨g, 4, none⟩ x4).setCell ⟨g, 5, none⟩ x5).setCell ⟨g, 6, none⟩ x6).setCell ⟨g, 7, none⟩ x7).setCell ⟨g, 8, none⟩ x8)
theorem set9_fr (w : World) (g : Nat) (x0 x1 x2 x3 x4 x5 x6 x7 x8 : Value) : Fr (fun k => k = g) w (set9 w g x0 x1 x2 x3 x4 x5 x6 x7 x8) := by
 have h0 := Fr.setCell w ⟨g, 0, none⟩ x0
 have h1 := h0.trans (Fr.setCell _ ⟨g, 1, none⟩ x1) (fun _ _ h => h)
 have h2 := h1.trans (Fr.setCell _ ⟨g, 2, none⟩ x2) (fun _ _ h => h)
 have h3 := h2.trans (Fr.setCell _ ⟨g, 3, none⟩ x3) (fun _ _ h => h)
 have h4 := h3.trans (Fr.setCell _ ⟨g, 4, none⟩ x4) (fun _ _ h => h)
 have h5 := h4.trans (Fr.setCell _ ⟨g, 5, none⟩ x5) (fun _ _ h => h)
 have h6 := h5.trans (Fr.setCell _ ⟨g, 6, none⟩ x6) (fun _ _ h => h)
 have h7 := h6.trans (Fr.setCell _ ⟨g, 7, none⟩ x7) (fun _ _ h => h)
 have h8 := h7.trans (Fr.setCell _ ⟨g, 8, none⟩ x8) (fun _ _ h => h)
 exact h8
theorem set9_row {w : World} {g : Nat} {a0 a1 a2 a3 a4 a5 a6 a7 a8 : Value} {t : TypeId} (x0 x1 x2 x3 x4 x5 x6 x7 x8 : Value) (h : hrow w g #[a0, a1, a2, a3, a4, a5, a6, a7, a8] t) : hrow (set9 w g x0 x1 x2 x3 x4 x5 x6 x7 x8) g #[x0, x1, x2, x3, x4, x5, x6, x7, x8] t := by
 have k0 : hrow (w.setCell ⟨g, 0, none⟩ x0) g #[x0, a1, a2, a3, a4, a5, a6, a7, a8] t := heap_setCell_same _ _ _ _ _ _ h.h
 have k1 : hrow ((w.setCell ⟨g, 0, none⟩ x0).setCell ⟨g, 1, none⟩ x1) g #[x0, x1, a2, a3, a4, a5, a6, a7, a8] t := heap_setCell_same _ _ _ _ _ _ k0.h
 have k2 : hrow (((w.setCell ⟨g, 0, none⟩ x0).setCell ⟨g, 1, none⟩ x1).setCell ⟨g, 2, none⟩ x2) g #[x0, x1, x2, a3, a4, a5, a6, a7, a8] t := heap_setCell_same _ _ _ _ _ _ k1.h
 have k3 : hrow ((((w.setCell ⟨g, 0, none⟩ x0).setCell ⟨g, 1, none⟩ x1).setCell ⟨g, 2, none⟩ x2).setCell ⟨g, 3, none⟩ x3) g #[x0, x1, x2, x3, a4, a5, a6, a7, a8] t := heap_setCell_same _ _ _ _ _ _ k2.h
 have k4 : hrow (((((w.setCell ⟨g, 0, none⟩ x0).setCell ⟨g, 1, none⟩ x1).setCell ⟨g, 2, none⟩ x2).setCell ⟨g, 3, none⟩ x3).setCell ⟨g, 4, none⟩ x4) g #[x0, x1, x2, x3, x4, a5, a6, a7, a8] t := heap_setCell_same _ _ _ _ _ _ k3.h
 have k5 : hrow ((((((w.setCell ⟨g, 0, none⟩ x0).setCell ⟨g, 1, none⟩ x1).setCell ⟨g, 2, none⟩ x2).setCell ⟨g, 3, none⟩ x3).setCell ⟨g, 4, none⟩ x4).setCell ⟨g, 5, none⟩ x5) g #[x0, x1, x2, x3, x4, x5, a6, a7, a8] t := heap_setCell_same _ _ _ _ _ _ k4.h
 have k6 : hrow (((((((w.setCell ⟨g, 0, none⟩ x0).setCell ⟨g, 1, none⟩ x1).setCell ⟨g, 2, none⟩ x2).setCell ⟨g, 3, none⟩ x3).setCell ⟨g, 4, none⟩ x4).setCell ⟨g, 5, none⟩ x5).setCell ⟨g, 6, none⟩ x6) g #[x0, x1, x2, x3, x4, x5, x6, a7, a8] t := heap_setCell_same _ _ _ _ _ _ k5.h
 have k7 : hrow ((((((((w.setCell ⟨g, 0, none⟩ x0).setCell ⟨g, 1, none⟩ x1).setCell ⟨g, 2, none⟩ x2).setCell ⟨g, 3, none⟩ x3).setCell ⟨g, 4, none⟩ x4).setCell ⟨g, 5, none⟩ x5).setCell ⟨g, 6, none⟩ x6).setCell ⟨g, 7, none⟩ x7) g #[x0, x1, x2, x3, x4, x5, x6, x7, a8] t := heap_setCell_same _ _ _ _ _ _ k6.h
 have k8 : hrow (((((((((w.setCell ⟨g, 0, none⟩ x0).setCell ⟨g, 1, none⟩ x1).setCell ⟨g, 2, none⟩ x2).setCell ⟨g, 3, none⟩ x3).setCell ⟨g, 4, none⟩ x4).setCell ⟨g, 5, none⟩ x5).setCell ⟨g, 6, none⟩ x6).setCell ⟨g, 7, none⟩ x7).setCell ⟨g, 8, none⟩ x8) g #[x0, x1, x2, x3, x4, x5, x6, x7, x8] t := heap_setCell_same _ _ _ _ _ _ k7.h
 exact k8
end Go.Proofs.Ytdnkffplkleolaa
namespace Go.Proofs.Ytdnkffplkleolaa
open Go.RowKit
set_option maxRecDepth 100000
set_option maxHeartbeats 1000000

theorem str_eq {a b : ByteArray} : a.toList = b.toList ↔ a = b := by
 rw [Lib.toList_data, Lib.toList_data]
 constructor
 ·intro h
  cases a; cases b
  simp only [ByteArray.mk.injEq]
  exact Array.toList_inj.1 h
 ·rintro rfl; rfl
theorem str_beq (a b : ByteArray) : (a.toList == b.toList) = decide (a = b) := by
 rw [Bool.eq_iff_iff]; simp [str_eq]

theorem ruleE_any (w : World) (nm : ByteArray) (b : Int) (p : Addr) (s : ByteArray) (hp : w.cell? p = some (.string s)) :
  Calls Try.prog 78 #[.agg #[.string nm, .int .i64 b], .pointer (some p)] w fun e w' => e = .returned (.bool (decide (nm = s))) ∧ Below w.heap.size w w' := by
 have hlt := World.block_lt_of_cell? w _ hp
 have hp2 : (w.alloc (.cells #[.string nm, .int .i64 b] 90)).cell? p = some (.string s) := (((Below.refl w.heap.size w).alloc (Nat.le_refl _) _).cell hlt).trans hp
 go_enter Try.func78, Try.ntmps78
 go_wp2_with fail
 go_ret
 exact ⟨ret_bool (str_beq _ _), (Below.refl _ _).alloc (Nat.le_refl _) _⟩

/-- The rule's place, from one on. -/
theorem ruleIx_drop (s : ByteArray) : ∀ (k : Nat) (l : List Ru), l.length = k → (∀ i, (h : i < l.length) → (l[i]'h).name ≠ s) → ∀ r, ruleIx (l ++ r) s = if ruleIx r s < 0 then -1 else ruleIx r s + k := by
 intro k
 induction k with
 | zero =>
  intro l hl _ r
  have : l = [] := List.eq_nil_of_length_eq_zero hl
  subst this
  simp only [List.nil_append]
  have hneg : ∀ r : List Ru, ruleIx r s < 0 → ruleIx r s = -1 := by
   intro r
   cases r with
   | nil => intro _; rfl
   | cons x xs =>
    intro h
    simp only [ruleIx] at h ⊢
    by_cases hx : x.name = s
    ·rw [if_pos hx] at h; omega
    ·rw [if_neg hx] at h ⊢
     by_cases h2 : ruleIx xs s < 0
     ·rw [if_pos h2]
     ·rw [if_neg h2] at h; omega
  by_cases h : ruleIx r s < 0
  ·rw [if_pos h, hneg r h]
  ·rw [if_neg h]; omega
 | succ k ih =>
  intro l hl hn r
  cases l with
  | nil => simp at hl
  | cons x xs =>
   have hx : x.name ≠ s := hn 0 (by simp)
   have := ih xs (by simpa using hl) (fun i h => by have := hn (i + 1) (by simpa using h); simpa using this) r
   simp only [List.cons_append, ruleIx, if_neg hx, this]
   by_cases h : ruleIx r s < 0
   ·rw [if_pos h]; simp; intro; omega
   ·rw [if_neg h, if_neg h, if_neg (by omega)]; omega
theorem ruleIx_found {l : List Ru} {s : ByteArray} {k : Nat} (hk : k < l.length) (he : (l[k]'hk).name = s) (hn : ∀ i, (h : i < k) → (l[i]'(by omega)).name ≠ s) : ruleIx l s = k := by
 have h := ruleIx_drop s k (l.take k) (by simp; omega) (fun i h => by
  have hi : i < k := by simp at h; omega
  rw [List.getElem_take]
  exact hn i hi) (l.drop k)
 rw [List.take_append_drop] at h
 rw [h, List.drop_eq_getElem_cons hk]
 simp only [ruleIx, if_pos he]
 simp
theorem ruleIx_none {l : List Ru} {s : ByteArray} (hn : ∀ i, (h : i < l.length) → (l[i]'h).name ≠ s) : ruleIx l s = -1 := by
 have h := ruleIx_drop s l.length l rfl hn []
 rw [List.append_nil] at h
 rw [h]; rfl

theorem indexR_any (w : World) (ro : Option Addr) (rn rc : Nat) (l : List Ru) (hr : Sv w ro rn rc 2 (l.flatMap ruc)) (p : Addr) (s : ByteArray) (hp : w.cell? p = some (.string s)) :
  Calls Try.prog 77 #[.slice ro rn rc, .func (.func 78) #[] #[.pointer (some p)]] w fun e w' => e = .returned (.int .i64 (ruleIx l s)) ∧ Below w.heap.size w w' := by
 obtain ⟨b1, b2⟩ := hr.bound
 have hl := hr.n_eq ruc_len (by decide)
 have HR := Lib.hid hr
 have HL := Lib.hid hl
 have hlt := World.block_lt_of_cell? w _ hp
 have HP := Lib.hid hp
 clear hr hl hp
 go_enter Try.func77, Try.ntmps77
 go_wp2_with fail
 go_loopw [8] (fun i wr => ∃ k : Nat, k ≤ rn ∧ i = .int .i64 k ∧ Hid (Below w.heap.size w wr ∧ ∀ i, (h : i < k) → (h' : i < l.length) → (l[i]'h').name ≠ s)) (fun i _ => rn - (intOf i).toNat)
 case atStart => exact ⟨0, by omega, rfl, Below.refl _ _, fun i h => absurd h (by omega)⟩
 case round =>
  obtain ⟨k, hk, rfl, HI⟩ := hrel
  by_cases hlt2 : k < rn
  ·have hk' : (k : Int) < rn := by omega
   have hkl : k < l.length := by have := HL.out; omega
   obtain ⟨ra, rfl, hc⟩ := Sv.at ruc_len (HR.out.below HI.out.1) (by decide) k hkl
   have c0 : wr.cell? (ra.add (k * 2)) = some (.string (l[k]'hkl).name) := hc 0 _ rfl
   have c1 : wr.cell? ⟨(ra.add (k * 2)).block, (ra.add (k * 2)).off + 1, none⟩ = some (.int .i64 (l[k]'hkl).body) := by
    have := hc 1 _ rfl
    rw [add_off _ _ _ (by decide)] at this
    exact this
   have hpw : wr.cell? p = some (.string s) := (HI.out.1.cell hlt).trans HP.out
   have HE := Lib.hid (fun (h : (l[k]'hkl).name = s) => ruleIx_found hkl h (fun i hi => HI.out.2 i hi (by omega)))
   have HN := Lib.hid (fun (h : (l[k]'hkl).name ≠ s) => (fun i hi h' => by
    by_cases e : i = k
    ·subst e; exact h
    ·exact HI.out.2 i (by omega) h' : ∀ i, (h : i < k + 1) → (h' : i < l.length) → (l[i]'h').name ≠ s))
   clear hc
   generalize l[k]'hkl = r at *
   obtain ⟨nm, b⟩ := r
   simp only [] at c0 c1 HE HN
   by_cases he : nm = s
   ·have HRes := Lib.hid (HE.out he)
    have hdec : decide (nm = s) = true := by simpa using he
    have HDec := Lib.hid hdec
    clear hdec HE HN he
    go_wp2_with fail
    refine (ruleE_any wr nm b p s hpw).mono ?_
    rintro e w3 ⟨rfl, hb3⟩
    have HB3 := Lib.hid (HI.out.1.trans (hb3.mono HI.out.1.size))
    rw [HDec.out]
    clear hb3
    go_wp2_with fail
    go_ret
    exact ⟨ret_int HRes.out.symm, HB3.out⟩
   ·have HRes := Lib.hid (HN.out he)
    have hdec : decide (nm = s) = false := by simpa using he
    have HDec := Lib.hid hdec
    clear hdec HE HN he
    go_wp2_with fail
    refine (ruleE_any wr nm b p s hpw).mono ?_
    rintro e w3 ⟨rfl, hb3⟩
    have HB3 := Lib.hid (HI.out.1.trans (hb3.mono HI.out.1.size))
    rw [HDec.out]
    clear hb3
    go_wp2_with fail
    go_roundw
    case rel => exact ⟨k + 1, by omega, by go_num, HB3.out, HRes.out⟩
    case measure => simp [intOf]; omega
  ·have hge : (rn : Int) ≤ k := by omega
   have HRes := Lib.hid (ruleIx_none (fun i h => HI.out.2 i (by have := HL.out; omega) h))
   go_wp2_with fail
   go_ret
   exact ⟨ret_int HRes.out.symm, HI.out.1⟩

theorem rule_any (w : World) (ro : Option Addr) (rn rc : Nat) (v : Value) (l : List Ru) (hr : Sv w ro rn rc 2 (l.flatMap ruc)) (s : ByteArray) (no : Option Addr) (nn nc : Nat) (hv : v = .slice no nn nc) :
  Calls Try.prog 67 #[.agg #[.slice ro rn rc, v], .string s] w fun e w' => e = .returned (.int .i64 (ruleIx l s)) ∧ Below w.heap.size w w' := by
 subst hv
 have HB := Lib.hid (al2 (Below.refl w.heap.size w) (.cells #[.slice ro rn rc, .slice no nn nc] 25) (.cells #[.string s] 9))
 have hc : ((w.alloc (.cells #[.slice ro rn rc, .slice no nn nc] 25)).alloc (.cells #[.string s] 9)).cell? ⟨w.heap.size + 1, 0, none⟩ = some (.string s) := by
  have := (hrow.new (w.alloc (.cells #[.slice ro rn rc, .slice no nn nc] 25)) #[.string s] 9).cell 0
  rw [World.size_alloc] at this
  exact this
 have HC := Lib.hid hc
 have HR := Lib.hid (hr.below HB.out)
 clear hr hc
 go_enter Try.func67, Try.ntmps67
 go_wp2_with fail
 refine (indexR_any _ ro rn rc l HR.out _ s HC.out).mono ?_
 rintro e w2 ⟨rfl, hb⟩
 have HB2 := Lib.hid (HB.out.trans (hb.mono HB.out.size))
 clear hb
 go_wp2_with fail
 go_ret
 exact ⟨rfl, HB2.out⟩
end Go.Proofs.Ytdnkffplkleolaa
namespace Go.Proofs.Ytdnkffplkleolaa
open Go.RowKit
set_option maxRecDepth 100000
set_option maxHeartbeats 2000000

theorem Sv.of_pre {w : World} {g : Nat} {t : TypeId} {xs ys : List Value} (h : hrow w g (xs ++ ys).toArray t) (n cap size : Nat) (hl : xs.length = n * size) (hc : n ≤ cap) (hm : cap ≤ maxLen) : Sv w (some ⟨g, 0, none⟩) n cap size xs :=
 ⟨hl, hc, hm, fun h => by simp at h, fun j hj => ⟨_, rfl, by
  have e : (⟨g, 0, none⟩ : Addr).add j = ⟨g, j, none⟩ := by unfold Addr.add; by_cases hz : j = 0 <;> simp [hz]
  rw [e, h.cell, List.getElem?_toArray, List.getElem?_append_left hj]⟩⟩

end Go.Proofs.Ytdnkffplkleolaa
namespace Go.Proofs.Ytdnkffplkleolaa
open Go.RowKit
set_option maxRecDepth 100000
set_option maxHeartbeats 2000000

theorem Sv.nd9 {w : World} {ao : Option Addr} {n cap : Nat} {t : List (Nd × (Option Addr × Nat))} (h : Sv w ao n cap 9 (t.flatMap ndc)) {k : Nat} (hk : k < t.length) :
  ∃ a, ao = some a ∧ w.cell? (a.add (k * 9)) = some (.int .i64 t[k].1.kind) ∧ w.cell? ⟨(a.add (k * 9)).block, (a.add (k * 9)).off + 1, none⟩ = some (.int .u64 t[k].1.c0) ∧ w.cell? ⟨(a.add (k * 9)).block, (a.add (k * 9)).off + 2, none⟩ = some (.int .u64 t[k].1.c1) ∧ w.cell? ⟨(a.add (k * 9)).block, (a.add (k * 9)).off + 3, none⟩ = some (.int .u64 t[k].1.c2) ∧ w.cell? ⟨(a.add (k * 9)).block, (a.add (k * 9)).off + 4, none⟩ = some (.int .u64 t[k].1.c3) ∧ w.cell? ⟨(a.add (k * 9)).block, (a.add (k * 9)).off + 5, none⟩ = some (.string t[k].1.text) ∧ w.cell? ⟨(a.add (k * 9)).block, (a.add (k * 9)).off + 6, none⟩ = some (.int .i64 t[k].1.rule) ∧ w.cell? ⟨(a.add (k * 9)).block, (a.add (k * 9)).off + 7, none⟩ = some (.int .i64 t[k].1.lev) ∧ w.cell? ⟨(a.add (k * 9)).block, (a.add (k * 9)).off + 8, none⟩ = some (.slice t[k].2.1 t[k].1.kids.length t[k].2.2) := by
 obtain ⟨a, ha, hc⟩ := h.at ndc_len (by decide) k hk
 refine ⟨a, ha, hc 0 _ rfl, ?_, ?_, ?_, ?_, ?_, ?_, ?_, ?_⟩
 ·have := hc 1 _ rfl; rw [add_off _ _ _ (by decide)] at this; exact this
 ·have := hc 2 _ rfl; rw [add_off _ _ _ (by decide)] at this; exact this
 ·have := hc 3 _ rfl; rw [add_off _ _ _ (by decide)] at this; exact this
 ·have := hc 4 _ rfl; rw [add_off _ _ _ (by decide)] at this; exact this
 ·have := hc 5 _ rfl; rw [add_off _ _ _ (by decide)] at this; exact this
 ·have := hc 6 _ rfl; rw [add_off _ _ _ (by decide)] at this; exact this
 ·have := hc 7 _ rfl; rw [add_off _ _ _ (by decide)] at this; exact this
 ·have := hc 8 _ rfl; rw [add_off _ _ _ (by decide)] at this; exact this

def mkN (μ : Int → Int → Int) (k i : Int) : Nd × (Option Addr × Nat) := (⟨0, 0, 0, 0, 0, es0, μ k i, 0, []⟩, (none, 0))
def nmarks (β : Int → Int → Int) (k : Nat) : List (Nd × (Option Addr × Nat)) := (List.range k).map fun i : Nat => mkN β 1 (i : Int)
theorem nmarks_len (β : Int → Int → Int) (k : Nat) : (nmarks β k).length = k := by simp [nmarks]
theorem nmarks_succ (β : Int → Int → Int) (k : Nat) : nmarks β (k + 1) = nmarks β k ++ [mkN β 1 (k : Int)] := by simp [nmarks, List.range_succ]
theorem ndc_one (t : List (Nd × (Option Addr × Nat))) : ∀ u ∈ t.flatMap ndc, u.oneCell' = true := by
 intro u hu
 simp only [List.mem_flatMap, ndc] at hu
 obtain ⟨x, _, hx⟩ := hu
 simp at hx
 rcases hx with rfl | rfl | rfl | rfl | rfl | rfl | rfl | rfl | rfl <;> rfl
theorem infoNo : (Try.prog.info? 57).map (fun i => (i.zero, i.size, i.bytes)) = some (some (.agg #[.int .i64 0, .int .u64 0, .int .u64 0, .int .u64 0, .int .u64 0, .string es0, .int .i64 0, .int .i64 0, .slice none 0 0]), 9, 96) := by kernel_rfl
/-- Each node's kids are lent: a fresh row, marks behind it. -/
structure Lt (β : Int → Int → Int) (B : Nat) (w : World) (NK NL : List (Nd × (Option Addr × Nat))) : Prop where
 eq : NL.map (·.1) = NK.map (·.1)
 row : ∀ p ∈ NL, ∃ g, B < g ∧ p.2 = (some ⟨g, 0, none⟩, p.1.kids.length + 12) ∧ hrow w g (inc (p.1.kids ++ imarks β 12)).toArray 3
theorem Lt.below {β : Int → Int → Int} {B : Nat} {w w' : World} {NK NL : List (Nd × (Option Addr × Nat))} (h : Lt β B w NK NL) (hb : Below w.heap.size w w') : Lt β B w' NK NL :=
 ⟨h.eq, fun p hp => by obtain ⟨g, h1, h2, h3⟩ := h.row p hp; exact ⟨g, h1, h2, h3.below hb⟩⟩
theorem Lt.fr {β : Int → Int → Int} {B : Nat} {w w' : World} {NK NL : List (Nd × (Option Addr × Nat))} (h : Lt β B w NK NL) (hf : Fr (fun k => k = B) w w') : Lt β B w' NK NL :=
 ⟨h.eq, fun p hp => by obtain ⟨g, h1, h2, h3⟩ := h.row p hp; exact ⟨g, h1, h2, h3.fr hf (fun e => by have e' : g = B := e; omega)⟩⟩
theorem Lt.snoc {β : Int → Int → Int} {B : Nat} {w : World} {NK NL : List (Nd × (Option Addr × Nat))} (h : Lt β B w NK NL) (x : Nd) (q : Option Addr × Nat) (g : Nat) (hg : B < g) (hr : hrow w g (inc (x.kids ++ imarks β 12)).toArray 3) : Lt β B w (NK ++ [(x, q)]) (NL ++ [(x, (some ⟨g, 0, none⟩, x.kids.length + 12))]) :=
 ⟨by simp [h.eq], fun p hp => by
  rcases List.mem_append.1 hp with hp | hp
  ·exact h.row p hp
  ·simp only [List.mem_singleton] at hp; subst hp; exact ⟨g, hg, rfl, hr⟩⟩

end Go.Proofs.Ytdnkffplkleolaa
namespace Go.Proofs.Ytdnkffplkleolaa
open Go.RowKit
set_option maxRecDepth 100000
set_option maxHeartbeats 2000000

/-- So many rules, nodes, kids at most. -/
def Small (m rn nn : Nat) (NK : List (Nd × (Option Addr × Nat))) : Prop := rn ≤ m ∧ nn ≤ m ∧ ∀ p ∈ NK, p.1.kids.length ≤ m
theorem size_any (w : World) (ro no : Option Addr) (rn rc nn nc : Nat) (NK : List (Nd × (Option Addr × Nat))) (G : Gr) (hg : GrW w ro rn rc no nn nc NK G) (hr : rn ≤ 140737488355328) (hn : nn ≤ 140737488355328) (hkb : ∀ p ∈ NK, p.1.kids.length ≤ 140737488355328) :
  Calls Try.prog 5 #[.agg #[.slice ro rn rc, .slice no nn nc]] w fun r w' => (∃ m : Nat, r = .returned (.int .i64 m) ∧ (m ≤ 200 → Small 200 rn nn NK)) ∧ Below w.heap.size w w' := by
 have hgb := hg.rul.bound
 have hnb := hg.nod.sv.bound
 have hnl := hg.nod.sv.n_eq ndc_len (by decide)
 have HN := Lib.hid (fun w' (hb : Below w.heap.size w w') => (hg.below hb).nod)
 have HNl := Lib.hid hnl; have HKb := Lib.hid hkb
 have HB0 := Lib.hid ((Below.refl w.heap.size w).alloc (Nat.le_refl _) (.cells #[.slice ro rn rc, .slice no nn nc] 25))
 have HA0 := Lib.hid (hrow.new w #[.slice ro rn rc, .slice no nn nc] 25)
 clear hg hnl hkb
 go_enter Try.func5, Try.ntmps5
 go_upto_region 1 with (fail)
 revert HB0 HA0
 generalize w.alloc _ = w1
 generalize hh0 : w.heap.size = h0
 intro HB0 HA0
 have HB1 : Hid (Below w.heap.size w w1) := by rw [hh0]; exact HB0.out
 clear HB0 hh0
 obtain ⟨a0, a1⟩ := (HA0.out).c2
 go_wp2_with fail
 go_loopw [3, 4] (fun v i wr => ∃ k m : Nat, k ≤ nn ∧ i = .int .i64 k ∧ v = .int .i64 m ∧ wr = w1 ∧ rn + nn ≤ m ∧ m ≤ 422212465065985 ∧ Hid (∀ p ∈ NK.take k, p.1.kids.length ≤ m)) (fun _ i _ => nn - (intOf i).toNat)
 case atStart => exact ⟨0, rn + nn, by omega, rfl, by simp, rfl, by omega, by omega, Lib.hid (fun p hp => by simp at hp)⟩
 case round =>
  obtain ⟨k, m, hk, rfl, rfl, rfl, hm, hmb, HK⟩ := hrel
  by_cases hlt : k < nn
  ·have hlt' : (k : Int) < nn := by omega
   by_cases hms : m ≤ 200
   ·have hms' : (m : Int) ≤ 200 := by omega
    have hkl : k < NK.length := by have := HNl.out; omega
    have HTk := Lib.hid (show NK.take (k + 1) = NK.take k ++ [NK[k]] from List.take_succ_eq_append_getElem hkl)
    have hb := HKb.out _ (List.getElem_mem hkl)
    obtain ⟨a, rfl, -, -, -, -, -, -, -, -, a8⟩ := (HN.out _ HB1.out).sv.nd9 hkl
    generalize NK[k] = p at *
    obtain ⟨x, ko, kc⟩ := p
    simp only [] at a8 hb HTk
    clear hkl
    go_wp2_with fail
    go_roundw
    case rel => exact ⟨k + 1, m + x.kids.length, by omega, by go_num, by go_num, trivial, by omega, by omega, fun q hq => by
     rw [HTk.out] at hq
     rcases List.mem_append.1 hq with hq | hq
     ·have := HK.out q hq; omega
     ·simp only [List.mem_singleton] at hq; subst hq; simp only []; omega⟩
    case measure => simp [intOf]; omega
   ·have hms' : ¬ (m : Int) ≤ 200 := by omega
    go_wp2_with fail
    go_ret
    exact ⟨⟨m, rfl, fun h => absurd h hms⟩, HB1.out⟩
  ·have hke : k = nn := by omega
   subst hke
   go_wp2_with fail
   go_ret
   exact ⟨⟨m, rfl, fun h => ⟨by omega, by omega, fun p hp => by have := HK.out p (by rw [List.take_of_length_le (by have := HNl.out; omega)]; exact hp); omega⟩⟩, HB1.out⟩
end Go.Proofs.Ytdnkffplkleolaa
