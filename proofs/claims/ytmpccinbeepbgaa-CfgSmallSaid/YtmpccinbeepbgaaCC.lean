/- Walks: what stands behind a tree, where trees stand. -/
import Derived.Test.YtmpccinbeepbgaaCB
namespace Go.Proofs.Ytmpccinbeepbgaa
open Go.RowKit

/-- How many twigs so many trees take. -/
def afT : Nat → List Tw → Option Nat
  | 0, _ => some 0
  | _ + 1, [] => none
  | k + 1, x :: t => (afT (k + x.kids.toNat) t).map (· + 1)

theorem afT_zero : ∀ t : List Tw, afT 0 t = some 0
  | [] => rfl
  | _ :: _ => rfl

section
variable {l : Tab} {w : List Int}
theorem KDf.after : ∀ {f a b : Nat} {t : List Tw} {m : Nat}, KDf l w f a b t m → ∀ (L : Nat) (B : List Tw), afT (m + L) (t ++ B) = (afT L B).map (· + t.length)
  | 0, _, _, _, _, h, _, _ => h.elim
  | f + 1, a, b, _, _, h, L, B => by
    rcases h with ⟨_, _, rfl, rfl⟩ | ⟨_, e, t', m', rfl, _, k3, k4, rfl, rfl⟩ | ⟨i, c, t1, t2, m1, m2, k1, k2, k3, rfl, rfl⟩
    · simp
    · have ih := k4.after L B
      rw [show 1 + L = L + 1 by omega, List.cons_append]
      simp only [afT, tw, Int.toNat_natCast]
      rw [Nat.add_comm L m', ih, Option.map_map]
      simp [Function.comp_def, Nat.add_assoc]
    · have ih1 := k2.after (L + 1) ((tw (bh l i) (c + 1) b m2 :: t2) ++ B)
      have ih2 := k3.after L B
      rw [show 2 + L = (L + 1) + 1 by omega, List.append_assoc, List.cons_append]
      simp only [afT, tw, Int.toNat_natCast] at ih1 ⊢
      rw [Nat.add_comm (L + 1) m1, ih1]
      rw [List.cons_append]
      simp only [afT, Int.toNat_natCast]
      rw [Nat.add_comm L m2, ih2]
      cases afT L B with
      | none => rfl
      | some q => simp only [Option.map_some, List.length_append, List.length_cons]; congr 1; omega

/-- A row of twigs that is a tree. -/
def IsTree (u : List Tw) : Prop := ∀ B, afT 1 (u ++ B) = some u.length
theorem KDf.tree {f a b lv p q : Nat} {t : List Tw} {m : Nat} (h : KDf l w f a b t m) : IsTree (tw lv p q m :: t) := by
  intro B
  have := h.after 0 B
  simp only [List.cons_append, afT, tw, Int.toNat_natCast, Nat.zero_add]
  rw [Nat.add_zero] at this
  rw [this, afT_zero]
  simp
theorem KDf.trees : ∀ {f a b : Nat} {t : List Tw} {m : Nat}, KDf l w f a b t m → ∃ ts : List (List Tw), t = ts.flatten ∧ ts.length = m ∧ ∀ u ∈ ts, IsTree u
  | 0, _, _, _, _, h => h.elim
  | f + 1, a, b, _, _, h => by
    rcases h with ⟨_, _, rfl, rfl⟩ | ⟨_, e, t', m', rfl, _, k3, k4, rfl, rfl⟩ | ⟨i, c, t1, t2, m1, m2, k1, k2, k3, rfl, rfl⟩
    · exact ⟨[], rfl, rfl, by simp⟩
    · exact ⟨[tw 0 (a + 1) e m' :: t'], by simp, rfl, by simp only [List.mem_singleton]; rintro u rfl; exact k4.tree⟩
    · refine ⟨[tw i a c m1 :: t1, tw (bh l i) (c + 1) b m2 :: t2], by simp, rfl, ?_⟩
      intro u hu
      simp only [List.mem_cons, List.not_mem_nil, or_false] at hu
      rcases hu with rfl | rfl
      · exact k2.tree
      · exact k3.tree
end

def starts : Nat → List (List Tw) → List Int
  | _, [] => []
  | p, u :: us => (p : Int) :: starts (p + u.length) us

set_option maxRecDepth 100000 in
set_option maxHeartbeats 1000000 in
theorem after_any (w : World) (ao : Option Addr) (cap n : Nat) (t : List Tw) (hs : Sv w ao n cap 5 (t.flatMap twc)) (hn : n ≤ 1000000) (hk : ∀ x ∈ t, 0 ≤ x.kids ∧ x.kids ≤ 1000000) (p d : Nat) (hd : afT 1 (t.drop p) = some d) (hp : p ≤ n) :
    Calls Try.prog 42 #[.slice ao n cap, .int .i64 p] w fun r w' => r = .returned (.int .i64 ((p + d : Nat) : Int)) ∧ w = w' := by
  obtain ⟨h1, h2⟩ := hs.bound
  have hl := hs.elems_len twc_len (by omega)
  have HSl := Lib.hid hs; clear hs
  have HL := Lib.hid hl; clear hl
  have HK := Lib.hid hk; clear hk
  have HN := Lib.hid hn; clear hn
  have HD := Lib.hid hd; clear hd
  have HP := Lib.hid hp; clear hp
  go_enter Try.func42, Try.ntmps42
  go_wp2_with fail
  go_loopw [1, 5] (fun i v wr => wr = w ∧ ∃ q L : Nat, i = .int .i64 q ∧ v = .int .i64 L ∧ Hid (q ≤ n ∧ L ≤ (q + 1) * 1000001 ∧ ∃ e, afT L (t.drop q) = some e ∧ q + e = p + d)) (fun i _ _ => n - (intOf i).toNat)
  case atStart => exact ⟨rfl, p, 1, rfl, rfl, HP.out, by omega, d, HD.out, rfl⟩
  case round =>
    obtain ⟨rfl, q, L, rfl, rfl, hI⟩ := hrel
    by_cases hL : L = 0
    · subst hL
      have hq : q = p + d := by
        obtain ⟨e, h3, h4⟩ := hI.out.2.2
        rw [afT_zero] at h3
        cases h3; omega
      subst hq
      clear hI
      go_wp2_with fail
      go_ret
      exact ⟨rfl, rfl⟩
    · have hq : q < n := by
        rcases Nat.lt_or_ge q n with h | h
        · exact h
        · exfalso
          obtain ⟨e, h3, h4⟩ := hI.out.2.2
          rw [List.drop_eq_nil_of_le (by have := HL.out; omega)] at h3
          obtain ⟨L', rfl⟩ : ∃ L', L = L' + 1 := ⟨L - 1, by omega⟩
          cases h3
      have hqz : q < t.length := by have := HL.out; omega
      obtain ⟨a, rfl, hc⟩ := HSl.out.elem twc_len q hqz (by omega)
      have hdr : t.drop q = t[q] :: t.drop (q + 1) := List.drop_eq_getElem_cons hqz
      have hkx := HK.out _ (List.getElem_mem hqz)
      have HX := Lib.hid hdr
      clear hdr
      generalize t[q]'_ = x at *
      clear hqz
      obtain ⟨x1, x2, x3, x4, x5⟩ := x
      obtain ⟨L, rfl⟩ : ∃ L', L = L' + 1 := ⟨L - 1, by omega⟩
      obtain ⟨hk0, hk1⟩ := hkx
      simp only [] at hk0 hk1
      obtain ⟨m, rfl⟩ := Int.eq_ofNat_of_zero_le hk0
      have HNx : Hid (q + 1 ≤ n ∧ (L + m) ≤ (q + 1 + 1) * 1000001 ∧ ∃ e, afT (L + m) (t.drop (q + 1)) = some e ∧ q + 1 + e = p + d) := by
        obtain ⟨hq1, hL1, e, h3, h4⟩ := hI.out
        rw [HX.out] at h3
        simp only [afT, Int.toNat_natCast, Option.map_eq_some_iff] at h3
        obtain ⟨e', h5, h6⟩ := h3
        exact ⟨by omega, by omega, e', h5, by omega⟩
      have hb1 : (L : Int) + m ≤ 100000000000000 := by have := HNx.out.2.1; have := HN.out; omega
      have c4 : wr.cell? ⟨(a.add (q * 5)).block, (a.add (q * 5)).off + 4, none⟩ = some (.int .i64 m) := hc 4 _ rfl
      have hq0 : (0 : Int) ≤ q := by omega
      have hqn : (q : Int) < n := by omega
      have hL0 : (0 : Int) < (L : Int) + 1 := by omega
      have hL2 : (0 : Int) ≤ L := by omega
      have hq3 : (q : Int) ≤ 100000000000000 := by have := HN.out; omega
      clear hI hc hL
      go_wp2_with fail
      go_roundw
      case rel => exact ⟨trivial, q + 1, L + m, by go_num, by go_num, HNx.out⟩
      case measure => simp [intOf]; omega

theorem iInt : Elem Try.prog 47 3 1 8 (.int .i64 0) := ⟨by kernel_rfl, by kernel_rfl, rfl, by decide⟩

theorem drop_flat {t A B : List Tw} {u : List Tw} {us : List (List Tw)} (h : t = A ++ (u :: us).flatten ++ B) (hu : IsTree u) : afT 1 (t.drop A.length) = some u.length := by
  subst h
  rw [List.append_assoc, List.drop_left, List.flatten_cons, List.append_assoc]
  exact hu _

theorem IsTree.pos {u : List Tw} (h : IsTree u) : 1 ≤ u.length := by
  cases u with
  | nil => have := h []; cases this
  | cons x u => simp
theorem trees_len : ∀ ts : List (List Tw), (∀ u ∈ ts, IsTree u) → ts.length ≤ ts.flatten.length
  | [], _ => by simp
  | u :: ts, h => by
    have := trees_len ts (fun u hu => h u (by simp [hu]))
    have := (h u (by simp)).pos
    simp only [List.length_cons, List.flatten_cons, List.length_append]; omega
theorem starts_app : ∀ (p : Nat) (a b : List (List Tw)), starts p (a ++ b) = starts p a ++ starts (p + a.flatten.length) b
  | p, [], b => by simp [starts]
  | p, u :: a, b => by
    simp only [List.cons_append, starts, starts_app (p + u.length) a b, List.flatten_cons, List.length_append, Nat.add_assoc]

set_option maxRecDepth 100000 in
set_option maxHeartbeats 1000000 in
theorem some_any (w : World) (ao : Option Addr) (cap n : Nat) (t : List Tw) (hs : Sv w ao n cap 5 (t.flatMap twc)) (hn : n ≤ 1000000) (hk : ∀ x ∈ t, 0 ≤ x.kids ∧ x.kids ≤ 1000000)
    (A B : List Tw) (ts : List (List Tw)) (ht : t = A ++ ts.flatten ++ B) (hts : ∀ u ∈ ts, IsTree u) (p e : Nat) (hp : p = A.length) (he : e = p + ts.flatten.length) :
    Calls Try.prog 71 #[.slice ao n cap, .int .i64 p, .int .i64 e] w fun r w' => (∃ v, r = .returned v ∧ Own w w' 3 1 v ts.length ((starts p ts).map (.int .i64))) := by
  have hl := hs.elems_len twc_len (by omega)
  have hen : e ≤ n := by
    have := congrArg List.length ht
    simp only [List.length_append] at this; omega
  have HTL := Lib.hid (trees_len ts hts)
  have HAf := Lib.hid (fun w' (hb : Below w.heap.size w w') q d hd hq => after_any w' ao cap n t (hs.below hb) hn hk q d hd hq)
  clear hs
  have HT := Lib.hid ht; clear ht
  have HTs := Lib.hid hts; clear hts
  have HL := Lib.hid hl; clear hl hk
  have HP := Lib.hid hp; clear hp
  have HE := Lib.hid he; clear he
  go_enter Try.func71, Try.ntmps71
  go_wp2_with fail
  go_loopw [1, 6] (fun i v wr => ∃ q : Nat, q ≤ e ∧ i = .int .i64 q ∧ Hid (∃ ts1 ts2 : List (List Tw), ts = ts1 ++ ts2 ∧ q = p + ts1.flatten.length ∧ Own w wr 3 1 v ts1.length ((starts p ts1).map (.int .i64)))) (fun i _ _ => e - (intOf i).toNat)
  case atStart => exact ⟨p, by have := HE.out; omega, rfl, [], ts, rfl, by simp, Own.nil w 3 1⟩
  case round =>
    obtain ⟨q, hq, rfl, hI⟩ := hrel
    by_cases hlt : q < e
    · obtain ⟨ts1, ts2, h3, h4, h5⟩ := hI.out
      clear hI
      cases ts2 with
      | nil =>
        exfalso
        have := HE.out
        rw [h3, List.append_nil] at this
        omega
      | cons u ts2 =>
        have HU := Lib.hid (HTs.out u (by rw [h3]; simp))
        have HO := Lib.hid h5
        have H3 := Lib.hid h3
        have H4 := Lib.hid h4
        have HD := Lib.hid (drop_flat (t := t) (A := A ++ ts1.flatten) (B := B) (u := u) (us := ts2) (by rw [HT.out, h3]; simp) HU.out)
        have hAl : (A ++ ts1.flatten).length = q := by rw [List.length_append, ← HP.out, h4]
        rw [hAl] at HD
        have HLn : Hid ((ts1.length + 1) * 8 ≤ 140737488355328 ∧ ts1.length + 1 ≤ maxLen) := by
          have h6 := HTL.out
          rw [h3] at h6
          have h7 := HE.out
          rw [h3] at h7
          simp only [List.length_append, List.length_cons, List.flatten_append, List.flatten_cons] at h6 h7
          have := trees_len ts1 (fun u hu => HTs.out u (by rw [h3]; simp [hu]))
          unfold Hid maxLen; omega
        have HQe : Hid (q + u.length ≤ e ∧ 1 ≤ u.length) := by
          have h7 := HE.out
          rw [h3] at h7
          simp only [List.length_append, List.flatten_append, List.flatten_cons] at h7
          exact ⟨by omega, HU.out.pos⟩
        clear h3 h4 h5 hAl
        have hq0 : (0 : Int) ≤ q := by omega
        go_wp2_with (first
          | (at_builtin; go_loud (refine wpList_app1 w _ rfl _ _ 47 3 rfl iInt u6 ts1.length _ rfl HO.out #[.int .i64 q] rfl rfl (by simp [Value.oneCell']) HLn.out.1 HLn.out.2 ?_; intro v' w8 hO8; have HO8 := Lib.hid hO8; clear hO8))
          | (go_at_call 42; refine (HAf.out _ HO8.out.2 q u.length HD.out (by omega)).mono ?_; rintro e' w9 ⟨rfl, rfl⟩))
        go_roundw
        case rel =>
          refine ⟨q + u.length, HQe.out.1, rfl, ts1 ++ [u], ts2, by rw [H3.out]; simp, by rw [H4.out]; simp; omega, ?_⟩
          have := HO8.out
          simp only [List.length_append, List.length_singleton, starts_app, List.map_append, starts, List.map_cons, List.map_nil]
          rw [← H4.out]
          exact this
        case measure => have := HQe.out; simp [intOf]; omega
    · have HO : Hid (Own w wr 3 1 u6 ts.length ((starts p ts).map (.int .i64))) := by
        obtain ⟨ts1, ts2, h3, h4, h5⟩ := hI.out
        cases ts2 with
        | nil => rw [List.append_nil] at h3; subst h3; exact h5
        | cons u ts2 =>
          exfalso
          have h6 := (HTs.out u (by rw [h3]; simp)).pos
          have h7 := HE.out
          rw [h3] at h7
          simp only [List.length_append, List.flatten_append, List.flatten_cons] at h7
          omega
      clear hI
      go_wp2_with fail
      go_ret
      exact ⟨_, rfl, HO.out⟩

theorem roots_any (w : World) (ao : Option Addr) (cap n : Nat) (t : List Tw) (hs : Sv w ao n cap 5 (t.flatMap twc)) (hn : n ≤ 1000000) (hk : ∀ x ∈ t, 0 ≤ x.kids ∧ x.kids ≤ 1000000)
    (ts : List (List Tw)) (ht : t = ts.flatten) (hts : ∀ u ∈ ts, IsTree u) :
    Calls Try.prog 76 #[.slice ao n cap] w fun r w' => (∃ v, r = .returned v ∧ Own w w' 3 1 v ts.length ((starts 0 ts).map (.int .i64))) := by
  have hl := hs.elems_len twc_len (by omega)
  have HX := Lib.hid (some_any w ao cap n t hs hn hk [] [] ts (by simp [ht]) hts 0 n rfl (by rw [← hl, ht]; simp))
  clear hs hl ht hts hk
  go_enter Try.func76, Try.ntmps76
  go_wp2_with (first | (go_at_call 71; refine HX.out.mono ?_; rintro e w2 ⟨v, rfl, ho⟩; have HO := Lib.hid ho; clear ho))
  go_ret
  exact ⟨_, rfl, HO.out⟩

theorem Roots_any (w : World) (ao : Option Addr) (cap n : Nat) (t : List Tw) (hs : Sv w ao n cap 5 (t.flatMap twc)) (hn : n ≤ 1000000) (hk : ∀ x ∈ t, 0 ≤ x.kids ∧ x.kids ≤ 1000000) (hf : forestB t = true)
    (ts : List (List Tw)) (ht : t = ts.flatten) (hts : ∀ u ∈ ts, IsTree u) :
    Calls Try.prog 48 #[.slice ao n cap] w fun r w' => (∃ v, r = .returned v ∧ Own w w' 3 1 v ts.length ((starts 0 ts).map (.int .i64))) := by
  have HX := Lib.hid (fun w' hb => roots_any w' ao cap n t (hs.below hb) hn hk ts ht hts)
  have HF := Lib.hid (forest_any w ao cap n t hs hn (fun x hx => (hk x hx).2))
  rw [hf] at HF
  clear hs ht hts hk
  go_enter Try.func48, Try.ntmps48
  go_wp2_with (first
    | (go_at_call 23; refine HF.out.mono ?_; rintro e w2 ⟨rfl, hb2⟩; have HB2 := Lib.hid hb2; clear hb2)
    | (go_at_call 76; refine (HX.out _ HB2.out).mono ?_; rintro e w3 ⟨v, rfl, ho⟩; have HO := Lib.hid ho; clear ho))
  go_ret
  exact ⟨_, rfl, HO.out.since HB2.out⟩
end Go.Proofs.Ytmpccinbeepbgaa
