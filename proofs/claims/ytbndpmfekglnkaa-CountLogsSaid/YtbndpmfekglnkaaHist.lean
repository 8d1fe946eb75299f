/- Plain: what holds of the counters of a right trace. -/
import Derived.Test.YtbndpmfekglnkaaEq3
namespace Go.Proofs.Ytbndpmfekglnkaa

theorem putR_take : ∀ (more l : List Int) (n k : Nat), (putR l more n).2 = 0 → (putR l (more.take k) n).2 = 0
  | [], l, n, k, h => by simp [putR]
  | x :: r, l, n, 0, h => by simp [putR]
  | x :: r, l, n, k + 1, h => by
    rw [List.take_succ_cons]
    simp only [putR] at h ⊢
    split at h
    · cases h
    · rename_i hx
      rw [if_neg hx]
      split at h
      · cases h
      · rename_i hm
        rw [if_neg hm]
        exact putR_take r _ _ k h
theorem putR_range : ∀ (more l : List Int) (n : Nat), (putR l more n).2 = 0 → ∀ x ∈ more, 1 ≤ x ∧ x ≤ 8
  | [], l, n, h, x, hx => by cases hx
  | y :: r, l, n, h, x, hx => by
    simp only [putR] at h
    split at h
    · cases h
    · rename_i hy
      split at h
      · cases h
      · rcases List.mem_cons.1 hx with rfl | hx
        · omega
        · exact putR_range r _ _ h x hx

/-- Of a right trace's front: no more Drops than Puts, no more Ends than Calls. -/
theorem front_pos (zs : List Int) (hz : (putR [] zs 0).2 = 0) (k : Nat) : cnt 7 (zs.take k) ≤ cnt 6 (zs.take k) ∧ cnt 8 (zs.take k) ≤ cnt 1 (zs.take k) := by
  obtain ⟨st, h⟩ := Jn.all (zs.take k) (putR_take zs [] 0 k hz)
  have := h.dl
  exact ⟨h.lv, by omega⟩

theorem cnt_le_of_sublist {a b : List Int} (h : a.Sublist b) (e : Int) : cnt e a ≤ cnt e b := (h.filter _).length_le
theorem ownGo_sub : ∀ (l : List Int) (o : Int), (ownGo l o).Sublist l
  | [], _ => by simp [ownGo]
  | x :: r, o => by
    have h1 := ownGo_sub r (o + 1)
    have h2 := ownGo_sub r (o - 1)
    have h3 := ownGo_sub r o
    simp only [ownGo]
    (repeat' split)
    · exact List.nil_sublist _
    · exact h1.cons _
    · exact h2.cons _
    · exact h3.cons_cons _
    · exact h3.cons _
theorem ownR_sub (l : List Int) (k : Nat) : (ownR l k).Sublist l := (ownGo_sub _ _).trans (List.drop_sublist _ _)

def n2 (o : List (Int × Int)) : Nat := (o.filter (fun f => f.1 == 2)).length
def n1 (o : List (Int × Int)) : Nat := (o.filter (fun f => !(f.1 == 1))).length
theorem n2_snoc (o : List (Int × Int)) (f : Int × Int) : n2 (o ++ [f]) = n2 o + if f.1 = 2 then 1 else 0 := by
  by_cases h : f.1 = 2 <;> simp [n2, List.filter_append, h]
theorem n1_snoc (o : List (Int × Int)) (f : Int × Int) : n1 (o ++ [f]) = n1 o + if f.1 = 1 then 0 else 1 := by
  by_cases h : f.1 = 1 <;> simp [n1, List.filter_append, h]
theorem n2_le (o : List (Int × Int)) : n2 o ≤ o.length := List.length_filter_le _ _

/-- Bodies, growths and ends of a right trace. -/
structure Hq (m : Mt) : Prop where
  q1 : m.a3 + n2 m.opn ≤ m.a2
  q2 : m.a2 ≤ m.a3 + m.a8 + n2 m.opn
  q3 : m.a8 + n1 m.opn ≤ m.a2
  q4 : 0 < m.a2 → 0 < m.ms
  q5 : 0 ≤ m.ms
  q6 : ∀ f ∈ m.opn, 0 ≤ f.2

theorem Hq.zero : Hq Mt.zero := ⟨by decide, by decide, by decide, by decide, by decide, fun f hf => by cases hf⟩

theorem Hq.tops {m : Mt} (h : Hq m) : Hq m.tops := ⟨h.q1, h.q2, h.q3, h.q4, h.q5, h.q6⟩

theorem mayM_now (m : Mt) (e : Int) (he : e = 2 ∨ e = 3 ∨ e = 8) (h : m.check e = 0) : ∃ A f, m.opn = A ++ [f] ∧ mayM e f.1 = true := by
  have h7 : e ≠ 7 := by omega
  unfold Mt.check at h
  rw [if_neg (by omega), if_neg h7] at h
  split at h
  · cases h
  · rename_i hm
    rcases List.eq_nil_or_concat m.opn with ho | ⟨A, f, ho⟩
    · exfalso; apply hm; rcases he with rfl | rfl | rfl <;> simp [Mt.now, ho, mayM]
    · rw [List.concat_eq_append] at ho
      refine ⟨A, f, ho, ?_⟩
      simp [Mt.now, ho] at hm
      exact hm

theorem Hq.count {m : Mt} (h : Hq m) (e : Int) (hc : m.check e = 0) : Hq (m.count e) := by
  refine Hq.tops ?_
  obtain ⟨q1, q2, q3, q4, q5, q6⟩ := h
  have hr : 1 ≤ e ∧ e ≤ 8 := by
    unfold Mt.check at hc
    split at hc
    · cases hc
    · omega
  have he : e = 1 ∨ e = 2 ∨ e = 3 ∨ e = 4 ∨ e = 5 ∨ e = 6 ∨ e = 7 ∨ e = 8 := by omega
  rcases he with rfl | rfl | rfl | rfl | rfl | rfl | rfl | rfl
  · refine ⟨?_, ?_, ?_, ?_, ?_, ?_⟩ <;> simp [Mt.turn, Mt.bump, n2_snoc, n1_snoc]
    · omega
    · omega
    · omega
    · exact q4
    · exact q5
    · intro a b hab; rcases hab with hab | hab
      · exact q6 _ hab
      · omega
  · obtain ⟨A, f, ho, hm⟩ := mayM_now m 2 (by omega) hc
    simp only [mayM] at hm
    have hf0 := q6 f (by rw [ho]; simp)
    have hA : ∀ x ∈ A, 0 ≤ x.2 := fun x hx => q6 x (by rw [ho]; simp [hx])
    have hf : f.1 = 1 ∨ f.1 = 3 := by simpa using hm
    rw [ho, n2_snoc] at q1 q2
    rw [ho, n1_snoc] at q3
    rw [if_neg (by omega)] at q1 q2
    refine ⟨?_, ?_, ?_, ?_, ?_, ?_⟩ <;> simp [Mt.turn, Mt.bump, ho, n2_snoc, n1_snoc]
    · omega
    · omega
    · split at q3 <;> omega
    · omega
    · omega
    · intro a b hab; rcases hab with hab | hab
      · exact hA _ hab
      · omega
  · obtain ⟨A, f, ho, hm⟩ := mayM_now m 3 (by omega) hc
    simp only [mayM] at hm
    have hf0 := q6 f (by rw [ho]; simp)
    have hA : ∀ x ∈ A, 0 ≤ x.2 := fun x hx => q6 x (by rw [ho]; simp [hx])
    have hf : f.1 = 2 := by simpa using hm
    rw [ho, n2_snoc, if_pos hf] at q1 q2
    rw [ho, n1_snoc, if_neg (by omega)] at q3
    refine ⟨?_, ?_, ?_, ?_, ?_, ?_⟩ <;> simp [Mt.turn, Mt.bump, ho, n2_snoc, n1_snoc]
    · omega
    · omega
    · omega
    · exact q4
    · exact q5
    · intro a b hab; rcases hab with hab | hab
      · exact hA _ hab
      · omega
  · exact ⟨q1, q2, q3, q4, q5, q6⟩
  · exact ⟨q1, q2, q3, q4, q5, q6⟩
  · exact ⟨q1, q2, q3, q4, q5, q6⟩
  · exact ⟨q1, q2, q3, q4, q5, q6⟩
  · obtain ⟨A, f, ho, hm⟩ := mayM_now m 8 (by omega) hc
    simp only [mayM] at hm
    have hA : ∀ x ∈ A, 0 ≤ x.2 := fun x hx => q6 x (by rw [ho]; simp [hx])
    have hf : f.1 = 2 ∨ f.1 = 3 := by simpa using hm
    rw [ho, n2_snoc] at q1 q2
    rw [ho, n1_snoc, if_neg (by omega)] at q3
    refine ⟨?_, ?_, ?_, ?_, ?_, ?_⟩ <;> simp [Mt.turn, Mt.bump, ho]
    · split at q1 <;> omega
    · split at q2 <;> omega
    · omega
    · exact q4
    · exact q5
    · intro a b hab; exact hA _ hab

theorem Hq.run : ∀ (more : List Int) (m : Mt) (n : Nat), Hq m → Hq (addM m more n).2.2
  | [], m, n, h => h
  | x :: r, m, n, h => by
    simp only [addM]
    split
    · rename_i hc; exact Hq.run r _ _ (h.count x hc)
    · exact h

/-- What the law CountHistory asks of the counters. -/
structure Hist (zs : List Int) (c : Cn) : Prop where
  c1 : c.calls = cnt 1 zs
  c2 : c.bodies = cnt 2 zs
  c3 : c.grows = cnt 3 zs
  c4 : c.seeds = cnt 4 zs
  c5 : c.hits = cnt 5 zs
  c6 : c.puts = cnt 6 zs
  c7 : c.drops = cnt 7 zs
  c8 : c.ends = cnt 8 zs
  lv : c.live = (cnt 6 zs : Int) - cnt 7 zs
  op : c.opn = (cnt 1 zs : Int) - cnt 8 zs
  pk : c.peak = pkF 6 7 zs (zs.length + 1) 0 0
  dp : c.deep = pkF 1 8 zs (zs.length + 1) 0 0
  g1 : c.grows ≤ c.bodies
  g2 : c.bodies ≤ c.grows + c.calls
  g3 : c.most ≤ c.bodies
  g4 : (0 < c.most) = (0 < c.bodies)
  g5 : c.ends ≤ c.bodies
  g6 : 0 ≤ c.most

theorem hist_of (zs : List Int) (hz : (putR [] zs 0).2 = 0) : (ofR zs).2 = 0 ∧ Hist zs (ofR zs).1 := by
  rw [← ofM_eq_ofR]
  obtain ⟨a, b, _⟩ := Jn.run zs [] Mt.zero [] 0 Jn.zero
  obtain ⟨st, h⟩ := Jn.all zs hz
  have hq := Hq.run zs Mt.zero 0 Hq.zero
  unfold ofM
  simp only
  rw [b, if_pos hz]
  generalize (addM Mt.zero zs 0).2.2 = m at *
  obtain ⟨q1, q2, q3, q4, q5, q6⟩ := hq
  obtain ⟨c1, c2, c3, c4, c5, c6, c7, c8⟩ := h.cs
  have hlen : (m.opn.length : Int) = (cnt 1 zs : Int) - cnt 8 zs := by
    have := congrArg List.length h.fr
    simp at this
    rw [this]; exact h.dl
  have hms : m.ms ≤ m.a2 := by
    rcases h.ma with h0 | ⟨i, x, y, hi⟩
    · rw [h0, c2]; omega
    · rw [← hi, c2]; have := cnt_le_of_sublist (ownR_sub zs i) 2; omega
  have hn := n2_le m.opn
  refine ⟨rfl, c1, c2, c3, c4, c5, c6, c7, c8, ?_, hlen, h.pk, h.dp, ?_, ?_, hms, ?_, ?_, q5⟩
  · show m.live = _; unfold Mt.live; omega
  · show m.a3 ≤ m.a2; omega
  · show m.a2 ≤ m.a3 + m.a1; omega
  · show (0 < m.ms) = (0 < m.a2); apply propext; exact ⟨fun h => by omega, q4⟩
  · show m.a8 ≤ m.a2; omega

theorem ofR_bad (zs : List Int) (hz : (putR [] zs 0).2 ≠ 0) : ofR zs = (Cn.zero, (putR [] zs 0).2) ∧ 0 < zs.length := by
  refine ⟨by simp only [ofR, if_pos hz], ?_⟩
  cases zs with
  | nil => exact absurd rfl hz
  | cons x r => simp
end Go.Proofs.Ytbndpmfekglnkaa
