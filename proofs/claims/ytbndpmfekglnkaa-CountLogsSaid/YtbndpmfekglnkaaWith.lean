/- Plain: a right trace put within a body of a new activation, and twice one behind the other. -/
import Derived.Test.YtbndpmfekglnkaaHist
namespace Go.Proofs.Ytbndpmfekglnkaa

/-- The meter m, begun upon the meter b. -/
def Mt.on (b m : Mt) : Mt := ⟨m.a0 + b.a0, m.a1 + b.a1, m.a2 + b.a2, m.a3 + b.a3, m.a4 + b.a4, m.a5 + b.a5, m.a6 + b.a6, m.a7 + b.a7, m.a8 + b.a8, max b.pk (b.live + m.pk), max b.dp (b.opn.length + m.dp), max b.ms m.ms, b.opn ++ m.opn⟩

theorem on_now (b m : Mt) : (b.on m).now = if m.opn = [] then b.now else m.now := by
  unfold Mt.now Mt.on
  by_cases h : m.opn = []
  · simp [h]
  · obtain ⟨A, f, ho⟩ : ∃ A f, m.opn = A ++ [f] := by
      rcases List.eq_nil_or_concat m.opn with h' | ⟨A, f, h'⟩
      · exact absurd h' h
      · exact ⟨A, f, by rw [h', List.concat_eq_append]⟩
    simp [ho, ← List.append_assoc]

theorem on_check (b m : Mt) (e : Int) (hb : b.now = 0 ∨ b.now = 2) (hl : 0 ≤ b.live) (hm : 0 ≤ m.live) (h : m.check e = 0) : (b.on m).check e = 0 := by
  unfold Mt.check at h ⊢
  split at h
  · cases h
  · rename_i hr
    rw [if_neg hr]
    by_cases h7 : e = 7
    · rw [if_pos h7] at h ⊢
      split at h
      · cases h
      · rename_i h0
        rw [if_neg]
        simp only [Mt.on, Mt.live] at *
        omega
    · rw [if_neg h7] at h ⊢
      split at h
      · cases h
      · rename_i hmay
        rw [on_now]
        by_cases ho : m.opn = []
        · rw [if_pos ho]
          have hn : m.now = 0 := by simp [Mt.now, ho]
          rw [hn] at hmay
          rw [if_neg]
          have he : e = 1 ∨ e = 2 ∨ e = 3 ∨ e = 4 ∨ e = 5 ∨ e = 6 ∨ e = 8 := by omega
          rcases he with rfl | rfl | rfl | rfl | rfl | rfl | rfl <;> rcases hb with hb | hb <;> rw [hb] <;> revert hmay <;> decide
        · rw [if_neg ho, if_neg hmay]

theorem check_live (m : Mt) (e : Int) (hm : 0 ≤ m.live) (h : m.check e = 0) : 0 ≤ (m.count e).live := by
  obtain ⟨t1, t2, t3, t4, t5, t6, t7, t8, _⟩ := turn_fields (m.bump e) e
  have e6 : (m.count e).a6 = (m.bump e).a6 := t6
  have e7 : (m.count e).a7 = (m.bump e).a7 := t7
  unfold Mt.check at h
  split at h
  · cases h
  · have he : e = 1 ∨ e = 2 ∨ e = 3 ∨ e = 4 ∨ e = 5 ∨ e = 6 ∨ e = 7 ∨ e = 8 := by omega
    unfold Mt.live at *
    rw [e6, e7]
    rcases he with rfl | rfl | rfl | rfl | rfl | rfl | rfl | rfl <;> simp [Mt.bump] at h ⊢ <;> omega

theorem Mt.ext' {m n : Mt} (h0 : m.a0 = n.a0) (h1 : m.a1 = n.a1) (h2 : m.a2 = n.a2) (h3 : m.a3 = n.a3) (h4 : m.a4 = n.a4) (h5 : m.a5 = n.a5) (h6 : m.a6 = n.a6) (h7 : m.a7 = n.a7) (h8 : m.a8 = n.a8) (hp : m.pk = n.pk) (hd : m.dp = n.dp) (hs : m.ms = n.ms) (ho : m.opn = n.opn) : m = n := by
  cases m; cases n; simp_all

theorem on_bump (b m : Mt) (e : Int) : (b.on m).bump e = b.on (m.bump e) := by
  unfold Mt.bump
  (repeat' split) <;> simp only [Mt.on] <;> apply Mt.ext' <;> simp only <;> omega

theorem on_turn (b m : Mt) (e : Int) (h : e = 2 ∨ e = 3 ∨ e = 8 → m.opn ≠ []) : (b.on m).turn e = b.on (m.turn e) := by
  unfold Mt.turn
  by_cases h1 : e = 1
  · simp only [if_pos h1, Mt.on, List.append_assoc]
  · simp only [if_neg h1]
    by_cases hs : e = 2 ∨ e = 3 ∨ e = 8
    · obtain ⟨A, f, ho⟩ : ∃ A f, m.opn = A ++ [f] := by
        rcases List.eq_nil_or_concat m.opn with h' | ⟨A, f, h'⟩
        · exact absurd h' (h hs)
        · exact ⟨A, f, by rw [h', List.concat_eq_append]⟩
      have hl : (b.opn ++ (A ++ [f])).getLast? = some f := by rw [← List.append_assoc, List.getLast?_concat]
      have hd : (b.opn ++ (A ++ [f])).dropLast = b.opn ++ A := by rw [← List.append_assoc, List.dropLast_concat]
      rcases hs with rfl | rfl | rfl
      · simp only [Mt.on, ho, hl, hd, List.getLast?_concat, List.dropLast_concat, if_true, List.append_assoc]
        apply Mt.ext' <;> first | rfl | (simp only [Int.max_assoc]; done) | (simp only; omega)
      · simp [Mt.on, ho, hl, hd]
      · simp [Mt.on, ho, hd]
    · rw [if_neg (by omega), if_neg (by omega), if_neg (by omega), if_neg (by omega), if_neg (by omega), if_neg (by omega)]

theorem on_tops (b m : Mt) : (b.on m).tops = b.on m.tops := by
  unfold Mt.tops
  apply Mt.ext' <;> simp only [Mt.on, Mt.live, List.length_append] <;> omega

theorem on_count (b m : Mt) (e : Int) (h : m.check e = 0) : (b.on m).count e = b.on (m.count e) := by
  unfold Mt.count
  rw [on_bump, on_turn, on_tops]
  intro he
  obtain ⟨A, f, ho, _⟩ := mayM_now m e he h
  obtain ⟨_, _, _, b4⟩ := bump_more m e
  rw [b4, ho]; simp

theorem on_run (b : Mt) (hb : b.now = 0 ∨ b.now = 2) (hl : 0 ≤ b.live) : ∀ (zs : List Int) (m : Mt) (n k : Nat), 0 ≤ m.live → (addM m zs n).2.1 = 0 → (addM (b.on m) zs k).2.1 = 0 ∧ (addM (b.on m) zs k).2.2 = b.on (addM m zs n).2.2
  | [], m, n, k, _, _ => ⟨rfl, rfl⟩
  | x :: r, m, n, k, hm, h => by
    simp only [addM] at h ⊢
    by_cases hc : m.check x = 0
    · rw [if_pos hc] at h ⊢
      rw [if_pos (on_check b m x hb hl hm hc), on_count b m x hc]
      exact on_run b hb hl r (m.count x) (n + 1) (k + 1) (check_live m x hm hc) h
    · rw [if_neg hc] at h
      exact absurd h hc

theorem addM_append : ∀ (a b : List Int) (m : Mt) (n : Nat), (addM m a n).2.1 = 0 → addM m (a ++ b) n = addM (addM m a n).2.2 b (n + a.length)
  | [], b, m, n, _ => by simp [addM]
  | x :: r, b, m, n, h => by
    simp only [List.cons_append, addM] at h ⊢
    split at h
    · rename_i hc
      rw [if_pos hc, if_pos hc, addM_append r b _ _ h]
      congr 1; simp; omega
    · rename_i hc; exact absurd h hc

/-- Peak and live of a right trace. -/
structure Pq (m : Mt) : Prop where
  p1 : m.live ≤ m.pk
  p2 : 0 ≤ m.pk
  p3 : (m.opn.length : Int) ≤ m.dp
  p4 : 0 ≤ m.ms
theorem Pq.zero : Pq Mt.zero := ⟨by decide, by decide, by decide, by decide⟩
theorem turn_ms (m : Mt) (e : Int) : m.ms ≤ (m.turn e).ms := by
  unfold Mt.turn
  (repeat' split) <;> (try simp only) <;> omega
theorem Pq.count {m : Mt} (h : Pq m) (e : Int) : Pq (m.count e) := by
  obtain ⟨_, _, _, _, _, _, _, _, t9, _⟩ := turn_fields (m.bump e) e
  obtain ⟨b1, _, b3, _⟩ := bump_more m e
  have := turn_ms (m.bump e) e
  refine ⟨?_, ?_, ?_, ?_⟩
  · show ((m.bump e).turn e).live ≤ max ((m.bump e).turn e).pk ((m.bump e).turn e).live; omega
  · show 0 ≤ max ((m.bump e).turn e).pk ((m.bump e).turn e).live; rw [t9, b1]; have := h.p2; omega
  · show (((m.bump e).turn e).opn.length : Int) ≤ max ((m.bump e).turn e).dp (((m.bump e).turn e).opn.length : Int); omega
  · show 0 ≤ ((m.bump e).turn e).ms; rw [b3] at this; have := h.p4; omega
theorem Pq.run : ∀ (more : List Int) (m : Mt) (n : Nat), Pq m → Pq (addM m more n).2.2
  | [], m, n, h => h
  | x :: r, m, n, h => by
    simp only [addM]
    split
    · exact Pq.run r _ _ (h.count x)
    · exact h
theorem live_run : ∀ (more : List Int) (m : Mt) (n : Nat), 0 ≤ m.live → 0 ≤ (addM m more n).2.2.live
  | [], m, n, h => h
  | x :: r, m, n, h => by
    simp only [addM]
    split
    · rename_i hc; exact live_run r _ _ (check_live m x h hc)
    · exact h

/-- What the law CountWithin asks. -/
structure Within (c d g : Cn) : Prop where
  d1 : d.calls = c.calls + 1
  d2 : d.bodies = c.bodies + 1
  d3 : d.ends = c.ends + 1
  d4 : d.grows = c.grows
  d5 : d.seeds = c.seeds
  d6 : d.hits = c.hits
  d7 : d.puts = c.puts
  d8 : d.drops = c.drops
  d9 : d.live = c.live
  d10 : d.peak = c.peak
  d11 : d.opn = 0
  d12 : d.deep = c.deep + 1
  d13 : d.most = max c.most 1
  g1 : g.calls = 2 * c.calls
  g2 : g.bodies = 2 * c.bodies
  g3 : g.grows = 2 * c.grows
  g4 : g.live = 2 * c.live
  g5 : g.peak = c.live + c.peak
  g6 : g.deep = c.deep
  g7 : g.most = c.most

theorem within_of (zs : List Int) (hz : (ofM zs).2 = 0) (ho : (ofM zs).1.opn = 0) : (ofM ([1, 2] ++ zs ++ [8])).2 = 0 ∧ (ofM (zs ++ zs)).2 = 0 ∧ Within (ofM zs).1 (ofM ([1, 2] ++ zs ++ [8])).1 (ofM (zs ++ zs)).1 := by
  have hE : (addM Mt.zero zs 0).2.1 = 0 := by
    unfold ofM at hz
    simp only at hz
    split at hz
    · assumption
    · exact hz
  have hC : (ofM zs).1 = (addM Mt.zero zs 0).2.2.cn := by unfold ofM; simp only; rw [if_pos hE]
  have hpq := Pq.run zs Mt.zero 0 Pq.zero
  have hlv := live_run zs Mt.zero 0 (by decide)
  rw [hC] at ho ⊢
  have hop : (addM Mt.zero zs 0).2.2.opn = [] := by
    have : ((addM Mt.zero zs 0).2.2.opn.length : Int) = 0 := ho
    exact List.length_eq_zero_iff.1 (by omega)
  have hb1 : ((Mt.zero.count 1).count 2).on Mt.zero = (Mt.zero.count 1).count 2 := by apply Mt.ext' <;> decide
  have hr1 := on_run ((Mt.zero.count 1).count 2) (.inr (by decide)) (by decide) zs Mt.zero 0 2 (by decide) hE
  rw [hb1] at hr1
  have hr2 := on_run (addM Mt.zero zs 0).2.2 (.inl (by simp [Mt.now, hop])) hlv zs Mt.zero 0 zs.length (by decide) hE
  generalize hm : (addM Mt.zero zs 0).2.2 = m at *
  obtain ⟨p1, p2, p3, p4⟩ := hpq
  rw [hop] at p3
  have hb2 : m.on Mt.zero = m := by
    apply Mt.ext' <;> simp [Mt.on, Mt.zero, hop] <;> first | omega | (simp at p3; omega)
  rw [hb2] at hr2
  have ha1 : addM Mt.zero ([1, 2] ++ zs ++ [8]) 0 = addM ((Mt.zero.count 1).count 2) (zs ++ [8]) 2 := by
    rw [List.append_assoc]; rfl
  have ha2 : addM Mt.zero (zs ++ zs) 0 = addM m zs zs.length := by
    rw [addM_append zs zs _ _ hE, hm, Nat.zero_add]
  have ha3 : addM ((Mt.zero.count 1).count 2) (zs ++ [8]) 2 = addM (((Mt.zero.count 1).count 2).on m) [8] (2 + zs.length) := by
    rw [addM_append zs [8] _ _ hr1.1, hr1.2]
  have hck : (((Mt.zero.count 1).count 2).on m).check 8 = 0 := by
    unfold Mt.check
    rw [if_neg (by decide), if_neg (by decide), on_now, if_pos hop]; decide
  have hon : (((Mt.zero.count 1).count 2).on m).opn = [(2, 1)] := by
    show ((Mt.zero.count 1).count 2).opn ++ m.opn = _; rw [hop]; decide
  have e1 : ofM ([1, 2] ++ zs ++ [8]) = (((((Mt.zero.count 1).count 2).on m).count 8).cn, 0) := by
    unfold ofM; simp only [ha1, ha3, addM, if_pos hck, if_true]
  have e2 : ofM (zs ++ zs) = ((m.on m).cn, 0) := by
    unfold ofM; simp only [ha2, hr2.1, hr2.2, if_true]
  rw [e1, e2]
  have hl1 : ((Mt.zero.count 1).count 2).live = 0 := by decide
  refine ⟨rfl, rfl, ?_⟩
  have f1 : ((Mt.zero.count 1).count 2).a1 = 1 ∧ ((Mt.zero.count 1).count 2).a2 = 1 ∧ ((Mt.zero.count 1).count 2).a3 = 0 ∧ ((Mt.zero.count 1).count 2).a4 = 0 ∧ ((Mt.zero.count 1).count 2).a5 = 0 ∧ ((Mt.zero.count 1).count 2).a6 = 0 ∧ ((Mt.zero.count 1).count 2).a7 = 0 ∧ ((Mt.zero.count 1).count 2).a8 = 0 ∧ ((Mt.zero.count 1).count 2).pk = 0 ∧ ((Mt.zero.count 1).count 2).dp = 1 ∧ ((Mt.zero.count 1).count 2).ms = 1 ∧ ((Mt.zero.count 1).count 2).opn = [(2, 1)] := by decide
  generalize (Mt.zero.count 1).count 2 = b at *
  obtain ⟨f1, f2, f3, f4, f5, f6, f7, f8, f9, f10, f11, f12⟩ := f1
  unfold Mt.live at hl1 hlv p1
  simp at p3
  refine ⟨?_, ?_, ?_, ?_, ?_, ?_, ?_, ?_, ?_, ?_, ?_, ?_, ?_, ?_, ?_, ?_, ?_, ?_, ?_, ?_⟩ <;> simp [Mt.cn, Mt.count, Mt.tops, Mt.turn, Mt.bump, Mt.on, Mt.live, f1, f2, f3, f4, f5, f6, f7, f8, f9, f10, f11, f12, hop] <;> omega
end Go.Proofs.Ytbndpmfekglnkaa
