/- Plain: what the program's functions compute is what the reference's compute. -/
import Derived.Test.YtbndpmfekglnkaaEq2
namespace Go.Proofs.Ytbndpmfekglnkaa

theorem Jn.step_call {l : List Int} {m : Mt} {st : List Nat} (h : Jn l m st) (hmay : mayR l 1 = true) : Jn (l ++ [1]) (m.count 1) (l.length :: st) := by
  obtain ⟨_, _, b3, b4⟩ := bump_more m 1
  have ht : (m.bump 1).turn 1 = { (m.bump 1) with opn := (m.bump 1).opn ++ [(1, 0)] } := by unfold Mt.turn; simp
  have hown : ∀ i, i < l.length → ownR (l ++ [1]) i = ownR l i := fun i hi => own_other l 1 i hi (.inl ⟨by decide, by decide⟩)
  have hdep : ∀ i d, i < l.length → depR l i = some d → depR (l ++ [1]) i = some (d + 1) := by
    intro i d hi hd
    rw [depR_snoc l 1 i hi, hd]
    have := depR_nonneg l i d hd
    simp [stp]; omega
  refine h.mk_step 1 (by decide) (by decide) hmay (l.length :: st) ?_ ?_ ?_ ?_ ?_ ?_ ?_ ?_
  · have := h.dl; rw [cnt_snoc', cnt_snoc']; simp; omega
  · rw [ht]; simp only; rw [b4, List.reverse_append, h.fr, List.map_cons, ownR_new]
    show (1, 0) :: _ = _
    congr 1
    refine List.map_congr_left fun i hi => ?_
    obtain ⟨j, hj⟩ := List.getElem?_of_mem hi
    rw [hown i (h.at1 j i hj).1]
  · intro s
    rw [List.reverse_append, List.reverse_singleton, List.singleton_append]
    cases s with
    | zero => simp [innerGo]
    | succ s => simp only [innerGo]; simp; exact h.inn s
  · intro j i hj
    cases j with
    | zero =>
      simp only [List.getElem?_cons_zero, Option.some.injEq] at hj
      subst hj
      exact ⟨by simp, getD_last l 1, depR_new l 1⟩
    | succ j =>
      rw [List.getElem?_cons_succ] at hj
      obtain ⟨a, b, c⟩ := h.at1 j i hj
      exact ⟨by simp; omega, by rw [getD_snoc l 1 i a]; exact b, by rw [hdep i _ a c]; simp⟩
  · intro i d hi h1' hd
    have hi' : i < l.length + 1 := by simpa using hi
    by_cases hil : i < l.length
    · rw [getD_snoc l 1 i hil] at h1'
      cases hdd : depR l i with
      | none => rw [depR_snoc l 1 i hil, hdd] at hd; cases hd
      | some d' =>
        rw [hdep i d' hil hdd] at hd
        obtain ⟨j, hj, hs⟩ := h.at2 i d' hil h1' hdd
        refine ⟨j + 1, ?_, by rw [List.getElem?_cons_succ]; exact hs⟩
        cases hd; omega
    · have : i = l.length := by omega
      subst this
      rw [depR_new] at hd; cases hd
      exact ⟨0, rfl, rfl⟩
  · rw [ht]; simp only; rw [b3]; exact h.m0
  · intro i hi h1'
    rw [ht]; simp only; rw [b3]
    have hi' : i < l.length + 1 := by simpa using hi
    by_cases hil : i < l.length
    · rw [getD_snoc l 1 i hil] at h1'
      rw [hown i hil]; exact h.mu i hil h1'
    · have : i = l.length := by omega
      subst this
      rw [ownR_new]; exact h.m0
  · rw [ht]; simp only; rw [b3]
    rcases h.ma with h0 | ⟨i, a, b, c⟩
    · exact .inl h0
    · exact .inr ⟨i, by simp; omega, by rw [getD_snoc l 1 i a]; exact b, by rw [hown i a]; exact c⟩

theorem Jn.step_end {l : List Int} {m : Mt} {st : List Nat} (h : Jn l m st) (hmay : mayR l 8 = true) : Jn (l ++ [8]) (m.count 8) st.tail := by
  obtain ⟨_, _, b3, b4⟩ := bump_more m 8
  obtain ⟨i0, r, rfl⟩ := h.open_pos hmay (by omega)
  have ht : (m.bump 8).turn 8 = { (m.bump 8) with opn := (m.bump 8).opn.dropLast } := by unfold Mt.turn; simp
  have hown : ∀ i, i < l.length → ownR (l ++ [8]) i = ownR l i := fun i hi => own_other l 8 i hi (.inl ⟨by decide, by decide⟩)
  have hnot : ∀ i, i < (l ++ [8]).length → (l ++ [8]).getD i 0 = 1 → i < l.length ∧ l.getD i 0 = 1 := by
    intro i hi h1
    have hi' : i < l.length + 1 := by simpa using hi
    by_cases hil : i < l.length
    · exact ⟨hil, by rwa [getD_snoc l 8 i hil] at h1⟩
    · have : i = l.length := by omega
      subst this; rw [getD_last] at h1; exact absurd h1 (by decide)
  have hop : m.opn = (r.map fun i => (stt (ownR l i), (cnt 2 (ownR l i) : Int))).reverse ++ [(stt (ownR l i0), (cnt 2 (ownR l i0) : Int))] := by
    have := congrArg List.reverse h.fr
    simpa using this
  refine h.mk_step 8 (by decide) (by decide) hmay r ?_ ?_ ?_ ?_ ?_ ?_ ?_ ?_
  · have := h.dl; rw [cnt_snoc', cnt_snoc']; simp at this ⊢; omega
  · rw [ht]; simp only; rw [b4, hop, List.dropLast_concat, List.reverse_reverse]
    refine List.map_congr_left fun i hi => ?_
    obtain ⟨j, hj⟩ := List.getElem?_of_mem hi
    rw [hown i (h.at1 (j + 1) i (by rw [List.getElem?_cons_succ]; exact hj)).1]
  · intro s
    rw [List.reverse_append, List.reverse_singleton, List.singleton_append]
    simp only [innerGo, if_true]
    rw [h.inn (s + 1), List.getElem?_cons_succ]
    rfl
  · intro j i hj
    obtain ⟨a, b, c⟩ := h.at1 (j + 1) i (by rw [List.getElem?_cons_succ]; exact hj)
    refine ⟨by simp; omega, by rw [getD_snoc l 8 i a]; exact b, ?_⟩
    rw [depR_snoc l 8 i a, c]
    simp [stp]
  · intro i d hi h1' hd
    obtain ⟨a, b⟩ := hnot i hi h1'
    cases hdd : depR l i with
    | none => rw [depR_snoc l 8 i a, hdd] at hd; cases hd
    | some d' =>
      rw [depR_snoc l 8 i a, hdd] at hd
      obtain ⟨j, hj, hs⟩ := h.at2 i d' a b hdd
      simp only [Option.bind_some, stp] at hd
      simp at hd
      cases j with
      | zero => omega
      | succ j => exact ⟨j, by omega, by rw [List.getElem?_cons_succ] at hs; exact hs⟩
  · rw [ht]; simp only; rw [b3]; exact h.m0
  · intro i hi h1'
    obtain ⟨a, b⟩ := hnot i hi h1'
    rw [ht]; simp only; rw [b3, hown i a]; exact h.mu i a b
  · rw [ht]; simp only; rw [b3]
    rcases h.ma with h0 | ⟨i, a, b, c⟩
    · exact .inl h0
    · exact .inr ⟨i, by simp; omega, by rw [getD_snoc l 8 i a]; exact b, by rw [hown i a]; exact c⟩

theorem Jn.step_own {l : List Int} {m : Mt} {st : List Nat} (h : Jn l m st) (e : Int) (he : e = 2 ∨ e = 3) (hmay : mayR l e = true) : Jn (l ++ [e]) (m.count e) st := by
  have n1 : e ≠ 1 := by omega
  have n8 : e ≠ 8 := by omega
  obtain ⟨_, _, b3, b4⟩ := bump_more m e
  obtain ⟨i0, r, rfl⟩ := h.open_pos hmay (by omega)
  have hop : m.opn = (r.map fun i => (stt (ownR l i), (cnt 2 (ownR l i) : Int))).reverse ++ [(stt (ownR l i0), (cnt 2 (ownR l i0) : Int))] := by
    have := congrArg List.reverse h.fr
    simpa using this
  obtain ⟨p1, p2, p3⟩ := h.at1 0 i0 rfl
  have htop : ownR (l ++ [e]) i0 = ownR l i0 ++ [e] := own_top l e i0 p1 he p3
  have hc2 : (cnt 2 (ownR l i0 ++ [e]) : Int) = cnt 2 (ownR l i0) + if e = 2 then 1 else 0 := cnt_snoc' 2 _ e
  have hto : ((m.bump e).turn e).opn = (r.map fun i => (stt (ownR l i), (cnt 2 (ownR l i) : Int))).reverse ++ [(e, (cnt 2 (ownR l i0 ++ [e]) : Int))] ∧ ((m.bump e).turn e).ms = (if e = 2 then max m.ms (cnt 2 (ownR l i0 ++ [e]) : Int) else m.ms) := by
    unfold Mt.turn
    rw [hc2]
    rcases he with rfl | rfl
    · rw [if_neg (by decide), if_pos rfl, b4, hop, List.getLast?_concat, List.dropLast_concat]
      simp [b3]
    · rw [if_neg (by decide), if_neg (by decide), if_pos rfl, b4, hop, List.getLast?_concat, List.dropLast_concat]
      simp [b3]
  have hown : ∀ i, i < l.length → l.getD i 0 = 1 → i ≠ i0 → ownR (l ++ [e]) i = ownR l i := by
    intro i hi h1 hne
    refine own_other l e i hi (.inr ?_)
    intro hd
    obtain ⟨j, hj, hs⟩ := h.at2 i 0 hi h1 hd
    have : j = 0 := by omega
    subst this
    simp only [List.getElem?_cons_zero, Option.some.injEq] at hs
    exact hne hs.symm
  have hdep : ∀ i, i < l.length → depR (l ++ [e]) i = depR l i := fun i hi => dep_same l e n1 n8 i hi (fun d => depR_nonneg l i d)
  have hnot : ∀ i, i < (l ++ [e]).length → (l ++ [e]).getD i 0 = 1 → i < l.length ∧ l.getD i 0 = 1 := by
    intro i hi h1
    have hi' : i < l.length + 1 := by simpa using hi
    by_cases hil : i < l.length
    · exact ⟨hil, by rwa [getD_snoc l e i hil] at h1⟩
    · have : i = l.length := by omega
      subst this; rw [getD_last] at h1; exact absurd h1 n1
  refine h.mk_step e (by omega) (by omega) hmay (i0 :: r) ?_ ?_ ?_ ?_ ?_ ?_ ?_ ?_
  · have := h.dl; rw [cnt_snoc', cnt_snoc', if_neg n1, if_neg n8]; omega
  · rw [hto.1, List.reverse_append, List.reverse_reverse, List.map_cons, htop, stt_snoc]
    show _ :: _ = _ :: _
    congr 1
    refine List.map_congr_left fun i hi => ?_
    obtain ⟨j, hj⟩ := List.getElem?_of_mem hi
    obtain ⟨a, b, c⟩ := h.at1 (j + 1) i (by rw [List.getElem?_cons_succ]; exact hj)
    rw [hown i a b (by rintro rfl; rw [p3] at c; simp only [Option.some.injEq] at c; omega)]
  · intro s
    rw [List.reverse_append, List.reverse_singleton, List.singleton_append]
    simp only [innerGo, if_neg n1, if_neg n8]
    exact h.inn s
  · intro j i hj
    obtain ⟨a, b, c⟩ := h.at1 j i hj
    exact ⟨by simp; omega, by rw [getD_snoc l e i a]; exact b, by rw [hdep i a]; exact c⟩
  · intro i d hi h1' hd
    obtain ⟨a, b⟩ := hnot i hi h1'
    rw [hdep i a] at hd
    exact h.at2 i d a b hd
  · rw [hto.2]; have := h.m0; split <;> omega
  · intro i hi h1'
    obtain ⟨a, b⟩ := hnot i hi h1'
    rw [hto.2]
    by_cases hi0 : i = i0
    · subst hi0
      have := h.mu i a b
      rw [htop, hc2]
      split <;> omega
    · have := h.mu i a b
      rw [hown i a b hi0]
      split <;> omega
  · rw [hto.2]
    by_cases h2 : e = 2
    · subst h2
      rw [if_pos rfl]
      by_cases hle : m.ms ≤ (cnt 2 (ownR l i0 ++ [2]) : Int)
      · refine .inr ⟨i0, by simp; omega, by rw [getD_snoc l 2 i0 p1]; exact p2, ?_⟩
        rw [htop]; omega
      · have hm : max m.ms (cnt 2 (ownR l i0 ++ [2]) : Int) = m.ms := by omega
        rw [hm]
        rcases h.ma with h0 | ⟨i, a, b, c⟩
        · exact .inl h0
        · refine .inr ⟨i, by simp; omega, by rw [getD_snoc l 2 i a]; exact b, ?_⟩
          have hne : i ≠ i0 := by
            rintro rfl
            rw [hc2, if_pos rfl] at hle; omega
          rw [hown i a b hne]; exact c
    · rw [if_neg h2]
      rw [if_neg h2] at hc2
      rcases h.ma with h0 | ⟨i, a, b, c⟩
      · exact .inl h0
      · refine .inr ⟨i, by simp; omega, by rw [getD_snoc l e i a]; exact b, ?_⟩
        by_cases hi0 : i = i0
        · subst hi0; rw [htop, hc2]; omega
        · rw [hown i a b hi0]; exact c

theorem Jn.step {l : List Int} {m : Mt} {st : List Nat} (h : Jn l m st) (e : Int) (h1 : 1 ≤ e) (h8 : e ≤ 8) (hmay : mayR l e = true) : ∃ st', Jn (l ++ [e]) (m.count e) st' := by
  have : e = 1 ∨ e = 8 ∨ (e = 2 ∨ e = 3) ∨ (e = 4 ∨ e = 5 ∨ e = 6 ∨ e = 7) := by omega
  rcases this with rfl | rfl | he | he
  · exact ⟨_, h.step_call hmay⟩
  · exact ⟨_, h.step_end hmay⟩
  · exact ⟨_, h.step_own e he hmay⟩
  · exact ⟨_, h.step_plain e h1 h8 hmay he⟩

/-- Adding and putting agree, and the trace that was taken is right. -/
theorem Jn.run : ∀ (more : List Int) (l : List Int) (m : Mt) (st : List Nat) (n : Nat), Jn l m st → (addM m more n).1 = (putR l more n).1 ∧ (addM m more n).2.1 = (putR l more n).2 ∧ ∃ st', Jn (l ++ more.take ((addM m more n).1 - n)) (addM m more n).2.2 st' ∧ n ≤ (addM m more n).1 ∧ ((putR l more n).2 = 0 → (addM m more n).1 = n + more.length)
  | [], l, m, st, n, h => ⟨rfl, rfl, st, by simpa [addM] using h, Nat.le_refl _, fun _ => rfl⟩
  | x :: r, l, m, st, n, h => by
    by_cases hx : x < 1 ∨ 8 < x
    · have hc : m.check x = 2 := by unfold Mt.check; rw [if_pos hx]
      have e1 : addM m (x :: r) n = (n, 2, m) := by simp only [addM, hc]; rfl
      have e2 : putR l (x :: r) n = (n, 2) := by simp only [putR, if_pos hx]
      rw [e1, e2]
      exact ⟨rfl, rfl, st, by simpa using h, Nat.le_refl _, fun h => by cases h⟩
    · have h1 : 1 ≤ x := by omega
      have h8 : x ≤ 8 := by omega
      have hc := h.may x h1 h8
      by_cases hm : mayR l x = false
      · rw [if_pos hm] at hc
        have e1 : addM m (x :: r) n = (n, 13, m) := by simp only [addM, hc]; rfl
        have e2 : putR l (x :: r) n = (n, 13) := by simp only [putR, if_neg hx, if_pos hm]
        rw [e1, e2]
        exact ⟨rfl, rfl, st, by simpa using h, Nat.le_refl _, fun h => by cases h⟩
      · rw [if_neg hm] at hc
        have e1 : addM m (x :: r) n = addM (m.count x) r (n + 1) := by simp only [addM, hc]; rfl
        have e2 : putR l (x :: r) n = putR (l ++ [x]) r (n + 1) := by simp only [putR, if_neg hx, if_neg hm]
        rw [e1, e2]
        obtain ⟨st1, hst1⟩ := h.step x h1 h8 (by simpa using hm)
        obtain ⟨a, b, st', c, d, f⟩ := Jn.run r (l ++ [x]) (m.count x) st1 (n + 1) hst1
        refine ⟨a, b, st', ?_, by omega, fun hp => ?_⟩
        · have : (x :: r).take ((addM (m.count x) r (n + 1)).1 - n) = x :: r.take ((addM (m.count x) r (n + 1)).1 - (n + 1)) := by
            rw [show (addM (m.count x) r (n + 1)).1 - n = ((addM (m.count x) r (n + 1)).1 - (n + 1)) + 1 by omega, List.take_succ_cons]
          rw [this]
          simpa using c
        · rw [f hp]; simp; omega

theorem Jn.all (zs : List Int) (hz : (putR [] zs 0).2 = 0) : ∃ st, Jn zs (addM Mt.zero zs 0).2.2 st := by
  obtain ⟨a, b, st, c, d, f⟩ := Jn.run zs [] Mt.zero [] 0 Jn.zero
  rw [f hz] at c
  exact ⟨st, by simpa using c⟩

theorem ofM_eq_ofR (zs : List Int) : ofM zs = ofR zs := by
  obtain ⟨a, b, _⟩ := Jn.run zs [] Mt.zero [] 0 Jn.zero
  unfold ofM ofR
  simp only
  rw [b]
  by_cases hz : (putR [] zs 0).2 = 0
  · rw [if_pos hz, if_neg (by simpa using hz)]
    obtain ⟨st, h⟩ := Jn.all zs hz
    rw [peaksR_eq]
    obtain ⟨c1, c2, c3, c4, c5, c6, c7, c8⟩ := h.cs
    have hm := mostR_is zs _ h.m0 h.mu h.ma
    have hlen : ((addM Mt.zero zs 0).2.2.opn.length : Int) = (cnt 1 zs : Int) - cnt 8 zs := by
      have := congrArg List.length h.fr
      simp at this
      rw [this]; exact h.dl
    unfold mostR at hm
    simp only [Mt.cn, Mt.live, c1, c2, c3, c4, c5, c6, c7, c8, hlen, h.pk, h.dp, hm]
  · rw [if_neg hz, if_pos hz]
end Go.Proofs.Ytbndpmfekglnkaa
