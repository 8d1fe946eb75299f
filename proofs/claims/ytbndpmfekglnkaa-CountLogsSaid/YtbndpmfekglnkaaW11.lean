/- Walks: the log's Add. -/
import Derived.Test.YtbndpmfekglnkaaW10
namespace Go.Proofs.Ytbndpmfekglnkaa
open Go.RowKit

/-- What Add leaves. -/
def AddPost (w : World) (p : Nat) (m' : Mt) (tr' : List Int) (ov tv : Value) (w' : World) : Prop :=
  ∃ ov' tv', LogAt w' p m' tr' ov' tv' ∧ Fr (fun k => k = p ∨ ov.ownBlock = some k ∨ tv.ownBlock = some k) w w' ∧ (∀ k, ov'.ownBlock = some k → ov.ownBlock = some k ∨ w.heap.size ≤ k) ∧ (∀ k, tv'.ownBlock = some k → tv.ownBlock = some k ∨ w.heap.size ≤ k)

theorem addM_eq (m : Mt) (x : Int) (r : List Int) (n : Nat) : addM m (x :: r) n = if m.check x = 0 then addM (m.count x) r (n + 1) else (n, m.check x, m) := rfl

theorem LogAt.mkt {w : World} {p : Nat} {m : Mt} {tr' : List Int} {ov tv tv' : Value} (hb : w.heap[p]? = some (.cells (m.cells ov (.bool true) tv) 55 (0, 0)))
    (ho : w.ownsRow 0 66 2 ov m.opn.length (flat m.opn)) (ht : w.ownsRow 0 36 1 tv' tr'.length (tr'.map (.int .i64))) :
    LogAt (w.setCell ⟨p, 14, none⟩ tv') p m tr' ov tv' := by
  have hf := Fr.setCell w ⟨p, 14, none⟩ tv'
  refine ⟨?_, ?_, ?_⟩
  · rw [heap_setCell_same _ _ _ _ _ _ hb]; rfl
  · exact owns_fr ho hf (fun k hk he => owns_ne ho hb (by decide) (by rw [hk, he]))
  · exact owns_fr ht hf (fun k hk he => owns_ne ht hb (by decide) (by rw [hk, he]))

/-- The cells of a slice that lies apart from a log. -/
def Apart (F : Nat → Prop) (ao : Option Addr) (n : Nat) : Prop := 0 < n → ∀ a, ao = some a → ¬ F a.block

theorem Sl.fr {F : Nat → Prop} {w w' : World} {ao : Option Addr} {cap : Nat} {zs : List Int} (h : Sl w ao cap zs) (hf : Fr F w w') (ha : Apart F ao zs.length) : Sl w' ao cap zs := by
  refine ⟨h.1, h.2.1, h.2.2.1, fun j hj => ?_⟩
  obtain ⟨a, h1, h2⟩ := h.2.2.2 j hj
  have hlt := World.block_lt_of_cell? w _ h2
  have hb : (a.add j).block = a.block := by unfold Addr.add; split <;> rfl
  refine ⟨a, h1, (World.cell?_of_block ?_).trans h2⟩
  exact hf.block _ hlt (by rw [hb]; exact ha (by omega) a h1)

theorem Sl.apart {F : Nat → Prop} {w : World} {ao : Option Addr} {cap : Nat} {zs : List Int} (h : Sl w ao cap zs) (hF : ∀ k, F k → w.heap.size ≤ k) : Apart F ao zs.length := by
  intro h0 a ha hf
  obtain ⟨a', h1, h2⟩ := h.2.2.2 0 h0
  have hlt := World.block_lt_of_cell? w _ h2
  rw [ha] at h1; cases h1
  have hb : (a.add 0).block = a.block := by unfold Addr.add; split <;> rfl
  have := hF _ hf
  omega

set_option maxRecDepth 100000 in
set_option maxHeartbeats 2000000 in
theorem add_any (w : World) (p : Nat) (m : Mt) (tr : List Int) (ov tv : Value) (n0 : Nat) (h : LogAt w p m tr ov tv) (hk0 : m.ok n0) (ao : Option Addr) (cap : Nat) (zs : List Int) (hs : Sl w ao cap zs)
    (hap : Apart (fun k => k = p ∨ ov.ownBlock = some k ∨ tv.ownBlock = some k) ao zs.length) (hbig : n0 + 2 * zs.length ≤ 800000) (htr : tr.length + zs.length ≤ 800000) :
    Calls Try.prog 17 #[.pointer (some ⟨p, 0, none⟩), .slice ao zs.length cap] w fun r w' => r = .returned (.tuple #[.int .i64 (addM m zs 0).1, .int .i64 (addM m zs 0).2.1]) ∧
      AddPost w p (addM m zs 0).2.2 (tr ++ zs.take (addM m zs 0).1) ov tv w' := by
  obtain ⟨h1, h2⟩ := hs.bound
  have HSl := Lib.hid hs
  have HL := Lib.hid h
  have HK := Lib.hid hk0
  have HAp := Lib.hid hap
  clear hs h hk0 hap
  obtain ⟨R, hR⟩ : ∃ R, addM m zs 0 = R := ⟨_, rfl⟩
  rw [hR]
  have HR := Lib.hid hR; clear hR
  go_enter Try.func17, Try.ntmps17
  go_wp2_with (first
    | (go_at_call 30; refine (is_any _ p m tr ov tv HL.out).mono ?_; rintro e w' ⟨rfl, rfl⟩))
  go_loopw [14] (fun i wr => ∃ (k : Nat) (mk : Mt), k ≤ zs.length ∧ i = .int .i64 k ∧ Hid (mk.ok (n0 + 2 * k) ∧ addM mk (zs.drop k) k = R ∧ AddPost w p mk (tr ++ zs.take k) ov tv wr)) (fun i _ => zs.length - (intOf i).toNat)
  case atStart => exact ⟨0, m, by omega, rfl, HK.out, HR.out, ov, tv, by simpa using HL.out, Fr.refl _ _, fun k hk => .inl hk, fun k hk => .inl hk⟩
  case round =>
    obtain ⟨k, mk, hk, rfl, hI⟩ := hrel
    have HK1 := Lib.hid hI.out.1
    have HR1 := Lib.hid hI.out.2.1
    obtain ⟨ov1, tv1, hl1, hf1, ho1, ht1⟩ := hI.out.2.2
    have HL1 := Lib.hid hl1
    have HF1 := Lib.hid hf1
    have HO1 := Lib.hid ho1
    have HT1 := Lib.hid ht1
    clear hI hl1 hf1 ho1 ht1 HR
    by_cases hlt : k < zs.length
    · obtain ⟨a, rfl, hcell⟩ := (HSl.out.fr HF1.out HAp.out).2.2.2 k hlt
      have hR' := HR1.out
      rw [drop_cons zs k hlt, addM_eq] at hR'
      have hts := take_snoc zs k hlt
      generalize zs.getD k 0 = x at *
      have HR2 := Lib.hid hR'; have HTS := Lib.hid hts; clear hR' HR1 hts
      have HCh := Lib.hid (fun w' (hb : Below wr.heap.size wr w') => check_any w' p mk (tr ++ zs.take k) ov1 tv1 _ (HL1.out.later hb) HK1.out (by omega) x)
      by_cases hc : mk.check x = 0
      · have hx : 1 ≤ x ∧ x ≤ 8 := by
          rcases Int.lt_or_le x 1 with h | h
          · simp [Mt.check, h] at hc
          · rcases Int.lt_or_le 8 x with h' | h'
            · simp [Mt.check, h'] at hc
            · exact ⟨h, h'⟩
        obtain ⟨e, rfl⟩ := Int.eq_ofNat_of_zero_le (show 0 ≤ x by omega)
        have HR3 := Lib.hid (show addM (mk.count e) (zs.drop (k + 1)) (k + 1) = R by have := HR2.out; rw [if_pos hc] at this; exact this)
        have HC := Lib.hid hc
        rw [hc] at HCh
        clear HR2 hc
        have he1 : 1 ≤ e := by omega
        have he8 : e ≤ 8 := by omega
        obtain ⟨i0, hi, hz0, hz1, hz2⟩ := info_parts Try.info36
        have Hi := Lib.hid hi; have Hz0 := Lib.hid hz0; have Hz1 := Lib.hid hz1; have Hz2 := Lib.hid hz2
        clear hi hz0 hz1 hz2
        go_wp2_with (first
          | (go_at_call 31; refine (HCh.out _ (Below.refl _ _)).mono ?_; rintro e' w2 ⟨rfl, hb2⟩; have HB2 := Lib.hid hb2; clear hb2)
          | (go_at_call 32; refine (count_any _ p mk (tr ++ zs.take k) ov1 tv1 _ (HL1.out.later HB2.out) HK1.out (by omega) e he1 he8 HC.out).mono ?_; rintro e' w3 ⟨rfl, ov2, hl3, hf3, ho3⟩; have HL3 := Lib.hid hl3; have HF3 := Lib.hid hf3; have HO3 := Lib.hid ho3; have hc14 : w3.cell? ⟨p, 14, none⟩ = some tv1 := HL3.out.cell 14; clear hl3 hf3 ho3)
          | (at_builtin; refine wpList_append_lies _ rfl _ _ 22 rfl 0 36 i0 _ 1 8 Try.underlying22 Hi.out Hz0.out Hz1.out Hz2.out rfl (by decide) tv1 (tr ++ zs.take k).length _ rfl (HL3.out.trc.alloc _) ⟨w3.heap.size, 0, none⟩ 1 1 [_] rfl rfl (one_new _ _ _) (by simp [Value.oneCell']) (by decide) (by unfold maxLen; simp; omega) (by simp; omega) (Nat.zero_le _) _ rfl ?_; intro g c1 w4 hown hgr hat hlt4; have HO4 := Lib.hid hown; have HAT := Lib.hid hat; have HF4 := Lib.hid ((Fr.of_below (F := fun k => tv1.ownBlock = some k) ((Below.refl _ _).alloc (Nat.le_refl _) _)).trans (Fr.grown hgr) (fun _ _ h => h)); have HB4 := Lib.hid ((HF4.out.block p HL3.out.lt (owns_ne HL3.out.trc HL3.out.blk (by decide))).trans HL3.out.blk); have hc4 : w4.cell? ⟨p, 14, none⟩ = some tv1 := (cell_of_row _ p 14 _ _ _ HB4.out); have hf4 : w4.frozen? ⟨p, 14, none⟩ = false := frozen_of_row _ p 14 _ _ HB4.out; clear hown hgr hat))
        go_roundw
        case rel =>
          refine ⟨k + 1, mk.count e, by omega, by go_num, (HK1.out.count e).mono (by omega), HR3.out, ov2, .slice (some ⟨g, 0, none⟩) (tr.length + k + 1) c1, ?_, ?_, ?_, ?_⟩
          · refine LogAt.mkt HB4.out (owns_fr HL3.out.own HF4.out (fun i hi he => owns_apart HL3.out.own HL3.out.trc (by decide) i hi he)) ?_
            have := HO4.out
            rw [HTS.out]
            simpa [Nat.add_assoc, Nat.min_eq_left (Nat.le_of_lt hlt)] using this
          · refine ((((HF1.out.trans (Fr.of_below HB2.out) (fun _ _ h => h)).trans HF3.out ?_).trans HF4.out ?_).trans (Fr.setCell _ _ _) (fun i _ hi => .inl hi))
            · rintro i hi (h | h)
              · exact .inl h
              · rcases HO1.out i h with h | h
                · exact .inr (.inl h)
                · omega
            · intro i hi h
              rcases HT1.out i h with h | h
              · exact .inr (.inr h)
              · omega
          · intro i hi
            rcases HO3.out i hi with h | h
            · exact HO1.out i h
            · exact .inr (by have := HF1.out.size; have := HB2.out.size; omega)
          · intro i hi
            have hi' : i = g := by simpa [Value.ownBlock] using hi.symm
            subst hi'
            rcases HAT.out with h | h
            · exact HT1.out _ h
            · exact .inr (by rw [h]; have := HF1.out.size; have := HB2.out.size; have := HF3.out.size; simp; omega)
        case measure => simp [intOf]; omega
      · have HR3 := Lib.hid (show ((k : Nat), mk.check x, mk) = R by have := HR2.out; rw [if_neg hc] at this; exact this)
        have hne : (mk.check x != 0) = true := by rw [bne_iff_ne]; exact hc
        clear HR2 hc
        go_wp2_with (first
          | (go_at_call 31; refine (HCh.out _ (Below.refl _ _)).mono ?_; rintro e' w2 ⟨rfl, hb2⟩; have HB2 := Lib.hid hb2; clear hb2))
        go_ret2
        rw [← HR3.out]
        exact ⟨rfl, ov1, tv1, HL1.out.later HB2.out, HF1.out.trans (Fr.of_below HB2.out) (fun _ _ h => h), HO1.out, HT1.out⟩
    · have hke : k = zs.length := by omega
      subst hke
      have HR3 := Lib.hid (show (zs.length, (0 : Int), mk) = R by have := HR1.out; rw [List.drop_of_length_le (Nat.le_refl _)] at this; exact this)
      clear HR1
      go_wp2_with fail
      go_ret2
      rw [← HR3.out]
      exact ⟨rfl, ov1, tv1, HL1.out, HF1.out, HO1.out, HT1.out⟩
end Go.Proofs.Ytbndpmfekglnkaa
