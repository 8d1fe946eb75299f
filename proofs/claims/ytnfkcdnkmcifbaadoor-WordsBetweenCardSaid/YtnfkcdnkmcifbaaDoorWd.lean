/- Plain: what is skipped, as the program goes; the fronts of classes of bytes. -/
import Derived.Test.YtnfkcdnkmcifbaaDoorWc
import Derived.Lib.Bytealg
import Derived.Lib.SlTrimSet
import Derived.Lib.Strings
namespace Go.Proofs.YtnfkcdnkmcifbaaDoor

theorem skp_blanks : ∀ t : List UInt8, skp false t = (t.takeWhile isBl).length + skp false (t.dropWhile isBl)
  | [] => rfl
  | c :: t => by
    rw [List.takeWhile_cons, List.dropWhile_cons]
    by_cases h : isBl c = true
    · rw [if_pos h, if_pos h]
      have := skp_blanks t
      simp only [skp]
      rw [if_pos h, this, List.length_cons]
      omega
    · rw [if_neg h, if_neg h]; simp
theorem skp_stop {c : UInt8} {t : List UInt8} (h1 : isBl c = false) (h2 : c ≠ 35) : skp false (c :: t) = 0 := by
  simp only [skp]; rw [if_neg (by rw [h1]; exact Bool.false_ne_true), if_neg (by simpa using h2)]
theorem drop_head {p : UInt8 → Bool} : ∀ {t : List UInt8} {c : UInt8} {u : List UInt8}, t.dropWhile p = c :: u → p c = false
  | [], c, u, h => by cases h
  | x :: t, c, u, h => by
    rw [List.dropWhile_cons] at h
    by_cases hp : p x = true
    · rw [if_pos hp] at h; exact drop_head h
    · rw [if_neg hp] at h; cases h; simpa using hp
theorem drop_tw {p : UInt8 → Bool} : ∀ l : List UInt8, l.dropWhile p = l.drop (l.takeWhile p).length
  | [] => rfl
  | c :: l => by
    rw [List.dropWhile_cons, List.takeWhile_cons]
    split
    · rw [List.length_cons, List.drop_succ_cons]; exact drop_tw l
    · rfl
theorem pre1 (p c : UInt8) (u : List UInt8) : Lib.hasPrefix (c :: u) [p] = (p == c) := by
  show (p == c && List.isPrefixOf [] u) = (p == c)
  rw [List.isPrefixOf_nil_left, Bool.and_true]
theorem ix_ge (l : List UInt8) (c : UInt8) : -1 ≤ Lib.indexByte l c ∧ Lib.indexByte l c < l.length := by
  induction l with
  | nil => simp [Lib.indexByte]
  | cons b l ih =>
    simp only [Lib.indexByte, List.length_cons]
    split
    · omega
    · split
      · omega
      · rename_i h; simp only [beq_iff_eq] at h; omega
theorem skp_remark : ∀ u : List UInt8, skp true u = if Lib.indexByte u 10 < 0 then u.length else (Lib.indexByte u 10).toNat + 1 + skp false (u.drop ((Lib.indexByte u 10).toNat + 1))
  | [] => rfl
  | c :: u => by
    have ih := skp_remark u
    have hb := ix_ge u 10
    by_cases h : c = 10
    · subst h
      have e1 : Lib.indexByte (10 :: u) 10 = 0 := by simp [Lib.indexByte]
      rw [e1]
      simp [skp]
    · have h1 : (c == 10) = false := by simpa using h
      have h2 : (c != 10) = true := by rw [bne, h1]; rfl
      have e1 : Lib.indexByte (c :: u) 10 = if Lib.indexByte u 10 == -1 then -1 else Lib.indexByte u 10 + 1 := by simp [Lib.indexByte, h]
      have e0 : skp true (c :: u) = 1 + skp true u := by simp only [skp]; rw [h2]
      rw [e0, e1, ih, List.length_cons]
      by_cases h3 : Lib.indexByte u 10 < 0
      · have h4 : Lib.indexByte u 10 = -1 := by omega
        rw [if_pos h3, h4]
        simp; omega
      · have h4 : (Lib.indexByte u 10 == -1) = false := by simp; omega
        rw [if_neg h3, h4]
        simp only [Bool.false_eq_true, if_false]
        rw [if_neg (by omega)]
        have h5 : (Lib.indexByte u 10 + 1).toNat = (Lib.indexByte u 10).toNat + 1 := by omega
        rw [h5, List.drop_succ_cons]
        omega
theorem ix_at : ∀ (u : List UInt8) (c : UInt8), 0 ≤ Lib.indexByte u c → ∃ v, u.drop (Lib.indexByte u c).toNat = c :: v
  | [], c, h => by simp [Lib.indexByte] at h
  | b :: u, c, h => by
    simp only [Lib.indexByte] at h ⊢
    by_cases h1 : (b == c) = true
    · rw [if_pos h1]; rw [beq_iff_eq] at h1; subst h1; exact ⟨u, rfl⟩
    · rw [if_neg h1] at h ⊢
      by_cases h2 : (Lib.indexByte u c == -1) = true
      · rw [if_pos h2] at h; omega
      · rw [if_neg h2] at h ⊢
        have hb := ix_ge u c
        simp only [beq_iff_eq] at h2
        obtain ⟨v, hv⟩ := ix_at u c (by omega)
        have h5 : (Lib.indexByte u c + 1).toNat = (Lib.indexByte u c).toNat + 1 := by omega
        exact ⟨v, by rw [h5, List.drop_succ_cons]; exact hv⟩
/-- A remark, up to the byte that ends it. -/
theorem skp_hash (u : List UInt8) : (Lib.indexByte (35 :: u) 10 < 0 → skp false (35 :: u) = (35 :: u).length) ∧
    (0 ≤ Lib.indexByte (35 :: u) 10 → 1 ≤ Lib.indexByte (35 :: u) 10 ∧ skp false (35 :: u) = (Lib.indexByte (35 :: u) 10).toNat + skp false ((35 :: u).drop (Lib.indexByte (35 :: u) 10).toNat)) := by
  have e0 : skp false (35 :: u) = 1 + skp true u := by simp [skp, isBl]
  have e1 : Lib.indexByte (35 :: u) 10 = if Lib.indexByte u 10 == -1 then -1 else Lib.indexByte u 10 + 1 := by simp [Lib.indexByte]
  have hb := ix_ge u 10
  rw [e0, e1, skp_remark u]
  by_cases h : Lib.indexByte u 10 < 0
  · have h4 : Lib.indexByte u 10 = -1 := by omega
    rw [h4]
    simp
    omega
  · have h4 : (Lib.indexByte u 10 == -1) = false := by simp; omega
    rw [h4, if_neg h]
    simp only [Bool.false_eq_true, if_false]
    refine ⟨fun h => by omega, fun _ => ⟨by omega, ?_⟩⟩
    have h5 : (Lib.indexByte u 10 + 1).toNat = (Lib.indexByte u 10).toNat + 1 := by omega
    rw [h5, List.drop_succ_cons]
    obtain ⟨v, hv⟩ := ix_at u 10 (by omega)
    have e2 : u.drop ((Lib.indexByte u 10).toNat + 1) = v := by rw [← List.drop_drop, hv]; rfl
    rw [hv, e2]
    simp [skp, isBl]
    omega

/-! ### Classes of bytes, as texts -/
def blS : ByteArray := ⟨#[32, 9, 10, 13]⟩
def dgS : ByteArray := ⟨#[48, 49, 50, 51, 52, 53, 54, 55, 56, 57]⟩
def ltS : ByteArray := ⟨#[97, 98, 99, 100, 101, 102, 103, 104, 105, 106, 107, 108, 109, 110, 111, 112, 113, 114, 115, 116, 117, 118, 119, 120, 121, 122, 65, 66, 67, 68, 69, 70, 71, 72, 73, 74, 75, 76, 77, 78, 79, 80, 81, 82, 83, 84, 85, 86, 87, 88, 89, 90, 95]⟩
def ldS : ByteArray := ⟨#[97, 98, 99, 100, 101, 102, 103, 104, 105, 106, 107, 108, 109, 110, 111, 112, 113, 114, 115, 116, 117, 118, 119, 120, 121, 122, 65, 66, 67, 68, 69, 70, 71, 72, 73, 74, 75, 76, 77, 78, 79, 80, 81, 82, 83, 84, 85, 86, 87, 88, 89, 90, 95, 48, 49, 50, 51, 52, 53, 54, 55, 56, 57]⟩
theorem blS_is (c : UInt8) : blS.data.toList.contains c = isBl c := u8_all (P := fun c => blS.data.toList.contains c = isBl c) (by decide +kernel) c
theorem dgS_is (c : UInt8) : dgS.data.toList.contains c = isDg c := u8_all (P := fun c => dgS.data.toList.contains c = isDg c) (by decide +kernel) c
theorem ltS_is (c : UInt8) : ltS.data.toList.contains c = isLt c := u8_all (P := fun c => ltS.data.toList.contains c = isLt c) (by decide +kernel) c
theorem ldS_is (c : UInt8) : ldS.data.toList.contains c = isLD c := u8_all (P := fun c => ldS.data.toList.contains c = isLD c) (by decide +kernel) c
theorem trim_is {S : ByteArray} {p : UInt8 → Bool} (h : ∀ c, S.data.toList.contains c = p c) (l : List UInt8) : Lib.trimLeftS l S.data.toList = l.dropWhile p := by
  unfold Lib.trimLeftS
  congr 1
  funext c
  exact h c
end Go.Proofs.YtnfkcdnkmcifbaaDoor
