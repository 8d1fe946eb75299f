/- Walks: escape: a letter behind a backslash. -/
import Derived.Test.YtnfkcdnkmcifbaaDoorEf
namespace Go.Proofs.YtnfkcdnkmcifbaaDoor
open Go.RowKit Go.ChangeMaps
set_option maxRecDepth 100000
set_option maxHeartbeats 4000000

def valI : Value → Int | .int _ n => n | _ => 0
theorem shE_st : (∀ x ∈ shE.toList, x.born < 3) ∧ (shE.toList.map (·.born)).Nodup := by
 constructor
 ·intro x hx
  simp only [shE, List.mem_cons, List.not_mem_nil, or_false] at hx
  rcases hx with rfl | rfl | rfl <;> simp
 ·decide
/-- A letter that is found. -/
theorem shE_hit {e : MapEntry} (he : e ∈ shE.toList) (d : UInt8) : ∃ b v : UInt8, e.key = .int .u8 b.toNat ∧ e.val = .int .u8 v.toNat ∧ (v = d → lett d = some (b, 2)) := by
 simp only [shE, List.mem_cons, List.not_mem_nil, or_false] at he
 rcases he with rfl | rfl | rfl
 ·exact ⟨10, 110, rfl, rfl, fun h => by subst h; rfl⟩
 ·exact ⟨13, 114, rfl, rfl, fun h => by subst h; rfl⟩
 ·exact ⟨9, 116, rfl, rfl, fun h => by subst h; rfl⟩
theorem shE_miss {d : UInt8} (h : ∀ x ∈ shE.toList, ¬ valI x.val = (d.toNat : Int)) : lett d = if d == 92 || d == 34 || d == 93 || d == 45 then some (d, 2) else none := by
 have h1 := h ⟨.int .u8 10, .int .u8 110, 0⟩ (by simp [shE])
 have h2 := h ⟨.int .u8 13, .int .u8 114, 1⟩ (by simp [shE])
 have h3 := h ⟨.int .u8 9, .int .u8 116, 2⟩ (by simp [shE])
 simp only [valI] at h1 h2 h3
 unfold lett
 rw [if_neg (by intro e; rw [beq_iff_eq] at e; subst e; exact h1 rfl), if_neg (by intro e; rw [beq_iff_eq] at e; subst e; exact h2 rfl), if_neg (by intro e; rw [beq_iff_eq] at e; subst e; exact h3 rfl)]
theorem ix_four (d : UInt8) : decide (Lib.indexByte (ByteArray.mk #[92, 34, 93, 45]).data.toList d < 0) = !(d == 92 || d == 34 || d == 93 || d == 45) :=
 u8_all (P := fun d => decide (Lib.indexByte [92, 34, 93, 45] d < 0) = !(d == 92 || d == 34 || d == 93 || d == 45)) (by decide +kernel) d
theorem letter_any (s : ByteArray) (a p : Int) (w : World) (hs : s.size ≤ 1000000) : Calls Tryd.prog 50 #[.agg #[.string s, .int .i64 a, .int .i64 p]] w fun e w' => e = .returned (rdT (lettA s.data.toList a)) ∧ Below w.heap.size w w' := by
 have HA := Lib.hid (show Below w.heap.size w (w.alloc (.cells #[.string s, .int .i64 a, .int .i64 p] 96)) from (Below.refl _ _).alloc (Nat.le_refl _) _)
 have HZ := Lib.hid (show w.heap.size ≤ (w.alloc (.cells #[.string s, .int .i64 a, .int .i64 p] 96)).heap.size by simp)
 have HR := Lib.hid (hrow.new w #[.string s, .int .i64 a, .int .i64 p] 96)
 by_cases h : a < 0 ∨ (s.size : Int) ≤ a
 ·rw [lettA_out h]
  have HB := Lib.hid (byte_no s a 0 (w.alloc (.cells #[.string s, .int .i64 a, .int .i64 p] 96)) hs (by omega) (by omega) (by omega))
  have HB2 := Lib.hid (fun x => byte_no s a 1 x hs (by omega) (by omega) (by omega))
  clear h
  go_enter Tryd.func50, Tryd.ntmps50
  go_wp2_with fail
  refine HB.out.mono ?_
  rintro e x ⟨rfl, hb⟩
  have H1 := Lib.hid (HA.out.trans (hb.mono HZ.out))
  have c1 := (HR.out.below hb).c3
  clear hb
  go_wp2_with fail
  refine (HB2.out _).mono ?_
  rintro e x2 ⟨rfl, hb⟩
  have H2 := Lib.hid (H1.out.trans (hb.mono H1.out.size))
  clear hb c1
  go_wp2_with fail
  go_ret2
  exact ⟨rfl, H2.out⟩
 ·obtain ⟨k, rfl⟩ : ∃ k : Nat, a = k := ⟨a.toNat, by omega⟩
  have hk : k < s.size := by omega
  have HB := Lib.hid (byte_yes s k 0 0 (w.alloc (.cells #[.string s, .int .i64 k, .int .i64 p] 96)) hs (by omega) hk rfl)
  have e0 : s[k + 0]'hk = s[k]'hk := rfl
  rw [e0] at HB
  by_cases hk2 : k + 1 < s.size
  ·rw [lettA_in hk2]
   have HB2 := Lib.hid (fun x => byte_yes s k 1 1 x hs (by omega) hk2 rfl)
   generalize s[k]'hk = c at HB ⊢
   generalize s[k + 1]'hk2 = d at HB2 ⊢
   clear h e0 hk hk2
   by_cases hc : c = 92
   ·subst hc
    rw [if_pos (show ((92 : UInt8) == 92) = true from rfl)]
    go_enter Tryd.func50, Tryd.ntmps50
    go_wp2_with fail
    refine HB.out.mono ?_
    rintro e x ⟨rfl, hb⟩
    have H1 := Lib.hid (HA.out.trans (hb.mono HZ.out))
    have c1 := (HR.out.below hb).c3
    clear hb
    go_wp2_with fail
    refine (HB2.out _).mono ?_
    rintro e x2 ⟨rfl, hb⟩
    have H2 := Lib.hid (H1.out.trans (hb.mono H1.out.size))
    clear hb c1 H1 HB HB2 HA HZ HR
    go_wp2_with fail
    have hsh := short_any x2
    have hb1 : (x2.alloc (.map shE 3)).heap[x2.heap.size]? = some (.map shE 3) := heap_alloc_new _ _
    have H3 := Lib.hid (H2.out.alloc H2.out.size (.map shE 3)); clear H2
    have hrg := run_range_map (P := Tryd.prog) (x2.alloc (.map shE 3)) 106 5 5 x2.heap.size shE 3 short_und hb1
    have HM := Lib.hid hb1; clear hb1
    generalize x2.alloc (.map shE 3) = y0 at *
    generalize x2.heap.size = g at *
    refine hsh.mono ?_
    rintro e y ⟨rfl, rfl⟩
    clear hsh
    go_wp2_with fail
    go_loopw [] (fun wr => ∃ (v : World) (seen : Array Nat), Sim v y ∧ wr = v.alloc (.mapIter (some g) 3 seen 3) ∧ Hid (∀ x ∈ shE.toList, seen.contains x.born = true → ¬ valI x.val = (d.toNat : Int))) (fun wr => (leftOf shE (wr.iterSeen y.heap.size)).size)
    case atStart => exact ⟨y, #[], ⟨rfl, rfl, rfl, rfl⟩, rfl, fun x _ h => by simp at h⟩
    case round =>
     obtain ⟨v, seen, hsim, rfl, hno⟩ := hrel
     have hsz : v.heap.size = y.heap.size := by rw [hsim.1]
     have hbv : v.heap[g]? = some (.map shE 3) := by rw [hsim.1]; exact HM.out
     have law := next_it (P := Tryd.prog) v g 3 seen shE hbv shE_st.1
     rw [hsz] at law
     rcases law with ⟨h0, hnx⟩ | ⟨e, he, v2, hs2, hnx⟩
     ·have HM2 := Lib.hid (shE_miss (d := d) (fun x hx => hno.out x hx (all_seen shE seen h0 x hx)))
      have H4 := Lib.hid (hsim.below H3.out)
      have HX := Lib.hid (ix_four d)
      have hix : d.toNat.toUInt8 = d := by simp
      have HIX := Lib.hid hix
      clear hno hsim hbv h0 HM H3 hix
      generalize hq : (d == 92 || d == 34 || d == 93 || d == 45) = q at HM2 HX
      clear hq
      generalize y.heap.size = n at *
      have H5 := Lib.hid (H4.out.alloc H4.out.size (.mapIter (some g) 3 seen 3))
      generalize v.alloc (.mapIter (some g) 3 seen 3) = z at *
      clear H4 hsz
      go_wp2_with fail
      refine (Tryd.strings_IndexByte _ d.toNat z).mono ?_
      rintro e x4 ⟨rfl, rfl⟩
      rw [Int.toNat_natCast, HIX.out]
      generalize Lib.indexByte _ d = r at HX ⊢
      cases q with
      | true =>
       have hr : ¬ r < 0 := by simpa using HX.out
       go_wp2_with fail
       go_ret2
       exact ⟨by rw [HM2.out]; rfl, H5.out⟩
      | false =>
       have hr : r < 0 := by simpa using HX.out
       go_wp2_with fail
       go_ret2
       exact ⟨by rw [HM2.out]; rfl, H5.out⟩
     ·obtain ⟨b, l, hkey, hval, hhit⟩ := shE_hit (mem_left he).1 d
      rw [hkey, hval] at hnx
      have hsz2 : v2.heap.size = y.heap.size := by rw [hs2.1, hsim.1]
      have hb2 : v2.heap[g]? = some (.map shE 3) := by rw [hs2.1]; exact hbv
      have hs3 : Sim v2 y := ⟨hs2.1.trans hsim.1, hs2.2.1.trans hsim.2.1, hs2.2.2.1.trans hsim.2.2.1, hs2.2.2.2.trans hsim.2.2.2⟩
      have hr1 : (v2.alloc (.mapIter (some g) 3 (seen.push e.born) 3)).heap[y.heap.size]? = some (.mapIter (some g) 3 (seen.push e.born) 3) := by rw [← hsz2]; exact heap_alloc_new _ _
      have hr2 : (v2.alloc (.mapIter (some g) 3 (seen.push e.born) 3)).heap[g]? = some (.map shE 3) := by rw [heap_alloc_old _ _ (lt_block hb2)]; exact hb2
      have hen := run_entry_at (P := Tryd.prog) (v2.alloc (.mapIter (some g) 3 (seen.push e.born) 3)) y.heap.size g 3 seen shE 3 e hr1 hr2 (mem_left he).1 shE_st.2
      rw [hkey, hval] at hen
      have HHit := Lib.hid hhit; have HS3 := Lib.hid hs3; have HE := Lib.hid he; have HSZ := Lib.hid hsz; have HSZ2 := Lib.hid hsz2
      have HV := Lib.hid hval
      have H5 := Lib.hid ((hs3.below H3.out).alloc (by rw [hsz2]; exact H3.out.size) (.mapIter (some g) 3 (seen.push e.born) 3))
      clear hhit hs3 he hsz hsz2 hr1 hr2 hb2 hs2 hsim hbv hkey hval hrg
      by_cases hld : l = d
      ·subst hld
       go_wp2_with fail
       go_ret2
       exact ⟨by rw [HHit.out trivial]; rfl, H5.out⟩
      ·have hne : ((l.toNat : Int) == (d.toNat : Int)) = false := by
        have := mt UInt8.toNat_inj.1 hld
        simp; omega
       have HN := Lib.hid hld
       clear hld
       go_wp2_with fail
       go_roundw
       case rel =>
        refine ⟨v2, seen.push e.born, HS3.out, rfl, fun x hx hc => ?_⟩
        rw [contains_push] at hc
        rcases Bool.or_eq_true _ _ ▸ hc with h1 | h1
        ·exact hno.out x hx h1
        ·have : x = e := born_inj shE_st.2 hx (mem_left HE.out).1 (beq_iff_eq.1 h1)
         subst this
         rw [HV.out]
         intro h
         exact HN.out (UInt8.toNat_inj.1 (by simp only [valI] at h; omega))
       case measure =>
        have e1 := HSZ.out; have e2 := HSZ2.out
        rw [← e2, World.iterSeen_alloc, e2, ← e1, World.iterSeen_alloc]
        exact left_shrinks shE seen e HE.out
   ·have hne : ((c.toNat : Int) == 92) = false := by have := mt UInt8.toNat_inj.1 hc; simp at this ⊢; omega
    have hne2 : ((c.toNat : Int) != 92) = true := by rw [bne, hne]; rfl
    rw [if_neg (by simpa using hc)]
    clear hc
    go_enter Tryd.func50, Tryd.ntmps50
    go_wp2_with fail
    refine HB.out.mono ?_
    rintro e x ⟨rfl, hb⟩
    have H1 := Lib.hid (HA.out.trans (hb.mono HZ.out))
    have c1 := (HR.out.below hb).c3
    clear hb
    go_wp2_with fail
    refine (HB2.out _).mono ?_
    rintro e x2 ⟨rfl, hb⟩
    have H2 := Lib.hid (H1.out.trans (hb.mono H1.out.size))
    clear hb c1
    go_wp2_with fail
    go_ret2
    exact ⟨rfl, H2.out⟩
  ·rw [lettA_last (by omega)]
   have HB2 := Lib.hid (fun x => byte_no s k 1 x hs (by omega) (by omega) (by omega))
   generalize s[k]'hk = c at HB
   clear h e0 hk hk2
   go_enter Tryd.func50, Tryd.ntmps50
   go_wp2_with fail
   refine HB.out.mono ?_
   rintro e x ⟨rfl, hb⟩
   have H1 := Lib.hid (HA.out.trans (hb.mono HZ.out))
   have c1 := (HR.out.below hb).c3
   clear hb
   go_wp2_with fail
   refine (HB2.out _).mono ?_
   rintro e x2 ⟨rfl, hb⟩
   have H2 := Lib.hid (H1.out.trans (hb.mono H1.out.size))
   clear hb c1
   go_wp2_with fail
   go_ret2
   exact ⟨rfl, H2.out⟩
end Go.Proofs.YtnfkcdnkmcifbaaDoor
