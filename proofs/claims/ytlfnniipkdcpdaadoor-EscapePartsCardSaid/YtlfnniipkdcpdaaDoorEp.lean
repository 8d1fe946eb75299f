/- Walk: EscapeParts. -/
import Derived.Test.YtlfnniipkdcpdaaDoorEm
import Derived.Test.YtlfnniipkdcpdaaDoorAp
import Derived.Test.YtlfnniipkdcpdaaDoorPb
import Derived.Lib.BufferWrite
namespace Go.Proofs.YtlfnniipkdcpdaaDoor
open Go.RowKit
set_option maxRecDepth 100000
set_option maxHeartbeats 4000000

/-- append(s, l...), s the call's own, behind a guard that holds too. -/
theorem wpList_appsG {P : Program} (w0 wr : World) {ops : Array Oper} {rest : List Oper} {o : Oper} {a : Act} {Q : Exit → Act → World → Prop} (hw : Region.wanted o (yielded ops a.tmps) = true) (s x : Operand) (t e : TypeId) {size bytes : Nat} {z : Value}
  (ho : o.op = .call { callee := .builtin .append, args := #[s, x], argTypes := #[t, t] }) (he : Elem P t e size bytes z)
  (v : Value) (n : Nat) (xs : List Value) (hs : a.eval s = v) (hO : Own w0 wr e size v n xs) (ao : Option Addr) (m cap : Nat) (ys : List Value) (hx : a.eval x = .slice ao m cap) (hsl : Sv wr ao m cap size ys) (h1 : ∀ u ∈ ys, u.oneCell' = true)
  (hlen : (n + m) * bytes ≤ 140737488355328 ∧ n + m ≤ maxLen)
  (h : ∀ v' w', Own w0 w' e size v' (n + m) (xs ++ ys) → Fr (fun k => v.ownBlock = some k) wr w' → wpList P ops Q rest (a.put o.dst v') w') : wpList P ops Q (o :: rest) a wr :=
 wpList_step fun K hK => by
  rw [if_pos hw]
  exact wp_apps w0 wr s x t e ho he v n xs hs hO ao m cap ys hx hsl h1 hlen (fun v' w' h2 h3 => hK _ _ (h v' w' h2 h3))
theorem ba_cat (A B : List UInt8) : ByteArray.mk A.toArray ++ ByteArray.mk B.toArray = ByteArray.mk (A ++ B).toArray := by
 apply ByteArray.ext
 rw [ByteArray.data_append]
 simp
theorem ba_cat_list (s t : ByteArray) : (s ++ t).data.toList = s.data.toList ++ t.data.toList := by rw [ByteArray.data_append]; simp
theorem parts_any (ao bo : Option Addr) (n an m bn : Nat) (l l2 : List UInt8) (s t : ByteArray) (w : World) (hs : Sv w ao n an 1 (Lib.byteCells l)) (hs2 : Sv w bo m bn 1 (Lib.byteCells l2)) (hcp : n ≤ 140737488355328) (hcp2 : m ≤ 140737488355328) (hm : s.size ≤ 140737488355328) (hm2 : t.size ≤ 140737488355328) (h : TzOk w) :
  Calls Tryd.prog 6 #[.slice ao n an, .slice bo m bn, .string s, .string t] w fun e w' => e = .returned (.bool true) ∧ Below w.heap.size w w' := by
 have h2 := hs.le
 have h3 := hs2.le
 have hI1 : (n : Int) + m ≤ 281474976710656 := by omega
 have hI2 : (n : Int) + m + s.size ≤ 422212465065984 := by omega
 have hI3 : (n : Int) + m + s.size + t.size ≤ 562949953421312 := by omega
 have H := Lib.hid (awake_any w h)
 have HT := Lib.hid h
 have HS := Lib.hid hs
 have HS2 := Lib.hid hs2
 have hl : l.length = n := by have := hs.len; rw [Lib.byteCells_length] at this; omega
 have hl2 : l2.length = m := by have := hs2.len; rw [Lib.byteCells_length] at this; omega
 have HL := Lib.hid hl
 have HL2 := Lib.hid hl2
 clear h hs hs2 hl hl2
 by_cases hc : 1000 < n + m + s.size + t.size
 ·have hcI : (1000 : Int) < n + m + s.size + t.size := by omega
  go_enter Tryd.func6, Tryd.ntmps6
  go_wp2_with fail
  refine H.out.mono ?_
  rintro e x ⟨rfl, hb⟩
  have B := Lib.hid hb; clear hb
  go_wp2_with fail
  go_ret
  exact ⟨rfl, B.out⟩
 ·have hcI : (n : Int) + m + s.size + t.size ≤ 1000 := by omega
  have hn : n ≤ 1000 := by omega
  have hm9 : m ≤ 1000 := by omega
  have hs9 : s.size ≤ 1000 := by omega
  have ht9 : t.size ≤ 1000 := by omega
  have HNM : Hid (n + m ≤ 1000) := by unfold Hid; omega
  have HST : Hid (s.size + t.size ≤ 1000) := by unfold Hid; omega
  clear hc
  go_enter Tryd.func6, Tryd.ntmps6
  go_wp2_with fail
  refine H.out.mono ?_
  rintro e x ⟨rfl, hb⟩
  have B1 := Lib.hid hb; clear hb H
  have HO0 := Lib.hid (Own.lit x 5 #[] 0 1 (by unfold maxLen; omega) rfl)
  have HB0 := Lib.hid ((Below.refl x.heap.size x).alloc (Nat.le_refl _) (.cells #[] 5))
  have HLn : Hid ((0 + n) * 1 ≤ 140737488355328 ∧ 0 + n ≤ maxLen) := by unfold Hid maxLen; omega
  have HLn2 : Hid ((0 + n + m) * 1 ≤ 140737488355328 ∧ 0 + n + m ≤ maxLen) := by unfold Hid maxLen; omega
  have HS1 := Lib.hid (HS.out.below B1.out)
  have HS21 := Lib.hid (HS2.out.below B1.out)
  go_wp2_with (first
   | (at_builtin; refine wpList_appsG x _ (by rfl) (.tmp 32) (.tmp 33) 22 5 rfl elemBy _ 0 [] rfl HO0.out ao n an (Lib.byteCells l) rfl (HS1.out.below HB0.out) (Lib.byteCells_one l) HLn.out ?_; intro v1 y1 hO1 hf1; have HO1 := Lib.hid hO1; clear hO1 hf1)
   | (at_builtin; refine wpList_appsG x _ (by rfl) (.tmp 34) (.tmp 35) 22 5 rfl elemBy _ (0 + n) ([] ++ Lib.byteCells l) rfl HO1.out bo m bn (Lib.byteCells l2) rfl (HS21.out.below HO1.out.2) (Lib.byteCells_one l2) HLn2.out ?_; intro v2 y2 hO2 hf2; obtain ⟨co, cc, rfl, hSc⟩ := hO2.sv; have HO2 := Lib.hid hO2; have HSc := Lib.hid hSc; clear hO2 hf2 hSc))
  have B2 := Lib.hid (B1.out.trans (HO2.out.2.mono B1.out.size))
  have HSc2 : Hid (Sv y2 co (n + m) cc 1 (Lib.byteCells (l ++ l2))) := by
   have := HSc.out
   rw [Nat.zero_add] at this
   unfold Hid; rw [Lib.byteCells_append]; exact this
  refine (eall_any 1 (l ++ l2) co (n + m) cc y2 HSc2.out (by have := HNM.out; omega) (HT.out.below B2.out)).mono ?_
  rintro e y3 ⟨rfl, hb⟩
  have B3 := Lib.hid (B2.out.trans (hb.mono B2.out.size)); clear hb HSc2 HSc HO2 HO1 HO0 HB0 HS1 HS21 HLn HLn2
  rw [all_app]
  go_wp2_with fail
  refine (eall_any 1 l ao n an y3 (HS.out.below B3.out) (by omega) (HT.out.below B3.out)).mono ?_
  rintro e y4 ⟨rfl, hb⟩
  have B4 := Lib.hid (B3.out.trans (hb.mono B3.out.size)); clear hb
  go_wp2_with fail
  refine (eall_any 1 l2 bo m bn y4 (HS2.out.below B4.out) (by omega) (HT.out.below B4.out)).mono ?_
  rintro e y5 ⟨rfl, hb⟩
  have B5 := Lib.hid (B4.out.trans (hb.mono B4.out.size)); clear hb
  have hA : (all 1 l).length ≤ 4000 := by have := all_le4 1 l; have := HL.out; omega
  have hB : (all 1 l2).length ≤ 4000 := by have := all_le4 1 l2; have := HL2.out; omega
  generalize all 1 l = A at *
  generalize all 1 l2 = B at *
  have hcat := ba_cat A B
  go_wp2_with fail
  clear hcat hA hB
  have HApp := Lib.hid (decode_app 2 t.data.toList s.data.toList.length s.data.toList (Nat.le_refl _))
  rw [← ba_cat_list] at HApp
  have HLs := Lib.hid (ba_len s)
  have HSz : Hid ((s ++ t).size ≤ 1000000) := by unfold Hid; rw [ByteArray.size_append]; have := HST.out; omega
  have HX1 : Hid ((decode 2 s.data.toList).1.length ≤ s.size) := by
   have h1 := all_len (p := 2) rfl (decode 2 s.data.toList).1
   have h2 := decode_shorter (p := 2) rfl s.data.toList.length s.data.toList (Nat.le_refl _)
   rw [ba_len] at h2; unfold Hid; omega
  have HX2 : Hid ((decode 2 t.data.toList).1.length ≤ t.size) := by
   have h1 := all_len (p := 2) rfl (decode 2 t.data.toList).1
   have h2 := decode_shorter (p := 2) rfl t.data.toList.length t.data.toList (Nat.le_refl _)
   rw [ba_len] at h2; unfold Hid; omega
  have HD1 := edec_any 2 s y5 (by omega)
  have HD2 := Lib.hid (fun y => edec_any 2 t y (by omega))
  have HD3 := Lib.hid (fun y => edec_any 2 (s ++ t) y HSz.out)
  unfold DecOut at HD1 HD2 HD3
  rw [HLs.out] at HApp
  have hk9 : (s.size : Int) + t.size ≤ 1000 := by omega
  have HTl : Hid ((decode 2 t.data.toList).2.1 ≤ t.size) := by have := (decode_le 2 t.data.toList.length t.data.toList (Nat.le_refl _)).1; rw [ba_len] at this; exact this
  generalize decode 2 s.data.toList = ds at *
  generalize decode 2 t.data.toList = dt at *
  generalize decode 2 (s ++ t).data.toList = dz at *
  obtain ⟨X, ks, os⟩ := ds
  obtain ⟨Y, kt, ot⟩ := dt
  simp only [] at HD1 HD2 HX1 HX2 HApp HTl
  have hX : X.length ≤ 1000 := by have := HX1.out; omega
  have hY : Y.length ≤ 1000 := by have := HX2.out; omega
  refine HD1.mono ?_
  clear HD1
  rintro e y6 (⟨rfl, v1, rfl, hO1⟩ | ⟨rfl, rfl, hb⟩)
  ·have HO1 := Lib.hid hO1
   have B6 := Lib.hid (B5.out.trans (hO1.2.mono B5.out.size)); clear hO1
   have HE := HApp.out.1 rfl
   subst HE
   go_wp2_with fail
   refine (HD2.out _).mono ?_
   rintro e y7 (⟨rfl, v2, rfl, hO2⟩ | ⟨rfl, rfl, hb⟩)
   ·have HO2 := Lib.hid hO2
    have B7 := Lib.hid (B6.out.trans (hO2.2.mono B6.out.size))
    have HO1b := Lib.hid (HO1.out.below hO2.2); clear hO2 HO1
    go_wp2_with fail
    refine (HD3.out _).mono ?_
    rintro e y8 (⟨_, v3, rfl, hO3⟩ | ⟨hd3, _⟩)
    ·have B8 := Lib.hid (B7.out.trans (hO3.2.mono B7.out.size))
     have HO0 := Lib.hid (Own.lit y8 5 #[] 0 1 (by unfold maxLen; omega) rfl)
     have HB0 := Lib.hid ((Below.refl y8.heap.size y8).alloc (Nat.le_refl _) (.cells #[] 5))
     obtain ⟨xo, xc, rfl, hSx⟩ := (HO1b.out.below hO3.2).sv
     obtain ⟨yo, yc, rfl, hSy⟩ := (HO2.out.below hO3.2).sv
     obtain ⟨zo, zc, rfl, hSz⟩ := hO3.sv
     have HSx := Lib.hid hSx
     have HSy := Lib.hid hSy
     have HSzz := Lib.hid hSz
     have HLn : Hid ((0 + X.length) * 1 ≤ 140737488355328 ∧ 0 + X.length ≤ maxLen) := by unfold Hid maxLen; omega
     have HLn2 : Hid ((0 + X.length + Y.length) * 1 ≤ 140737488355328 ∧ 0 + X.length + Y.length ≤ maxLen) := by unfold Hid maxLen; omega
     clear hSx hSy hSz hO3 HO1b HO2 HApp HD2 HD3
     go_wp2_with (first
      | (at_builtin; refine wpList_appsG y8 _ (by rfl) (.tmp 79) (.tmp 80) 22 5 rfl elemBy _ 0 [] rfl HO0.out xo X.length xc (Lib.byteCells X) rfl (HSx.out.below HB0.out) (Lib.byteCells_one X) HLn.out ?_; intro v1 y1 hO1 hf1; have HO1 := Lib.hid hO1; clear hO1 hf1)
      | (at_builtin; refine wpList_appsG y8 _ (by rfl) (.tmp 81) (.tmp 82) 22 5 rfl elemBy _ (0 + X.length) ([] ++ Lib.byteCells X) rfl HO1.out yo Y.length yc (Lib.byteCells Y) rfl (HSy.out.below HO1.out.2) (Lib.byteCells_one Y) HLn2.out ?_; intro v2 y2 hO2 hf2; obtain ⟨co, cc, rfl, hSc⟩ := hO2.sv; have HO2 := Lib.hid hO2; have HSc := Lib.hid hSc; clear hO2 hf2 hSc))
     have B9 := Lib.hid (B8.out.trans (HO2.out.2.mono B8.out.size))
     have HSc2 : Hid (Sv y2 co (X.length + Y.length) cc 1 (Lib.byteCells (X ++ Y))) := by
      have := HSc.out
      rw [Nat.zero_add] at this
      unfold Hid; rw [Lib.byteCells_append]; exact this
     have HSz2 : Hid (Sv y2 zo (X.length + Y.length) zc 1 (Lib.byteCells (X ++ Y))) := by
      have := HSzz.out.below HO2.out.2
      rw [List.length_append] at this
      exact this
     refine (same_any y2 zo co (X.length + Y.length) zc cc (X ++ Y) HSz2.out HSc2.out).mono ?_
     rintro e y10 ⟨rfl, hb⟩
     have B10 := Lib.hid (B9.out.trans (hb.mono B9.out.size)); clear hb
     go_wp2_with fail
     go_ret
     exact ⟨rfl, B10.out⟩
    ·cases hd3
   ·have B7 := Lib.hid (B6.out.trans (hb.mono B6.out.size)); clear hb
    have hkt : kt ≤ 1000 := by have := HTl.out; omega
    have hktI : (s.size : Int) + kt ≤ 2000 := by omega
    go_wp2_with fail
    refine (HD3.out _).mono ?_
    rintro e y8 (⟨hd3, _⟩ | ⟨_, rfl, hb⟩)
    ·cases hd3
    ·have B8 := Lib.hid (B7.out.trans (hb.mono B7.out.size)); clear hb
     simp only []
     go_wp2_with fail
     go_ret
     exact ⟨rfl, B8.out⟩
  ·have B6 := Lib.hid (B5.out.trans (hb.mono B5.out.size)); clear hb
   have HLe := HApp.out.2
   obtain ⟨Z, kz, oz⟩ := dz
   simp only [] at HLe HD3
   have hleI : (ks : Int) ≤ kz := by omega
   clear HApp HLe
   go_wp2_with fail
   refine (HD2.out _).mono ?_
   rintro e y7 (⟨rfl, v2, rfl, hO2⟩ | ⟨rfl, rfl, hb⟩)
   ·have B7 := Lib.hid (B6.out.trans (hO2.2.mono B6.out.size)); clear hO2
    go_wp2_with fail
    refine (HD3.out _).mono ?_
    rintro e y8 (⟨rfl, v3, rfl, hO3⟩ | ⟨rfl, rfl, hb⟩)
    ·have B8 := Lib.hid (B7.out.trans (hO3.2.mono B7.out.size)); clear hO3
     go_wp2_with fail
     go_ret
     exact ⟨rfl, B8.out⟩
    ·have B8 := Lib.hid (B7.out.trans (hb.mono B7.out.size)); clear hb
     go_wp2_with fail
     go_ret
     exact ⟨rfl, B8.out⟩
   ·have B7 := Lib.hid (B6.out.trans (hb.mono B6.out.size)); clear hb
    go_wp2_with fail
    refine (HD3.out _).mono ?_
    rintro e y8 (⟨rfl, v3, rfl, hO3⟩ | ⟨rfl, rfl, hb⟩)
    ·have B8 := Lib.hid (B7.out.trans (hO3.2.mono B7.out.size)); clear hO3
     go_wp2_with fail
     go_ret
     exact ⟨rfl, B8.out⟩
    ·have B8 := Lib.hid (B7.out.trans (hb.mono B7.out.size)); clear hb
     go_wp2_with fail
     go_ret
     exact ⟨rfl, B8.out⟩
end Go.Proofs.YtlfnniipkdcpdaaDoor
