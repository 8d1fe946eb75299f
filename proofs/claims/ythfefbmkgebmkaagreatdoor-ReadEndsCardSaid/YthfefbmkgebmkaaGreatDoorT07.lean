/- Walks and plain laws: R3 S1 S2 E9 Eb. -/
import Derived.Test.YthfefbmkgebmkaaGreatDoorT06
import Derived.Test.YthfefbmkgebmkaaGreatDoorM02
namespace Go.Proofs.YthfefbmkgebmkaaGreatDoor
open Go.RowKit
set_option maxRecDepth 100000
set_option maxHeartbeats 4000000

/-- A load of several cells that lie somewhere in a block, behind a guard that holds. -/
theorem wpList_load_partG {P : Program} {ops : Array Oper} {rest : List Oper} {o : Oper} {a : Act} {w : World} {Q : Exit → Act → World → Prop} (hw : Region.wanted o (yielded ops a.tmps) = true) (ty : TypeId) (x : Operand) (ho : o.op = .load ty x)
  (p : Addr) (hx : a.eval x = .pointer (some p)) (cs : Array Value) (d : TypeDesc) (hc : ∀ j v, cs.toList[j]? = some v → w.cell? (p.add j) = some v)
  (hu : P.underlying ty = some d) (hd : (match d with | .struct _ | .array _ _ => true | _ => false) = true) (hi : (P.info? ty).map (·.size) = some cs.size)
  (h : wpList P ops Q rest (a.put o.dst (.agg cs)) w) : wpList P ops Q (o :: rest) a w :=
 wpList_step fun K hK => by
  rw [if_pos hw]
  unfold Oper.wp execOp
  simp only [ho, hx, Instr.loadAt, Instr.sureAddr, Sem.run_bind, Sem.run_pure, Result.andThen_ok, run_loadVar_part w p ty cs d hc hu hd hi]
  exact hK _ _ h
theorem hasR_any (w : World) (W : Nat → Nat) (hW : Words W) (b : Nat) (hb : b < 256) :
  Calls Tryz.prog 142 #[.agg (cw W), .int .u8 b] w fun r w' => r = .returned (.bool (inW W b)) ∧ Below w.heap.size w w' := by
 have hc : (cw W)[b / 64]? = some (.int .u64 (W (b / 64))) := cw_get W _ (by omega)
 have HW := Lib.hid hW
 clear hW
 have HB := Lib.hid ((Below.refl w.heap.size w).alloc (Nat.le_refl _) (.cells (cw W) 39))
 have hc2 : (w.alloc (.cells (cw W) 39)).cell? ⟨w.heap.size, b / 64, none⟩ = some (.int .u64 (W (b / 64))) := ((hrow.new w (cw W) 39).cell _).trans hc
 go_enter Tryz.func142, Tryz.ntmps142
 go_wp2_with fail
 go_ret
 refine ⟨ret_bool ?_, HB.out⟩
 unfold inW
 rw [Nat.testBit_eq_decide_div_mod_eq, Bool.eq_iff_iff, beq_iff_eq, decide_eq_true_iff]
 have e : ((W (b / 64) : Int) / 2 ^ (b % 64)) = ((W (b / 64) / 2 ^ (b % 64) : Nat) : Int) := by norm_cast
 rw [e, Int.tmod_eq_emod_of_nonneg (Int.natCast_nonneg _)]
 omega
/-- Is the byte in one of them? -/
def anyW (Ws : List (Nat → Nat)) (c : Nat) : Bool := Ws.any fun W => inW W c
theorem anyW_orL (Ws : List (Nat → Nat)) (c : Nat) : inW (orL Ws) c = anyW Ws c := by
 suffices h : ∀ (Ws : List (Nat → Nat)) V, inW (Ws.foldl orW V) c = (inW V c || anyW Ws c) by
  unfold orL; rw [h, inW_no, Bool.false_or]
 intro Ws
 induction Ws with
 | nil => intro V; simp [anyW]
 | cons W r ih => intro V; rw [List.foldl_cons, ih, inW_or]; simp [anyW, Bool.or_assoc]
theorem orL_words : ∀ (Ws : List (Nat → Nat)), (∀ W ∈ Ws, Words W) → Words (orL Ws) := by
 intro Ws
 suffices h : ∀ (Ws : List (Nat → Nat)) V, Words V → (∀ W ∈ Ws, Words W) → Words (Ws.foldl orW V) from h Ws _ noW_words
 intro Ws
 induction Ws with
 | nil => intro V h _; exact h
 | cons W r ih => intro V h k; exact ih _ (orW_words h (k W (by simp))) (fun x hx => k x (by simp [hx]))
structure RoI (w wr : World) (ao : Option Addr) (n cap : Nat) (Ws : List (Nat → Nat)) (B : Nat → Bool) : Prop where
 res : hrow wr w.heap.size (cw noW) 39
 row : hrow wr (w.heap.size + 1) (boA B) 4
 sv : Sv wr ao n cap 4 (cws Ws)
 below : Below w.heap.size w wr
/-- Filled up to byte k; of byte k, as far as class j. -/
def roB (Ws : List (Nat → Nat)) (k j : Nat) (c : Nat) : Bool := (decide (c < k) && anyW Ws c) || (decide (c = k) && anyW (Ws.take j) c)
theorem roB_zero (Ws : List (Nat → Nat)) : roB Ws 0 0 = fun _ => false := by funext c; simp [roB, anyW]
theorem roB_next (Ws : List (Nat → Nat)) (k : Nat) : roB Ws k Ws.length = roB Ws (k + 1) 0 := by
 funext c
 unfold roB
 rw [List.take_length, List.take_zero]
 by_cases h : c = k
 ·subst h; simp [anyW]
 ·have e : decide (c < k) = decide (c < k + 1) := decide_eq_decide.2 (by omega)
  rw [decide_eq_false h, e]
  simp [anyW]
theorem roB_step (Ws : List (Nat → Nat)) (k j : Nat) (hj : j < Ws.length) (v : Bool) (hv : v = (roB Ws k j k || inW Ws[j] k)) : (fun c => if c = k then v else roB Ws k j c) = roB Ws k (j + 1) := by
 funext c
 by_cases h : c = k
 ·subst h
  rw [if_pos rfl, hv]
  unfold roB
  have e : anyW (Ws.take (j + 1)) c = (anyW (Ws.take j) c || inW Ws[j] c) := by unfold anyW; rw [List.take_succ_eq_append_getElem hj, List.any_append, List.any_cons, List.any_nil, Bool.or_false]
  rw [e]
  simp
 ·rw [if_neg h]
  unfold roB
  rw [decide_eq_false h]
  simp
theorem ror_any (w : World) (ao : Option Addr) (cap n : Nat) (Ws : List (Nat → Nat)) (hs : Sv w ao n cap 4 (cws Ws)) (hW : ∀ W ∈ Ws, Words W) :
  Calls Tryz.prog 127 #[.slice ao n cap] w fun r w' => r = .returned (.agg (cw (orL Ws))) ∧ Below w.heap.size w w' := by
 obtain ⟨hb1, hb2⟩ := hs.bound
 have hl : Ws.length = n := by have := hs.len; rw [cws_len] at this; omega
 have HL := Lib.hid hl
 have HZ := Lib.hid hW; clear hW
 have hmk := mk256
 have HI0 : Hid (RoI w ((w.alloc (.cells #[.int .u64 0, .int .u64 0, .int .u64 0, .int .u64 0] 39)).alloc (.cells (boA fun _ => false) 4)) ao n cap Ws (roB Ws 0 0)) := by
  have hb0 := (Below.refl w.heap.size w).alloc (Nat.le_refl _) (.cells (cw noW) 39)
  have hb := hb0.alloc (by simp) (.cells (boA fun _ => false) 4)
  refine ⟨(hrow.new w (cw noW) 39).below ((Below.refl _ _).alloc (Nat.le_refl _) _), ?_, hs.below hb, hb⟩
  rw [roB_zero]
  have := hrow.new (w.alloc (.cells (cw noW) 39)) (boA fun _ => false) 4
  rw [World.size_alloc] at this
  exact this
 have HAB : Hid (∀ a, ao = some a → 0 < n → a.block < w.heap.size) := fun a ha hn => by
  obtain ⟨a', e, hc⟩ := hs.cell 0 (by rw [cws_len]; omega)
  rw [ha] at e; cases e
  have h0 : a.add 0 = a := by unfold Addr.add; simp
  rw [h0, List.getElem?_eq_getElem (by rw [cws_len]; omega)] at hc
  exact World.block_lt_of_cell? w a hc
 clear hs hl
 go_enter Tryz.func127, Tryz.ntmps127
 go_wp2_with fail
 clear hmk
 go_loopw [4] (fun i wr => ∃ k : Nat, k ≤ 256 ∧ i = .int .i64 k ∧ Hid (RoI w wr ao n cap Ws (roB Ws k 0))) (fun i _ => 256 - (intOf i).toNat)
 case atStart => exact ⟨0, by omega, rfl, HI0.out⟩
 case round =>
  clear HI0
  obtain ⟨k, hk, rfl, HI⟩ := hrel
  by_cases hlt : k < 256
  ·have hkI : (k : Int) < 256 := by omega
   have hk0 : (0 : Int) ≤ k := by omega
   have HK := Lib.hid hlt; clear hlt
   go_wp2_with fail
   go_loopw [5] (fun i wr => ∃ j : Nat, j ≤ n ∧ i = .int .i64 j ∧ Hid (RoI w wr ao n cap Ws (roB Ws k j))) (fun i _ => n - (intOf i).toNat)
   case atStart => exact ⟨0, by omega, rfl, HI.out⟩
   case round =>
    clear HI
    obtain ⟨j, hj, rfl, HJ⟩ := hrel
    by_cases hjn : j < n
    ·have hjI : (j : Int) < n := by omega
     have hj0 : (0 : Int) ≤ j := by omega
     have hjz : j < Ws.length := by have := HL.out; omega
     have hcl := cws_len Ws
     obtain ⟨a, rfl, _⟩ := HJ.out.sv.cell (j * 4) (by omega)
     have hcp : ∀ i v, (cw (Ws[j])).toList[i]? = some v → wr.cell? ((a.add (j * 4)).add i) = some v := fun i v hi => by
      have h1 := cws_get Ws j hjz i v hi
      have hlt' := (List.getElem?_eq_some_iff.1 h1).1
      obtain ⟨a', ha', hc'⟩ := HJ.out.sv.cell (j * 4 + i) hlt'
      cases ha'
      rw [add_add, hc', h1]
     have hVw := HZ.out _ (List.getElem_mem hjz)
     have HVw := Lib.hid hVw
     have HST := Lib.hid (roB_step Ws k j hjz)
     have HCp := Lib.hid hcp
     clear hcp hcl hVw
     generalize Ws[j]'hjz = V at *
     have HN : Hid (j < n) := hjn
     have hcc := (HJ.out.row.cell k).trans (boA_get _ k HK.out)
     have hff := HJ.out.row.frozen k
     have HAlt := Lib.hid (HAB.out a rfl (by omega))
     have hwr : IntKind.u8.wrap (k : Int) = k := by have := HK.out; simp [IntKind.wrap, IntKind.bits, IntKind.signed]; omega
     have K2 : Hid ((Tryz.prog.info? 39).map (·.size) = some (cw V).size) := cw_info.1
     clear hjz hjn
     cases hv : roB Ws k j k with
     | true =>
      rw [hv] at hcc
      have HS1 := Lib.hid (HST.out true (by rw [hv]; simp))
      clear hv HCp
      go_wp2_with fail
      go_roundw
      case rel =>
       refine ⟨j + 1, HN.out, by go_num, HJ.out.res.fr (Fr.setCell _ ⟨w.heap.size + 1, k, none⟩ _) (by simp), ?_, HJ.out.sv.fr (Fr.setCell _ ⟨w.heap.size + 1, k, none⟩ _) (fun a' e _ => by cases e; have := HAlt.out; simp; omega), HJ.out.below.setCell (p := ⟨w.heap.size + 1, k, none⟩) (by simp) _⟩
       have := hrow.setCell HJ.out.row k (.bool true)
       rw [boA_set, HS1.out] at this
       exact this
      case measure => have := HN.out; simp [intOf]; omega
     | false =>
      rw [hv] at hcc
      have HS1 := Lib.hid (HST.out (inW V k) (by rw [hv]; simp))
      clear hv
      go_wp2_with (refine wpList_load_partG rfl 39 (.tmp 26) rfl (a.add (j * 4)) rfl (cw V) _ HCp.out Tryz.underlying39 rfl K2.out ?_)
      refine (hasR_any _ V HVw.out k HK.out).mono ?_
      rintro e x ⟨rfl, hb⟩
      have HR1 := Lib.hid (HJ.out.row.below hb)
      have HQ : Hid (hrow x w.heap.size (cw noW) 39 ∧ Sv x (some a) n cap 4 (cws Ws) ∧ Below w.heap.size w x) := ⟨HJ.out.res.below hb, HJ.out.sv.below hb, HJ.out.below.trans (hb.mono HJ.out.below.size)⟩
      have hff2 := HR1.out.frozen k
      have hcc2 := (HR1.out.cell k).trans (boA_get _ k HK.out)
      clear hb HCp hcc hff
      go_wp2_with fail
      go_roundw
      case rel =>
       refine ⟨j + 1, HN.out, by go_num, HQ.out.1.fr (Fr.setCell _ ⟨w.heap.size + 1, k, none⟩ _) (by simp), ?_, HQ.out.2.1.fr (Fr.setCell _ ⟨w.heap.size + 1, k, none⟩ _) (fun a' e _ => by cases e; have := HAlt.out; simp; omega), HQ.out.2.2.setCell (p := ⟨w.heap.size + 1, k, none⟩) (by simp) _⟩
       have := hrow.setCell HR1.out k (.bool (inW V k))
       rw [boA_set, HS1.out] at this
       exact this
      case measure => have := HN.out; simp [intOf]; omega
    ·have hjI : ¬ (j : Int) < n := by omega
     obtain rfl : j = n := by omega
     have HX : Hid (RoI w wr ao j cap Ws (roB Ws (k + 1) 0)) := by rw [← roB_next, HL.out]; exact HJ.out
     go_wp2_with fail
     go_roundw
     case rel => exact ⟨k + 1, HK.out, by go_num, HX.out⟩
     case measure => have := HK.out; simp [intOf]; omega
  ·have hkI : ¬ (k : Int) < 256 := by omega
   obtain rfl : k = 256 := by omega
   have HE : Hid (cw (bitW (roB Ws 256 0)) = cw (orL Ws)) := cw_ext (bitW_words _) (orL_words Ws HZ.out) (fun c hc => by rw [bitW_in _ c hc, anyW_orL]; unfold roB; rw [decide_eq_true hc]; simp; omega)
   have K2 : Hid ((Tryz.prog.info? 39).map (·.size) = some (cw (orL Ws)).size) := cw_info.1
   go_wp2_with fail
   refine (rset_any _ _ _ HI.out.row).mono ?_
   rintro e w2 ⟨rfl, hb2⟩
   rw [HE.out]
   have HR := Lib.hid (HI.out.res.below hb2)
   have HB := Lib.hid (HI.out.below.trans (hb2.mono HI.out.below.size))
   clear HI HE hb2
   go_wp2_with (first
    | (with_reducible refine wpList_store_row rfl 39 (.tmp 2) (.tmp 34) rfl w.heap.size (cw (orL Ws)) rfl rfl 39 _ HR.out.h K2.out rfl (cw_one _) ?_))
   refine bodyPost_ret (results_cell_row rfl _ _ w.heap.size 39 _ _ _ rfl (setRow_heap _ _ _ _ _ _ HR.out) Tryz.underlying39 rfl K2.out) rfl ?_
   exact ⟨rfl, below_setRow HB.out (Nat.le_refl _) _⟩
end Go.Proofs.YthfefbmkgebmkaaGreatDoor
namespace Go.Proofs.YthfefbmkgebmkaaGreatDoor
open Go.RowKit
set_option maxRecDepth 100000
set_option maxHeartbeats 4000000

theorem rlet_any (c : UInt8) (w : World) : Calls Tryz.prog 107 #[.int .u8 c.toNat] w fun e w' => e = .returned (.bool (isLt c)) ∧ w' = w := by
 have H : Hid (isLt c = (decide (97 ≤ (c.toNat : Int)) && decide ((c.toNat : Int) ≤ 122) || decide (65 ≤ (c.toNat : Int)) && decide ((c.toNat : Int) ≤ 90) || decide ((c.toNat : Int) = 95))) :=
  u8_all (P := fun c => isLt c = (decide (97 ≤ (c.toNat : Int)) && decide ((c.toNat : Int) ≤ 122) || decide (65 ≤ (c.toNat : Int)) && decide ((c.toNat : Int) ≤ 90) || decide ((c.toNat : Int) = 95))) (by decide +kernel) c
 generalize (c.toNat : Int) = b at *
 go_enter Tryz.func107, Tryz.ntmps107
 go_wp2_with fail
 all_goals
  go_ret
  refine ⟨?_, rfl⟩
  rw [H.out]
  refine ret_bool ?_
  rw [Bool.eq_iff_iff]
  simp
  try omega
theorem rdig_any (c : UInt8) (w : World) : Calls Tryz.prog 124 #[.int .u8 c.toNat] w fun e w' => e = .returned (.bool (isDg c)) ∧ w' = w := by
 have H : Hid (isDg c = (decide (48 ≤ (c.toNat : Int)) && decide ((c.toNat : Int) ≤ 57))) :=
  u8_all (P := fun c => isDg c = (decide (48 ≤ (c.toNat : Int)) && decide ((c.toNat : Int) ≤ 57))) (by decide +kernel) c
 generalize (c.toNat : Int) = b at *
 go_enter Tryz.func124, Tryz.ntmps124
 go_wp2_with fail
 all_goals
  go_ret
  refine ⟨?_, rfl⟩
  rw [H.out]
  refine ret_bool ?_
  rw [Bool.eq_iff_iff]
  simp
  try omega
theorem rskip_any (s : ByteArray) (a : Int) (w : World) (hs : s.size ≤ 1000000) : Calls Tryz.prog 75 #[.string s, .int .i64 a] w fun e w' => e = .returned (.int .i64 (skA s.data.toList a)) ∧ Below w.heap.size w w' := by
 by_cases h : a < 0
 ·have HE : Hid (skA s.data.toList a = a) := by unfold Hid skA; rw [if_pos (.inl h)]
  rw [HE.out]
  go_enter Tryz.func75, Tryz.ntmps75
  go_wp2_with fail
  go_ret
  exact ⟨rfl, Below.refl _ _⟩
 by_cases h2 : (s.size : Int) < a
 ·have HE : Hid (skA s.data.toList a = a) := by unfold Hid skA; rw [if_pos (.inr (by rw [ba_len]; exact h2))]
  rw [HE.out]
  obtain ⟨k, rfl⟩ : ∃ k : Nat, a = k := ⟨a.toNat, by omega⟩
  have HB := Lib.hid (Below.refl w.heap.size w)
  go_enter Tryz.func75, Tryz.ntmps75
  have hge : ¬ (k : Int) < s.size := by omega
  go_wp2_with fail
  go_loopw [1, 5] (fun i r wr => i = .int .i64 k ∧ r = .bool false ∧ Hid (Below w.heap.size w wr)) (fun i _ _ => 0)
  case atStart => exact ⟨rfl, rfl, HB.out⟩
  case round =>
   obtain ⟨rfl, rfl, HI⟩ := hrel
   go_wp2_with fail
   go_ret
   exact ⟨rfl, HI.out⟩
 obtain ⟨k0, rfl⟩ : ∃ k0 : Nat, a = k0 := ⟨a.toNat, by omega⟩
 have hk0 : k0 ≤ s.size := by omega
 obtain ⟨R, hR⟩ : ∃ R, R = k0 + skp false (s.data.toList.drop k0) := ⟨_, rfl⟩
 have HE : Hid (skA s.data.toList k0 = R) := by unfold Hid; rw [skA_in (by rw [ba_len]; exact hk0), hR]; omega
 rw [HE.out]
 have HB := Lib.hid (Below.refl w.heap.size w)
 have HS := Lib.hid hs; clear hs
 have HR := Lib.hid hR; clear hR
 have h0 : (0 : Int) ≤ k0 := by omega
 clear h h2
 go_enter Tryz.func75, Tryz.ntmps75
 go_wp2_with fail
 go_loopw [1, 5] (fun i r wr => ∃ (k : Nat) (b : Bool), k ≤ s.size ∧ i = .int .i64 k ∧ r = .bool b ∧ Hid (R = k + skp b (s.data.toList.drop k) ∧ Below w.heap.size w wr)) (fun i _ _ => s.size - (intOf i).toNat)
 case atStart => exact ⟨k0, false, hk0, rfl, rfl, HR.out, HB.out⟩
 case round =>
  clear HR HB HE
  obtain ⟨k, b, hk, rfl, rfl, HI⟩ := hrel
  by_cases hlt : k < s.size
  ·have hkI : (k : Int) < s.size := by omega
   have hk1 : (0 : Int) ≤ k := by omega
   have hkb : (s.size : Int) ≤ 1000000 := by have := HS.out; omega
   have HD := Lib.hid (drop_at hlt)
   have HB := Lib.hid HI.out.2
   have HR := Lib.hid HI.out.1
   rw [HD.out] at HR
   clear HI HD
   obtain ⟨X, hX⟩ : ∃ X : Int, ((s[k].toNat : Nat) : Int) = X := ⟨_, rfl⟩
   have E10 := Lib.hid (u8_all (P := fun c => (c != 10) = ((c.toNat : Int) != 10)) (by decide +kernel) (s[k]))
   have HBl := Lib.hid (u8_all (P := fun c => isBl c = ((c.toNat : Int) == 32 || (c.toNat : Int) == 9 || (c.toNat : Int) == 10 || (c.toNat : Int) == 13)) (by decide +kernel) (s[k]))
   have H35 := Lib.hid (u8_all (P := fun c => (c == 35) = ((c.toNat : Int) == 35)) (by decide +kernel) (s[k]))
   rw [show skp b (s[k] :: s.data.toList.drop (k + 1)) = if b = true then 1 + skp (s[k] != 10) (s.data.toList.drop (k + 1)) else if isBl (s[k]) = true then 1 + skp false (s.data.toList.drop (k + 1)) else if (s[k] == 35) = true then 1 + skp true (s.data.toList.drop (k + 1)) else 0 by cases b <;> simp [skp], E10.out, HBl.out, H35.out, hX] at HR
   have HK := Lib.hid hlt
   clear E10 HBl H35
   cases b with
   | true =>
    rw [if_pos rfl] at HR
    obtain ⟨q, hq⟩ : ∃ q, (X != 10) = q := ⟨_, rfl⟩
    rw [hq] at HR
    go_wp2_with fail
    go_roundw
    case rel => exact ⟨k + 1, q, HK.out, by go_num, rfl, by have := HR.out; omega, HB.out⟩
    case measure => have := HK.out; simp [intOf]; omega
   | false =>
    rw [if_neg (by decide)] at HR
    cases f32 : (X == 32) with
    | true =>
     rw [f32] at HR
     simp only [Bool.true_or, if_true] at HR
     go_wp2_with fail
     go_roundw
     case rel => exact ⟨k + 1, false, HK.out, by go_num, rfl, by have := HR.out; omega, HB.out⟩
     case measure => have := HK.out; simp [intOf]; omega
    | false =>
    rw [f32] at HR
    cases f9 : (X == 9) with
    | true =>
     rw [f9] at HR
     simp only [Bool.true_or, Bool.or_true, if_true] at HR
     go_wp2_with fail
     go_roundw
     case rel => exact ⟨k + 1, false, HK.out, by go_num, rfl, by have := HR.out; omega, HB.out⟩
     case measure => have := HK.out; simp [intOf]; omega
    | false =>
    rw [f9] at HR
    cases f10 : (X == 10) with
    | true =>
     rw [f10] at HR
     simp only [Bool.true_or, Bool.or_true, if_true] at HR
     go_wp2_with fail
     go_roundw
     case rel => exact ⟨k + 1, false, HK.out, by go_num, rfl, by have := HR.out; omega, HB.out⟩
     case measure => have := HK.out; simp [intOf]; omega
    | false =>
    rw [f10] at HR
    cases f13 : (X == 13) with
    | true =>
     rw [f13] at HR
     simp only [Bool.or_true, if_true] at HR
     go_wp2_with fail
     go_roundw
     case rel => exact ⟨k + 1, false, HK.out, by go_num, rfl, by have := HR.out; omega, HB.out⟩
     case measure => have := HK.out; simp [intOf]; omega
    | false =>
    rw [f13] at HR
    simp only [Bool.or_false, Bool.false_eq_true, if_false] at HR
    cases f35 : (X == 35) with
    | true =>
     rw [f35] at HR
     simp only [if_true] at HR
     go_wp2_with fail
     go_roundw
     case rel => exact ⟨k + 1, true, HK.out, by go_num, rfl, by have := HR.out; omega, HB.out⟩
     case measure => have := HK.out; simp [intOf]; omega
    | false =>
     rw [f35] at HR
     simp only [Bool.false_eq_true, if_false] at HR
     have HRk : Hid (R = k) := by have := HR.out; unfold Hid; omega
     go_wp2_with fail
     go_ret
     exact ⟨by rw [HRk.out]; rfl, HB.out⟩
  ·obtain rfl : k = s.size := by omega
   have hkI : ¬ (s.size : Int) < s.size := by omega
   have HRk : Hid (R = s.size) := by have := HI.out.1; rw [List.drop_eq_nil_of_le (by rw [ba_len]; exact Nat.le_refl _)] at this; cases b <;> (unfold Hid; simpa [skp] using this)
   go_wp2_with fail
   go_ret
   exact ⟨by rw [HRk.out]; rfl, HI.out.2⟩
end Go.Proofs.YthfefbmkgebmkaaGreatDoor
namespace Go.Proofs.YthfefbmkgebmkaaGreatDoor
open Go.RowKit
set_option maxRecDepth 100000
set_option maxHeartbeats 4000000

/-- A text between two places. -/
theorem mid_run {P : Program} (t : TypeId) (ht : P.underlying t = some .string) (s : ByteArray) (i n : Nat) (a b : Int) (ha : a = i) (hb : b = ((i + n : Nat) : Int)) (h : i + n ≤ s.size) (wx : World) :
  (Instr.slice t (.string s) (some (.int .i64 a)) (some (.int .i64 b)) none).run P wx = .ok (.string (tx ((s.data.toList.drop i).take n))) wx := by
 subst ha hb
 have := run_slice_string_if (P := P) wx t s .i64 .i64 i (i + n : Nat) ht
 rw [this, if_pos (by omega), if_pos (by omega)]
 congr 2
 apply ByteArray.ext
 rw [ByteArray.data_extract]
 unfold tx
 apply Array.toList_inj.1
 have e : ((i : Int) + (n : Int)).toNat - i = n := by omega
 simp [List.take_drop, e]
/-- The capped number of digits. -/
def capL (ds : List UInt8) : Int := ds.foldl (fun n c => min (10 * n + ((c.toNat : Int) - 48)) 9999) 0
theorem capL_snoc (ds : List UInt8) (c : UInt8) : capL (ds ++ [c]) = min (10 * capL ds + ((c.toNat : Int) - 48)) 9999 := by unfold capL; rw [List.foldl_append]; rfl
theorem dg_bd {c : UInt8} (h : isDg c = true) : 48 ≤ (c.toNat : Int) ∧ (c.toNat : Int) ≤ 57 := u8_all (P := fun c => isDg c = true → 48 ≤ (c.toNat : Int) ∧ (c.toNat : Int) ≤ 57) (by decide +kernel) c h
theorem capL_bd : ∀ (ds : List UInt8), (∀ c ∈ ds, isDg c = true) → 0 ≤ capL ds ∧ capL ds ≤ 9999 := by
 intro ds hd
 suffices h : ∀ (ds : List UInt8) (a : Int), (∀ c ∈ ds, isDg c = true) → 0 ≤ a → a ≤ 9999 → 0 ≤ ds.foldl (fun n c => min (10 * n + ((c.toNat : Int) - 48)) 9999) a ∧ ds.foldl (fun n c => min (10 * n + ((c.toNat : Int) - 48)) 9999) a ≤ 9999 from h ds 0 hd (by omega) (by omega)
 intro ds
 induction ds with
 | nil => intro a _ h0 h1; exact ⟨h0, h1⟩
 | cons c ds ih =>
  intro a hd h0 h1
  have := dg_bd (hd c (by simp))
  exact ih _ (fun x hx => hd x (by simp [hx])) (by show 0 ≤ min (10 * a + ((c.toNat : Int) - 48)) 9999; omega) (by show min (10 * a + ((c.toNat : Int) - 48)) 9999 ≤ 9999; omega)
theorem capL_lvl (ds : List UInt8) (hd : ∀ c ∈ ds, isDg c = true) : lvl ds = if 4 < ds.length then 9999 else capL ds := by
 unfold lvl
 split
 ·rfl
 ·rename_i h
  unfold lvF capL
  match ds, hd, h with
  | [], _, _ => rfl
  | [a], hd, _ =>
   have h1 := dg_bd (hd a (by simp))
   simp only [List.foldl]; omega
  | [a, b], hd, _ =>
   have h1 := dg_bd (hd a (by simp)); have h2 := dg_bd (hd b (by simp))
   simp only [List.foldl]; omega
  | [a, b, c], hd, _ =>
   have h1 := dg_bd (hd a (by simp)); have h2 := dg_bd (hd b (by simp)); have h3 := dg_bd (hd c (by simp))
   simp only [List.foldl]; omega
  | [a, b, c, d], hd, _ =>
   have h1 := dg_bd (hd a (by simp)); have h2 := dg_bd (hd b (by simp)); have h3 := dg_bd (hd c (by simp)); have h4 := dg_bd (hd d (by simp))
   simp only [List.foldl]; omega
  | _ :: _ :: _ :: _ :: _ :: _, _, h => simp at h
theorem nameW_no {l : List UInt8} {m : Nat} (hm : m = (l.takeWhile isLD).length) (h : ∀ c d t, l.dropWhile isLD = c :: d :: t → (c == 58 && isDg d) = false) : nameW l = ⟨2, m, l.take m, -1, []⟩ := by
 have ht : l.take m = l.takeWhile isLD := by rw [hm]; exact take_tw l
 unfold nameW
 rw [ht, hm]
 split
 ·rename_i c d t hd
  rw [if_neg (by rw [h c d t hd]; decide)]
 ·rfl
theorem nameW_yes {l t : List UInt8} {m : Nat} {d : UInt8} (hm : m = (l.takeWhile isLD).length) (hd : l.dropWhile isLD = 58 :: d :: t) (h : isDg d = true) :
  nameW l = ⟨2, m + 1 + ((d :: t).takeWhile isDg).length, l.take m, lvl ((d :: t).takeWhile isDg), []⟩ := by
 have ht : l.take m = l.takeWhile isLD := by rw [hm]; exact take_tw l
 unfold nameW
 rw [ht, hm, hd]
 simp only []
 rw [if_pos (by rw [h]; rfl)]
theorem clsW0 (i : Nat) : clsW [] i = 0 := rfl
theorem rw_info : (Tryz.prog.info? 119).map (·.size) = some 9 := by decide +kernel
theorem rw_sz {cs : Array Value} (h : cs.size = 9) : (Tryz.prog.info? 119).map (·.size) = some cs.size := h ▸ rw_info
/-- The store of a word into a block that holds none. -/
theorem store_rword {ops : Array Oper} {rest : List Oper} {o : Oper} {a : Act} {w : World} {Q : Exit → Act → World → Prop} (hgd : o.guard = none) (x y : Operand) (ho : o.op = .store 119 x y)
    (g : Nat) (kind at_ nx : Int) (t : ByteArray) (lv c0 c1 c2 c3 : Int) (hx : a.eval x = .pointer (some ⟨g, 0, none⟩)) (hy : a.eval y = .agg #[.int .i64 kind, .int .i64 at_, .int .i64 nx, .string t, .int .i64 lv, .int .u64 c0, .int .u64 c1, .int .u64 c2, .int .u64 c3])
    (hg : hrow w g wd0 119)
    (h : wpList Tryz.prog ops Q rest (a.put o.dst undef) (w.setRow g #[.int .i64 kind, .int .i64 at_, .int .i64 nx, .string t, .int .i64 lv, .int .u64 c0, .int .u64 c1, .int .u64 c2, .int .u64 c3])) : wpList Tryz.prog ops Q (o :: rest) a w :=
  wpList_store_row hgd _ x y ho g _ hx hy _ _ hg.h (rw_sz rfl) rfl (wd_all ..) h
theorem load_rword {ops : Array Oper} {rest : List Oper} {o : Oper} {a : Act} {w : World} {Q : Exit → Act → World → Prop} (hgd : o.guard = none) (x : Operand) (ho : o.op = .load 119 x)
    (g : Nat) (hx : a.eval x = .pointer (some ⟨g, 0, none⟩)) (kind at_ nx : Int) (t : ByteArray) (lv c0 c1 c2 c3 : Int)
    (hg : hrow w g #[.int .i64 kind, .int .i64 at_, .int .i64 nx, .string t, .int .i64 lv, .int .u64 c0, .int .u64 c1, .int .u64 c2, .int .u64 c3] 119)
    (h : wpList Tryz.prog ops Q rest (a.put o.dst (.agg #[.int .i64 kind, .int .i64 at_, .int .i64 nx, .string t, .int .i64 lv, .int .u64 c0, .int .u64 c1, .int .u64 c2, .int .u64 c3])) w) : wpList Tryz.prog ops Q (o :: rest) a w :=
  wpList_load_row hgd _ x ho g hx _ _ _ _ hg.h Tryz.underlying119 rfl (rw_sz rfl) h
theorem results_rword {fn : Func} {p : Tmp} (h : fn.results = #[.cell p 119]) (tmps : Array Value) (w : World) (g : Nat) (cs : Array Value)
    (hp : tmps.getD p undef = .pointer (some ⟨g, 0, none⟩)) (hg : hrow w g wd0 119) (hs : cs.size = 9) : (results fn tmps).run Tryz.prog (w.setRow g cs) = .ok (.agg cs) (w.setRow g cs) :=
  results_cell_row h tmps _ g 119 _ _ _ hp (setRow_heap _ _ _ _ _ _ hg) Tryz.underlying119 rfl (rw_sz hs)
theorem rnamed_any (s : ByteArray) (k0 : Nat) (w : World) (hs : s.size ≤ 1000000) (hk0 : k0 ≤ s.size) : Calls Tryz.prog 108 #[.string s, .int .i64 k0] w fun e w' => e = .returned (.agg (wdv (nameW (s.data.toList.drop k0)) k0)) ∧ Below w.heap.size w w' := by
 have HS := Lib.hid hs; clear hs
 have h0 : (0 : Int) ≤ k0 := by omega
 obtain ⟨m, hm⟩ : ∃ m, m = ((s.data.toList.drop k0).takeWhile isLD).length := ⟨_, rfl⟩
 have hmk : k0 + m ≤ s.size := by have := tw_len isLD (s.data.toList.drop k0); rw [List.length_drop, ba_len] at this; omega
 have HM := Lib.hid hm; clear hm
 have HMK := Lib.hid hmk; clear hmk
 go_enter Tryz.func108, Tryz.ntmps108
 go_wp2_with fail
 have HB0 := Lib.hid ((Below.refl w.heap.size w).alloc (Nat.le_refl _) (.cells #[.int .i64 0, .int .i64 0, .int .i64 0, .string ⟨#[]⟩, .int .i64 0, .int .u64 0, .int .u64 0, .int .u64 0, .int .u64 0] 119))
 have HR0 := Lib.hid (show hrow (w.alloc (.cells #[.int .i64 0, .int .i64 0, .int .i64 0, .string ⟨#[]⟩, .int .i64 0, .int .u64 0, .int .u64 0, .int .u64 0, .int .u64 0] 119)) w.heap.size wd0 119 from hrow.new _ _ _)
 go_loopw [5] (fun i wr => ∃ k : Nat, k0 ≤ k ∧ k ≤ s.size ∧ i = .int .i64 k ∧ Hid (k0 + m = k + ((s.data.toList.drop k).takeWhile isLD).length ∧ hrow wr w.heap.size wd0 119 ∧ Below w.heap.size w wr)) (fun i _ => s.size - (intOf i).toNat)
 case atStart => exact ⟨k0, Nat.le_refl _, hk0, rfl, by rw [← HM.out], HR0.out, HB0.out⟩
 case round =>
  clear HB0 HR0
  obtain ⟨k, hkk, hk, rfl, HI⟩ := hrel
  by_cases hlt : k < s.size
  ·have hkI : (k : Int) < s.size := by omega
   have hk1 : (0 : Int) ≤ k := by omega
   have hkb : (s.size : Int) ≤ 1000000 := by have := HS.out; omega
   obtain ⟨c, hc⟩ : ∃ c, s[k] = c := ⟨_, rfl⟩
   have HD := Lib.hid (drop_at hlt)
   rw [hc] at HD
   have HL := Lib.hid (rlet_any c wr)
   have HDg := Lib.hid (rdig_any c wr)
   have HKK : Hid (k0 ≤ k ∧ k < s.size) := ⟨hkk, hlt⟩
   cases hl : isLt c with
   | true =>
    rw [hl] at HL
    have HN : Hid (k0 + m = k + 1 + ((s.data.toList.drop (k + 1)).takeWhile isLD).length) := by
     have := HI.out.1; rw [HD.out, List.takeWhile_cons, if_pos (by unfold isLD; rw [hl]; rfl), List.length_cons] at this; unfold Hid; omega
    clear hkk hl
    go_wp2_with fail
    refine HL.out.mono ?_
    rintro e x ⟨rfl, rfl⟩
    go_wp2_with fail
    go_roundw
    case rel => exact ⟨k + 1, by have := HKK.out; omega, HKK.out.2, by go_num, HN.out, HI.out.2⟩
    case measure => have := HKK.out; simp [intOf]; omega
   | false =>
    rw [hl] at HL
    cases hd : isDg c with
    | true =>
     rw [hd] at HDg
     have HN : Hid (k0 + m = k + 1 + ((s.data.toList.drop (k + 1)).takeWhile isLD).length) := by
      have := HI.out.1; rw [HD.out, List.takeWhile_cons, if_pos (by unfold isLD; rw [hl, hd]; rfl), List.length_cons] at this; unfold Hid; omega
     clear hkk hl hd
     go_wp2_with fail
     refine HL.out.mono ?_
     rintro e x ⟨rfl, rfl⟩
     go_wp2_with fail
     refine HDg.out.mono ?_
     rintro e x ⟨rfl, rfl⟩
     go_wp2_with fail
     go_roundw
     case rel => exact ⟨k + 1, by have := HKK.out; omega, HKK.out.2, by go_num, HN.out, HI.out.2⟩
     case measure => have := HKK.out; simp [intOf]; omega
    | false =>
     rw [hd] at HDg
     have hkm : k = k0 + m := by
      have := HI.out.1; rw [HD.out, List.takeWhile_cons, if_neg (by unfold isLD; rw [hl, hd]; decide)] at this; simpa using this.symm
     subst hkm
     have HTW : Hid ((s.data.toList.drop k0).dropWhile isLD = c :: s.data.toList.drop (k0 + m + 1)) := by unfold Hid; rw [drop_tw, ← HM.out, List.drop_drop]; exact HD.out
     have hsl : ∀ wx, (Instr.slice 9 (.string s) (some (.int .i64 k0)) (some (.int .i64 (k0 + m))) none).run Tryz.prog wx = .ok (.string (tx ((s.data.toList.drop k0).take m))) wx := mid_run 9 Tryz.underlying9 s k0 m k0 (k0 + m) rfl (by omega) HMK.out
     clear hkk hl hd
     go_wp2_with fail
     refine HL.out.mono ?_
     rintro e x ⟨rfl, rfl⟩
     go_wp2_with fail
     refine HDg.out.mono ?_
     rintro e x ⟨rfl, rfl⟩
     have hbl := (Below.refl x.heap.size x).alloc (Nat.le_refl _) (.cells #[.int .i64 2, .int .i64 k0, .int .i64 (k0 + m), .string (tx ((s.data.toList.drop k0).take m)), .int .i64 (-1), .int .u64 0, .int .u64 0, .int .u64 0, .int .u64 0] 119)
     have HW := Lib.hid (hrow.new x #[.int .i64 2, .int .i64 k0, .int .i64 (k0 + m), .string (tx ((s.data.toList.drop k0).take m)), .int .i64 (-1), .int .u64 0, .int .u64 0, .int .u64 0, .int .u64 0] 119)
     have HR := Lib.hid (HI.out.2.1.below hbl)
     have HB := Lib.hid (HI.out.2.2.trans (hbl.mono HI.out.2.2.size))
     clear hbl
     by_cases h1 : k0 + m + 1 < s.size
     ·obtain ⟨d, hd'⟩ : ∃ d, s[k0 + m + 1] = d := ⟨_, rfl⟩
      have HD2 := Lib.hid (drop_at h1)
      rw [hd'] at HD2
      have h1I : ((k0 + m : Nat) : Int) + 1 < s.size := by omega
      by_cases h58 : (c.toNat : Int) = 58
      ·have hc58 : c = 58 := by have : c.toNat = 58 := by omega
                                exact UInt8.toNat_inj.1 this
       have HDd := Lib.hid (fun y => rdig_any d y)
       cases hdd : isDg d with
       | true =>
        rw [hdd] at HDd
        have hdc : decide ((s.size : Int) ≤ (k0 : Int) + m + 1) = false := decide_eq_false (by omega)
        go_wp2_with fail
        refine (HDd.out _).mono ?_
        rintro e y ⟨rfl, rfl⟩
        go_wp2_with fail
        have HGW := Lib.hid (HI.out.2.1.lt)
        have HI2 : Hid (hrow (x.alloc (.cells #[.int .i64 2, .int .i64 k0, .int .i64 (k0 + m), .string (tx ((s.data.toList.drop k0).take m)), .int .i64 0, .int .u64 0, .int .u64 0, .int .u64 0, .int .u64 0] 119)) x.heap.size #[.int .i64 2, .int .i64 k0, .int .i64 (k0 + m), .string (tx ((s.data.toList.drop k0).take m)), .int .i64 0, .int .u64 0, .int .u64 0, .int .u64 0, .int .u64 0] 119 ∧ hrow (x.alloc (.cells #[.int .i64 2, .int .i64 k0, .int .i64 (k0 + m), .string (tx ((s.data.toList.drop k0).take m)), .int .i64 0, .int .u64 0, .int .u64 0, .int .u64 0, .int .u64 0] 119)) w.heap.size wd0 119 ∧ Below w.heap.size w (x.alloc (.cells #[.int .i64 2, .int .i64 k0, .int .i64 (k0 + m), .string (tx ((s.data.toList.drop k0).take m)), .int .i64 0, .int .u64 0, .int .u64 0, .int .u64 0, .int .u64 0] 119))) := ⟨hrow.new _ _ _, HI.out.2.1.below ((Below.refl _ _).alloc (Nat.le_refl _) _), HI.out.2.2.alloc HI.out.2.2.size _⟩
        obtain ⟨D, hDD⟩ : ∃ D, D = (s.data.toList.drop (k0 + m + 1)).takeWhile isDg := ⟨_, rfl⟩
        have HE : Hid (nameW (s.data.toList.drop k0) = ⟨2, m + 1 + D.length, (s.data.toList.drop k0).take m, lvl D, []⟩) := by
         unfold Hid; rw [hDD, HD2.out]; exact nameW_yes HM.out (by rw [HTW.out, hc58, HD2.out]) hdd
        have HAll : Hid (∀ c ∈ D, isDg c = true) := by unfold Hid; rw [hDD]; exact tw_all isDg _
        have HDD := Lib.hid hDD
        have HH1 := Lib.hid h1
        clear HW HR HB HI HL HDg HDd hsl HTW HD HD2 hc58 hdd h58 hd' hc hDD h1
        generalize x.alloc (.cells #[.int .i64 2, .int .i64 k0, .int .i64 (k0 + m), .string (tx ((s.data.toList.drop k0).take m)), .int .i64 0, .int .u64 0, .int .u64 0, .int .u64 0, .int .u64 0] 119) = y at *
        generalize x.heap.size = g6 at *
        go_loopw [5] (fun i wr => ∃ (k : Nat) (pre : List UInt8), k0 + m + 1 + pre.length = k ∧ k ≤ s.size ∧ i = .int .i64 k ∧ Hid (D = pre ++ (s.data.toList.drop k).takeWhile isDg ∧ hrow wr g6 #[.int .i64 2, .int .i64 k0, .int .i64 (k0 + m), .string (tx ((s.data.toList.drop k0).take m)), .int .i64 (capL pre), .int .u64 0, .int .u64 0, .int .u64 0, .int .u64 0] 119 ∧ hrow wr w.heap.size wd0 119 ∧ Below w.heap.size w wr)) (fun i _ => s.size - (intOf i).toNat)
        case atStart => exact ⟨k0 + m + 1, [], rfl, by have := HH1.out; omega, by go_num, by rw [← HDD.out]; rfl, HI2.out⟩
        case round =>
         clear HI2
         obtain ⟨k, pre, hkp, hk2, rfl, HI⟩ := hrel
         have HKP := Lib.hid hkp; clear hkp
         by_cases hlt2 : k < s.size
         ·have hkI2 : (k : Int) < s.size := by omega
          have hk12 : (0 : Int) ≤ k := by omega
          obtain ⟨c2, hc2⟩ : ∃ c, s[k] = c := ⟨_, rfl⟩
          have HD := Lib.hid (drop_at hlt2)
          rw [hc2] at HD
          have HDg := Lib.hid (fun z => rdig_any c2 z)
          have HK := Lib.hid hlt2
          cases hd2 : isDg c2 with
          | true =>
           rw [hd2] at HDg
           have HNx : Hid (D = (pre ++ [c2]) ++ (s.data.toList.drop (k + 1)).takeWhile isDg) := by
            have := HI.out.1; rw [HD.out, List.takeWhile_cons, if_pos hd2] at this; unfold Hid; rw [this]; simp
           obtain ⟨hx1, hx2⟩ := dg_bd hd2
           obtain ⟨hl1, hl2⟩ := capL_bd pre (fun x hx => HAll.out x (by rw [HI.out.1]; simp [hx]))
           have HSn := Lib.hid (capL_snoc pre c2)
           have hwr : IntKind.u8.wrap ((c2.toNat : Int) - 48) = (c2.toNat : Int) - 48 := by simp [IntKind.wrap, IntKind.bits, IntKind.signed]; omega
           have q4 : ∀ x : Later wr, x.val.cell? ⟨g6, 4, none⟩ = some (.int .i64 (capL pre)) := fun x => hrow.cell (HI.out.2.1.below x.ok) 4
           have qf : ∀ x : Later wr, x.val.frozen? ⟨g6, 4, none⟩ = false := fun x => hrow.frozen (HI.out.2.1.below x.ok) 4
           go_wp2_with fail
           refine (HDg.out _).mono ?_
           rintro e z ⟨rfl, rfl⟩
           go_wp2_with fail
           refine wp_region_later_tail 11 (by kernel_rfl) (by kernel_rfl) ?_
           simp only [List.take_succ_cons, List.take_zero, List.drop_succ_cons, List.drop_zero]
           repeat (go_big_quiet_step (fail))
           refine wpQuiet_nil ?_
           intro w5 hw5
           obtain ⟨x, rfl⟩ := hw5
           go_wp2_with fail
           go_roundw
           case rel =>
            refine ⟨k + 1, pre ++ [c2], by have := HKP.out; simp; omega, HK.out, by go_num, HNx.out, ?_, (HI.out.2.2.1.below x.ok).fr (Fr.setCell _ ⟨g6, 4, none⟩ _) (by have := HGW.out; simp; omega), (HI.out.2.2.2.trans (x.ok.mono HI.out.2.2.2.size)).setCell (p := ⟨g6, 4, none⟩) (Nat.le_of_lt HGW.out) _⟩
            rw [HSn.out]
            exact hrow.setCell (HI.out.2.1.below x.ok) 4 _
           case measure => have := HK.out; simp [intOf]; omega
          | false =>
           rw [hd2] at HDg
           have HZ : Hid ((s.data.toList.drop k).takeWhile isDg = []) := by unfold Hid; rw [HD.out, List.takeWhile_cons, if_neg (by rw [hd2]; decide)]
           have HDP : Hid (D = pre) := by have := HI.out.1; rw [HZ.out, List.append_nil] at this; exact this
           have HLV := Lib.hid (capL_lvl D HAll.out)
           rw [HDP.out] at HLV HE
           have e2 : ((k : Int) - ((k0 : Int) + m)) = pre.length + 1 := by have := HKP.out; omega
           obtain ⟨q0, q1, q2, q3, q4, q5, q6, q7, q8⟩ := hrow.c9 HI.out.2.1
           obtain ⟨f0, f1, f2, f3, f4, f5, f6, f7, f8⟩ := hrow.f9 HI.out.2.1
           have HNX : Hid ((k : Int) = k0 + (m + 1 + pre.length : Nat)) := by have := HKP.out; unfold Hid; omega
           by_cases h5 : 4 < pre.length
           ·have hgt : (5 : Int) < pre.length + 1 := by omega
            rw [if_pos h5] at HLV
            have HW2 : Hid (hrow ((wr.setCell ⟨g6, 4, none⟩ (.int .i64 9999)).setCell ⟨g6, 2, none⟩ (.int .i64 k)) g6 #[.int .i64 2, .int .i64 k0, .int .i64 k, .string (tx ((s.data.toList.drop k0).take m)), .int .i64 9999, .int .u64 0, .int .u64 0, .int .u64 0, .int .u64 0] 119) := hrow.setCell (hrow.setCell HI.out.2.1 4 (.int .i64 9999)) 2 (.int .i64 k)
            have HR2 : Hid (hrow ((wr.setCell ⟨g6, 4, none⟩ (.int .i64 9999)).setCell ⟨g6, 2, none⟩ (.int .i64 k)) w.heap.size wd0 119) := (HI.out.2.2.1.fr (Fr.setCell _ ⟨g6, 4, none⟩ _) (by have := HGW.out; simp; omega)).fr (Fr.setCell _ ⟨g6, 2, none⟩ _) (by have := HGW.out; simp; omega)
            have HB2 : Hid (Below w.heap.size w ((wr.setCell ⟨g6, 4, none⟩ (.int .i64 9999)).setCell ⟨g6, 2, none⟩ (.int .i64 k))) := (HI.out.2.2.2.setCell (p := ⟨g6, 4, none⟩) (Nat.le_of_lt HGW.out) _).setCell (p := ⟨g6, 2, none⟩) (Nat.le_of_lt HGW.out) _
            go_wp2_with fail
            refine (HDg.out _).mono ?_
            rintro e z ⟨rfl, rfl⟩
            go_wp2_with (first
             | (with_reducible refine load_rword rfl (.tmp 6) rfl g6 rfl _ _ _ _ _ _ _ _ _ HW2.out ?_)
             | (with_reducible refine store_rword rfl (.tmp 4) (.tmp 87) rfl w.heap.size _ _ _ _ _ _ _ _ _ rfl rfl HR2.out ?_))
            refine bodyPost_ret (results_rword rfl _ _ w.heap.size _ rfl HR2.out rfl) rfl ?_
            exact ⟨by rw [HE.out, HNX.out, HLV.out]; rfl, below_setRow HB2.out (Nat.le_refl _) _⟩
           ·have hgt : ¬ (5 : Int) < pre.length + 1 := by omega
            rw [if_neg h5] at HLV
            have HW2 : Hid (hrow (wr.setCell ⟨g6, 2, none⟩ (.int .i64 k)) g6 #[.int .i64 2, .int .i64 k0, .int .i64 k, .string (tx ((s.data.toList.drop k0).take m)), .int .i64 (capL pre), .int .u64 0, .int .u64 0, .int .u64 0, .int .u64 0] 119) := hrow.setCell HI.out.2.1 2 (.int .i64 k)
            have HR2 : Hid (hrow (wr.setCell ⟨g6, 2, none⟩ (.int .i64 k)) w.heap.size wd0 119) := HI.out.2.2.1.fr (Fr.setCell _ ⟨g6, 2, none⟩ _) (by have := HGW.out; simp; omega)
            have HB2 : Hid (Below w.heap.size w (wr.setCell ⟨g6, 2, none⟩ (.int .i64 k))) := HI.out.2.2.2.setCell (p := ⟨g6, 2, none⟩) (Nat.le_of_lt HGW.out) _
            go_wp2_with fail
            refine (HDg.out _).mono ?_
            rintro e z ⟨rfl, rfl⟩
            go_wp2_with (first
             | (with_reducible refine load_rword rfl (.tmp 6) rfl g6 rfl _ _ _ _ _ _ _ _ _ HW2.out ?_)
             | (with_reducible refine store_rword rfl (.tmp 4) (.tmp 87) rfl w.heap.size _ _ _ _ _ _ _ _ _ rfl rfl HR2.out ?_))
            refine bodyPost_ret (results_rword rfl _ _ w.heap.size _ rfl HR2.out rfl) rfl ?_
            exact ⟨by rw [HE.out, HNX.out, HLV.out]; rfl, below_setRow HB2.out (Nat.le_refl _) _⟩
         ·have hkI2 : ¬ (k : Int) < s.size := by omega
          have HZ : Hid ((s.data.toList.drop k).takeWhile isDg = []) := by unfold Hid; rw [List.drop_eq_nil_of_le (by rw [ba_len]; omega)]; rfl
          have HDP : Hid (D = pre) := by have := HI.out.1; rw [HZ.out, List.append_nil] at this; exact this
          have HLV := Lib.hid (capL_lvl D HAll.out)
          rw [HDP.out] at HLV HE
          have e2 : ((k : Int) - ((k0 : Int) + m)) = pre.length + 1 := by have := HKP.out; omega
          obtain ⟨q0, q1, q2, q3, q4, q5, q6, q7, q8⟩ := hrow.c9 HI.out.2.1
          obtain ⟨f0, f1, f2, f3, f4, f5, f6, f7, f8⟩ := hrow.f9 HI.out.2.1
          have HNX : Hid ((k : Int) = k0 + (m + 1 + pre.length : Nat)) := by have := HKP.out; unfold Hid; omega
          by_cases h5 : 4 < pre.length
          ·have hgt : (5 : Int) < pre.length + 1 := by omega
           rw [if_pos h5] at HLV
           have HW2 : Hid (hrow ((wr.setCell ⟨g6, 4, none⟩ (.int .i64 9999)).setCell ⟨g6, 2, none⟩ (.int .i64 k)) g6 #[.int .i64 2, .int .i64 k0, .int .i64 k, .string (tx ((s.data.toList.drop k0).take m)), .int .i64 9999, .int .u64 0, .int .u64 0, .int .u64 0, .int .u64 0] 119) := hrow.setCell (hrow.setCell HI.out.2.1 4 (.int .i64 9999)) 2 (.int .i64 k)
           have HR2 : Hid (hrow ((wr.setCell ⟨g6, 4, none⟩ (.int .i64 9999)).setCell ⟨g6, 2, none⟩ (.int .i64 k)) w.heap.size wd0 119) := (HI.out.2.2.1.fr (Fr.setCell _ ⟨g6, 4, none⟩ _) (by have := HGW.out; simp; omega)).fr (Fr.setCell _ ⟨g6, 2, none⟩ _) (by have := HGW.out; simp; omega)
           have HB2 : Hid (Below w.heap.size w ((wr.setCell ⟨g6, 4, none⟩ (.int .i64 9999)).setCell ⟨g6, 2, none⟩ (.int .i64 k))) := (HI.out.2.2.2.setCell (p := ⟨g6, 4, none⟩) (Nat.le_of_lt HGW.out) _).setCell (p := ⟨g6, 2, none⟩) (Nat.le_of_lt HGW.out) _
           go_wp2_with (first
            | (with_reducible refine load_rword rfl (.tmp 6) rfl g6 rfl _ _ _ _ _ _ _ _ _ HW2.out ?_)
            | (with_reducible refine store_rword rfl (.tmp 4) (.tmp 87) rfl w.heap.size _ _ _ _ _ _ _ _ _ rfl rfl HR2.out ?_))
           refine bodyPost_ret (results_rword rfl _ _ w.heap.size _ rfl HR2.out rfl) rfl ?_
           exact ⟨by rw [HE.out, HNX.out, HLV.out]; rfl, below_setRow HB2.out (Nat.le_refl _) _⟩
          ·have hgt : ¬ (5 : Int) < pre.length + 1 := by omega
           rw [if_neg h5] at HLV
           have HW2 : Hid (hrow (wr.setCell ⟨g6, 2, none⟩ (.int .i64 k)) g6 #[.int .i64 2, .int .i64 k0, .int .i64 k, .string (tx ((s.data.toList.drop k0).take m)), .int .i64 (capL pre), .int .u64 0, .int .u64 0, .int .u64 0, .int .u64 0] 119) := hrow.setCell HI.out.2.1 2 (.int .i64 k)
           have HR2 : Hid (hrow (wr.setCell ⟨g6, 2, none⟩ (.int .i64 k)) w.heap.size wd0 119) := HI.out.2.2.1.fr (Fr.setCell _ ⟨g6, 2, none⟩ _) (by have := HGW.out; simp; omega)
           have HB2 : Hid (Below w.heap.size w (wr.setCell ⟨g6, 2, none⟩ (.int .i64 k))) := HI.out.2.2.2.setCell (p := ⟨g6, 2, none⟩) (Nat.le_of_lt HGW.out) _
           go_wp2_with (first
            | (with_reducible refine load_rword rfl (.tmp 6) rfl g6 rfl _ _ _ _ _ _ _ _ _ HW2.out ?_)
            | (with_reducible refine store_rword rfl (.tmp 4) (.tmp 87) rfl w.heap.size _ _ _ _ _ _ _ _ _ rfl rfl HR2.out ?_))
           refine bodyPost_ret (results_rword rfl _ _ w.heap.size _ rfl HR2.out rfl) rfl ?_
           exact ⟨by rw [HE.out, HNX.out, HLV.out]; rfl, below_setRow HB2.out (Nat.le_refl _) _⟩
       | false =>
        rw [hdd] at HDd
        have HE : Hid (nameW (s.data.toList.drop k0) = ⟨2, m, (s.data.toList.drop k0).take m, -1, []⟩) := nameW_no HM.out (fun c' d' t' h => by rw [HTW.out, HD2.out] at h; simp only [List.cons.injEq] at h; rw [← h.2.1, hdd]; simp)
        go_wp2_with fail
        refine (HDd.out _).mono ?_
        rintro e y ⟨rfl, rfl⟩
        go_wp2_with (first
          | (with_reducible refine load_rword rfl (.tmp 6) rfl x.heap.size rfl _ _ _ _ _ _ _ _ _ HW.out ?_)
          | (with_reducible refine store_rword rfl (.tmp 4) (.tmp 52) rfl w.heap.size _ _ _ _ _ _ _ _ _ rfl rfl HR.out ?_))
        refine bodyPost_ret (results_rword rfl _ _ w.heap.size _ rfl HR.out rfl) rfl ?_
        exact ⟨by rw [HE.out]; rfl, below_setRow HB.out (Nat.le_refl _) _⟩
      ·have HE : Hid (nameW (s.data.toList.drop k0) = ⟨2, m, (s.data.toList.drop k0).take m, -1, []⟩) := nameW_no HM.out (fun c' d' t' h => by
        rw [HTW.out, HD2.out] at h; simp only [List.cons.injEq] at h; rw [← h.1]
        have : c ≠ 58 := fun e => h58 (by rw [e]; rfl)
        simp [this])
       go_wp2_with (first
         | (with_reducible refine load_rword rfl (.tmp 6) rfl x.heap.size rfl _ _ _ _ _ _ _ _ _ HW.out ?_)
         | (with_reducible refine store_rword rfl (.tmp 4) (.tmp 52) rfl w.heap.size _ _ _ _ _ _ _ _ _ rfl rfl HR.out ?_))
       refine bodyPost_ret (results_rword rfl _ _ w.heap.size _ rfl HR.out rfl) rfl ?_
       exact ⟨by rw [HE.out]; rfl, below_setRow HB.out (Nat.le_refl _) _⟩
     ·have h1I : ¬ ((k0 + m : Nat) : Int) + 1 < s.size := by omega
      have HE : Hid (nameW (s.data.toList.drop k0) = ⟨2, m, (s.data.toList.drop k0).take m, -1, []⟩) := nameW_no HM.out (fun c' d' t' h => by
       rw [HTW.out] at h; simp only [List.cons.injEq] at h
       have := congrArg List.length h.2
       rw [List.length_drop, ba_len] at this; simp at this; omega)
      go_wp2_with (first
        | (with_reducible refine load_rword rfl (.tmp 6) rfl x.heap.size rfl _ _ _ _ _ _ _ _ _ HW.out ?_)
        | (with_reducible refine store_rword rfl (.tmp 4) (.tmp 52) rfl w.heap.size _ _ _ _ _ _ _ _ _ rfl rfl HR.out ?_))
      refine bodyPost_ret (results_rword rfl _ _ w.heap.size _ rfl HR.out rfl) rfl ?_
      exact ⟨by rw [HE.out]; rfl, below_setRow HB.out (Nat.le_refl _) _⟩
  ·have hkm : k = k0 + m := by have := HI.out.1; rw [show k = s.size by omega, List.drop_eq_nil_of_le (by rw [ba_len]; exact Nat.le_refl _)] at this; simp at this; omega
   subst hkm
   have hkI : ¬ ((k0 + m : Nat) : Int) < s.size := by omega
   have h1I : ¬ ((k0 + m : Nat) : Int) + 1 < s.size := by omega
   have hkb : (s.size : Int) ≤ 1000000 := by have := HS.out; omega
   have hsl : ∀ wx, (Instr.slice 9 (.string s) (some (.int .i64 k0)) (some (.int .i64 (k0 + m))) none).run Tryz.prog wx = .ok (.string (tx ((s.data.toList.drop k0).take m))) wx := mid_run 9 Tryz.underlying9 s k0 m k0 (k0 + m) rfl (by omega) HMK.out
   have HE : Hid (nameW (s.data.toList.drop k0) = ⟨2, m, (s.data.toList.drop k0).take m, -1, []⟩) := nameW_no HM.out (fun c' d' t' h => by
    rw [drop_tw, ← HM.out, List.drop_drop, List.drop_eq_nil_of_le (by rw [ba_len]; omega)] at h; cases h)
   have hbl := (Below.refl wr.heap.size wr).alloc (Nat.le_refl _) (.cells #[.int .i64 2, .int .i64 k0, .int .i64 (k0 + m), .string (tx ((s.data.toList.drop k0).take m)), .int .i64 (-1), .int .u64 0, .int .u64 0, .int .u64 0, .int .u64 0] 119)
   have HW := Lib.hid (hrow.new wr #[.int .i64 2, .int .i64 k0, .int .i64 (k0 + m), .string (tx ((s.data.toList.drop k0).take m)), .int .i64 (-1), .int .u64 0, .int .u64 0, .int .u64 0, .int .u64 0] 119)
   have HR := Lib.hid (HI.out.2.1.below hbl)
   have HB := Lib.hid (HI.out.2.2.trans (hbl.mono HI.out.2.2.size))
   clear hbl
   go_wp2_with (first
     | (with_reducible refine load_rword rfl (.tmp 6) rfl wr.heap.size rfl _ _ _ _ _ _ _ _ _ HW.out ?_)
     | (with_reducible refine store_rword rfl (.tmp 4) (.tmp 52) rfl w.heap.size _ _ _ _ _ _ _ _ _ rfl rfl HR.out ?_))
   refine bodyPost_ret (results_rword rfl _ _ w.heap.size _ rfl HR.out rfl) rfl ?_
   exact ⟨by rw [HE.out]; rfl, below_setRow HB.out (Nat.le_refl _) _⟩
end Go.Proofs.YthfefbmkgebmkaaGreatDoor
namespace Go.Proofs.YthfefbmkgebmkaaGreatDoor
open Go.RowKit
set_option maxRecDepth 100000
set_option maxHeartbeats 4000000

theorem ris_any (p : Int) (w : World) : Calls Tryz.prog 138 #[.int .i64 p] w fun e w' => e = .returned (.bool (isPl p)) ∧ w' = w := by
 unfold isPl
 by_cases h1 : p = 1
 ·subst h1
  go_enter Tryz.func138, Tryz.ntmps138
  go_wp2_with fail
  go_ret
  exact ⟨rfl, rfl⟩
 ·have h2 : (p == 1) = false := by simpa using h1
  clear h1
  go_enter Tryz.func138, Tryz.ntmps138
  go_wp2_with fail
  go_ret
  exact ⟨by rw [h2]; simp, rfl⟩
theorem rspecial_any (p : Int) (c : UInt8) (w : World) : Calls Tryz.prog 139 #[.int .i64 p, .int .u8 c.toNat] w fun e w' => e = .returned (.bool (spec p c)) ∧ w' = w := by
 have H : Hid (spec p c = (decide ((c.toNat : Int) < 32) || decide (126 < (c.toNat : Int)) || ((c.toNat : Int) == 92) || (p == 1 && ((c.toNat : Int) == 34)) || (p == 2 && (((c.toNat : Int) == 93) || ((c.toNat : Int) == 45))))) := by
  unfold Hid spec
  have h1 := u8_all (P := fun c => ((decide (c < 32) || decide (126 < c) || c == 92) = (decide ((c.toNat : Int) < 32) || decide (126 < (c.toNat : Int)) || ((c.toNat : Int) == 92))) ∧ (c == 34) = ((c.toNat : Int) == 34) ∧ (c == 93) = ((c.toNat : Int) == 93) ∧ (c == 45) = ((c.toNat : Int) == 45)) (by decide +kernel) c
  rw [h1.1, h1.2.1, h1.2.2.1, h1.2.2.2]
 rw [H.out]; clear H
 have h0 : (0 : Int) ≤ c.toNat := by omega
 generalize (c.toNat : Int) = b at h0 ⊢
 obtain ⟨b1, e1⟩ : ∃ b1, decide (b < 32) = b1 := ⟨_, rfl⟩
 obtain ⟨b2, e2⟩ : ∃ b2, decide (126 < b) = b2 := ⟨_, rfl⟩
 obtain ⟨b3, e3⟩ : ∃ b3, (b == 92) = b3 := ⟨_, rfl⟩
 obtain ⟨b4, e4⟩ : ∃ b4, (b == 34) = b4 := ⟨_, rfl⟩
 obtain ⟨b5, e5⟩ : ∃ b5, (b == 93) = b5 := ⟨_, rfl⟩
 obtain ⟨b6, e6⟩ : ∃ b6, (b == 45) = b6 := ⟨_, rfl⟩
 obtain ⟨b7, e7⟩ : ∃ b7, (p == 1) = b7 := ⟨_, rfl⟩
 obtain ⟨b8, e8⟩ : ∃ b8, (p == 2) = b8 := ⟨_, rfl⟩
 rw [e1, e2, e3, e4, e5, e6, e7, e8]
 cases b1 <;> cases b2 <;> cases b3 <;> cases b4 <;> cases b5 <;> cases b6 <;> cases b7 <;> cases b8 <;>
 (go_enter Tryz.func139, Tryz.ntmps139
  go_wp2_with fail
  go_ret
  exact ⟨rfl, rfl⟩)
end Go.Proofs.YthfefbmkgebmkaaGreatDoor
namespace Go.Proofs.YthfefbmkgebmkaaGreatDoor
open Go.RowKit
set_option maxRecDepth 100000
set_option maxHeartbeats 4000000

/-- The number of a digit, as the reference has it. -/
def dgI (c : UInt8) : Int := match hexv c with | some x => x.toNat | none => -1
theorem rdigit_any (c : UInt8) (w : World) : Calls Tryz.prog 140 #[.int .u8 c.toNat] w fun e w' => e = .returned (.int .i64 (dgI c)) ∧ w' = w := by
 have h255 : (c.toNat : Int) ≤ 255 := by have := c.toNat_lt; omega
 have h0 : (0 : Int) ≤ c.toNat := by omega
 have H : Hid (dgI c = if 48 ≤ (c.toNat : Int) ∧ (c.toNat : Int) ≤ 57 then (c.toNat : Int) - 48 else if 97 ≤ (c.toNat : Int) ∧ (c.toNat : Int) ≤ 102 then (c.toNat : Int) - 87 else if 65 ≤ (c.toNat : Int) ∧ (c.toNat : Int) ≤ 70 then (c.toNat : Int) - 55 else -1) :=
  u8_all (P := fun c => dgI c = if 48 ≤ (c.toNat : Int) ∧ (c.toNat : Int) ≤ 57 then (c.toNat : Int) - 48 else if 97 ≤ (c.toNat : Int) ∧ (c.toNat : Int) ≤ 102 then (c.toNat : Int) - 87 else if 65 ≤ (c.toNat : Int) ∧ (c.toNat : Int) ≤ 70 then (c.toNat : Int) - 55 else -1) (by decide +kernel) c
 generalize (c.toNat : Int) = b at *
 go_enter Tryz.func140, Tryz.ntmps140
 go_wp2_with fail
 all_goals
  go_ret
  refine ⟨?_, rfl⟩
  rw [H.out]
  show Ending.returned (.int .i64 _) = _
  refine ret_int ?_
  repeat' split
  all_goals omega
end Go.Proofs.YthfefbmkgebmkaaGreatDoor
