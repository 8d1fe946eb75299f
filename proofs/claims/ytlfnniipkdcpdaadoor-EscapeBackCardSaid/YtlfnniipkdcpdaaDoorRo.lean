/- Arguments that came in, read: bytes, texts; the table that is listed. -/
import Derived.Test.YtlfnniipkdcpdaaDoorRows
import Derived.Test.YtlfnniipkdcpdaaDoorEm
import Derived.ProofKit
import Derived.OpenShut
import Derived.ShutString
import Derived.SizedLaws
import Derived.Lib.SmallJoins
import Derived.Lib.LaidTab
import Derived.Stop.LaidErr
namespace Go.Proofs.YtlfnniipkdcpdaaDoor
open Go.RowKit Go.ChangeShapes Go.WideShapes Go.ChangeAt
set_option maxRecDepth 100000

section
variable {H : Type} {enc : TypeId × Value → H} {w : World} {base : Nat} {spare : Nat → Bool} {held : Bool}
theorem read_by {fuel : Nat} {v : Value} {x : DataW H × List MemPlace} (h : DataW.trod enc Tryd.prog w base spare held fuel 22 v.cells.toList = some x) {ao : Option Addr} {len cap : Nat} (hv : v = .slice ao len cap) :
  (∃ l : List UInt8, Sv w ao len cap 1 (Lib.byteCells l)) ∧ (len = 0 ∨ ∃ elems rest, x.1 = .slice elems rest ∧ len ≤ elems.length + rest.length) := by
 subst hv
 rcases open_ints Tryd.underlying22 Tryd.underlying5 (by kernel_rfl) h with ⟨hcs, hx⟩ | ⟨a, l, c, zs, hcs, _, hl, hm, hz, hx, hcell, hwz⟩
 ·simp [Value.cells] at hcs
  obtain ⟨rfl, rfl, rfl⟩ := hcs
  exact ⟨⟨[], Sv.nil w 1⟩, .inl rfl⟩
 ·simp [Value.cells] at hcs
  obtain ⟨rfl, rfl, rfl⟩ := hcs
  have hzl : len ≤ zs.length := by rw [hz]; split <;> omega
  have hb : ∀ n ∈ zs, 0 ≤ n ∧ n ≤ 255 := fun n hn => bounds_u8 (hwz n hn)
  refine ⟨⟨(zs.take len).map fun n => UInt8.ofNat n.toNat, ⟨by simp [Lib.byteCells]; omega, hl, hm, (fun h => nomatch h), fun j hj => ⟨a, rfl, ?_⟩⟩⟩, ?_⟩
  ·simp only [Lib.byteCells, List.length_map, List.length_take] at hj
   have hjz : j < zs.length := by omega
   have := hb zs[j] (List.getElem_mem hjz)
   rw [hcell j hjz]
   simp only [Lib.byteCells, List.getElem?_map, List.getElem?_take, show j < len by omega, if_true, List.getElem?_eq_getElem hjz, Option.map_some, List.getD_eq_getElem?_getD, Option.getD_some]
   congr 2
   simp
   omega
  ·refine .inr ⟨_, _, by rw [hx], ?_⟩
   simp [lits]
   omega
theorem by_size {P : Program} {ts : List TypeId} {ds : List (DataW H)} (h : (DataW.weightsEach P ts ds).all (· ≤ reachBytes) = true) {j : Nat} {t e : TypeId} {d : DataW H} {len : Nat} (hb : P.bytesOf e = 1)
  (ht : ts[j]? = some t) (hd : ds[j]? = some d) (hu : P.underlying t = some (.slice e)) (hl : len = 0 ∨ ∃ elems rest, d = .slice elems rest ∧ len ≤ elems.length + rest.length) : len ≤ 140737488355328 := by
 rcases hl with h0 | ⟨el, sp, rfl, hl⟩
 ·omega
 ·have h2 : (el.length + sp.length) * P.bytesOf e ∈ (DataW.slice el sp : DataW H).weights P t := by simp only [DataW.weights, hu, List.mem_cons, true_or]
  have h3 : (el.length + sp.length) * P.bytesOf e ≤ reachBytes := by simpa using List.all_eq_true.1 h _ (DataW.weights_mem_each ht hd _ h2)
  rw [hb] at h3
  simp only [reachBytes] at h3
  omega
theorem str_size {P : Program} {ts : List TypeId} {ds : List (DataW H)} (h : (DataW.weightsEach P ts ds).all (· ≤ reachBytes) = true) {j : Nat} {t : TypeId} {s : ByteArray}
  (ht : ts[j]? = some t) (hd : ds[j]? = some (.lit (.string s.data.toList))) : s.size ≤ 140737488355328 := by
 have h2 : s.data.toList.length ∈ (DataW.lit (.string s.data.toList) : DataW H).weights P t := by simp only [DataW.weights, List.mem_cons, true_or]
 have h3 : s.data.toList.length ≤ reachBytes := by simpa using List.all_eq_true.1 h _ (DataW.weights_mem_each ht hd _ h2)
 rw [ba_len] at h3
 simp only [reachBytes] at h3
 omega
end
/-- What the listed table gives the walks. -/
theorem tz_of {r : List (String × DataW Unit)} {x : String × DataW Unit} {W : World} (h : laidMet Tryd.prog (x :: ("math/bits.deBruijn64tab", Rows.laid_math_bits_deBruijn64tab) :: r) W) : TzOk W := by
 have hT := Lib.tabIs_of_head (k := .u8) (zs := [0, 1, 56, 2, 57, 49, 28, 3, 61, 58, 42, 50, 38, 29, 17, 4, 62, 47, 59, 36, 45, 43, 51, 22, 53, 39, 33, 30, 24, 18, 12, 5, 63, 55, 48, 27, 60, 41, 37, 16, 46, 35, 44, 21, 52, 32, 23, 11, 54, 26, 40, 15, 34, 20, 31, 10, 25, 14, 19, 9, 13, 8, 7, 6]) (g := 5) (t := 128) (e := 5) (n := 64)
  (show Tryd.prog.globalNamed "math/bits.deBruijn64tab" = some 5 by kernel_rfl) (by kernel_rfl) Tryd.underlying128 Tryd.underlying5 (by kernel_rfl) (by kernel_rfl) h.tail
 exact hT.cell (by kernel_rfl) 15 (by decide)
end Go.Proofs.YtlfnniipkdcpdaaDoor
