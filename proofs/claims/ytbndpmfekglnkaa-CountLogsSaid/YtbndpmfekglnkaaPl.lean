/- The plain functions that the reference's functions compute: no program in sight. -/
import Derived.WalkKit
namespace Go.Proofs.Ytbndpmfekglnkaa

def cnt (e : Int) (l : List Int) : Nat := (l.filter (fun x => x == e)).length
theorem cnt_le (e : Int) (zs : List Int) : cnt e zs ≤ zs.length := List.length_filter_le _ _
theorem cnt_nil (e : Int) : cnt e [] = 0 := rfl
theorem cnt_append (e : Int) (l m : List Int) : cnt e (l ++ m) = cnt e l + cnt e m := by simp [cnt, List.filter_append]
theorem cnt_one (e x : Int) : cnt e [x] = if x = e then 1 else 0 := by by_cases h : x = e <;> simp [cnt, h]
theorem cnt_snoc (e : Int) (zs : List Int) (x : Int) : cnt e (zs ++ [x]) = cnt e zs + if x = e then 1 else 0 := by rw [cnt_append, cnt_one]
theorem cnt_cons (e x : Int) (zs : List Int) : cnt e (x :: zs) = cnt e zs + if x = e then 1 else 0 := by
  rw [show x :: zs = [x] ++ zs from rfl, cnt_append, cnt_one]; omega

/-- 'inner' over the reversed front: s Ends are still to be met. -/
def innerGo : List Int → Nat → Int
  | [], _ => -1
  | x :: r, s => if x = 8 then innerGo r (s + 1) else if x = 1 then (if s = 0 then (r.length : Int) else innerGo r (s - 1)) else innerGo r s
def innerR (l : List Int) : Int := innerGo l.reverse 0
theorem innerGo_bd : ∀ (l : List Int) (s : Nat), -1 ≤ innerGo l s ∧ innerGo l s < l.length
  | [], _ => by simp [innerGo]
  | x :: r, s => by
    have h1 := innerGo_bd r (s + 1)
    have h2 := innerGo_bd r (s - 1)
    have h3 := innerGo_bd r s
    simp only [innerGo, List.length_cons]
    split
    · omega
    · split
      · split <;> omega
      · omega
theorem innerR_bd (l : List Int) : -1 ≤ innerR l ∧ innerR l < l.length := by
  have := innerGo_bd l.reverse 0; simpa [innerR] using this

/-- 'own' from a place on, o activations being open within. -/
def ownGo : List Int → Int → List Int
  | [], _ => []
  | x :: r, o => if o < 0 then [] else if x = 1 then ownGo r (o + 1) else if x = 8 then ownGo r (o - 1)
      else if (x = 2 ∨ x = 3) ∧ o = 0 then x :: ownGo r o else ownGo r o
def ownR (l : List Int) (k : Nat) : List Int := ownGo (l.drop (k + 1)) 0
theorem ownGo_len : ∀ (l : List Int) (o : Int), (ownGo l o).length ≤ l.length
  | [], _ => by simp [ownGo]
  | x :: r, o => by
    have h1 := ownGo_len r (o + 1)
    have h2 := ownGo_len r (o - 1)
    have h3 := ownGo_len r o
    simp only [ownGo, List.length_cons]
    (repeat' split) <;> (try simp only [List.length_cons, List.length_nil]) <;> omega
theorem ownR_len (l : List Int) (k : Nat) : (ownR l k).length ≤ l.length := by
  have := ownGo_len (l.drop (k + 1)) 0
  unfold ownR; simp at this; omega

def stateR (l : List Int) : Int :=
  if innerR l < 0 then 0 else
    if ownR l (innerR l).toNat = [] then 1 else (ownR l (innerR l).toNat).getLastD 0

def mayR (l : List Int) (e : Int) : Bool :=
  if e = 1 ∨ e = 5 then stateR l == 0 || stateR l == 2
  else if e = 2 then stateR l == 1 || stateR l == 3
  else if e = 3 ∨ e = 4 then stateR l == 2
  else if e = 6 ∨ e = 8 then stateR l == 2 || stateR l == 3
  else decide (cnt 7 l < cnt 6 l)

/-- 'Put': what is put behind l, one by one. -/
def putR : List Int → List Int → Nat → Nat × Int
  | _, [], n => (n, 0)
  | l, x :: r, n => if x < 1 ∨ 8 < x then (n, 2) else if mayR l x = false then (n, 13) else putR (l ++ [x]) r (n + 1)

def bodiesR (l : List Int) : Nat := cnt 2 l

/-- The thirteen counters. -/
structure Cn where
  (calls bodies grows seeds hits puts drops ends live peak opn deep most : Int)
deriving DecidableEq

def Cn.zero : Cn := ⟨0, 0, 0, 0, 0, 0, 0, 0, 0, 0, 0, 0, 0⟩
def Cn.list (c : Cn) : List Int := [c.calls, c.bodies, c.grows, c.seeds, c.hits, c.puts, c.drops, c.ends, c.live, c.peak, c.opn, c.deep, c.most]

/-- peak, deep and most, over the fronts from n on. -/
def peaksR (l : List Int) : Nat → Nat → Int × Int × Int → Int × Int × Int
  | 0, _, t => t
  | f + 1, n, (p, d, m) =>
    let p' := max p ((cnt 6 (l.take n) : Int) - cnt 7 (l.take n))
    let d' := max d ((cnt 1 (l.take n) : Int) - cnt 8 (l.take n))
    let m' := if n < l.length ∧ l.getD n 0 = 1 then max m (bodiesR (ownR l n) : Int) else m
    peaksR l f (n + 1) (p', d', m')
def ofR (l : List Int) : Cn × Int :=
  let e := (putR [] l 0).2
  if e ≠ 0 then (Cn.zero, e) else
    let t := peaksR l (l.length + 1) 0 (0, 0, 0)
    (⟨cnt 1 l, cnt 2 l, cnt 3 l, cnt 4 l, cnt 5 l, cnt 6 l, cnt 7 l, cnt 8 l, (cnt 6 l : Int) - cnt 7 l, t.1, (cnt 1 l : Int) - cnt 8 l, t.2.1, t.2.2⟩, 0)

end Go.Proofs.Ytbndpmfekglnkaa
