/- Arguments that came in, read: texts. -/
import Derived.Test.YtnfkcdnkmcifbaaDoorRows
import Derived.Test.YtnfkcdnkmcifbaaDoorBb
import Derived.ProofKit
import Derived.OpenShut
import Derived.ShutString
import Derived.SizedLaws
import Derived.Lib.SmallJoins
import Derived.Lib.LaidTab
import Derived.Stop.LaidErr
namespace Go.Proofs.YtnfkcdnkmcifbaaDoor
open Go.RowKit Go.ChangeShapes Go.WideShapes Go.ChangeAt
set_option maxRecDepth 100000

section
variable {H : Type}
theorem str_size {P : Program} {ts : List TypeId} {ds : List (DataW H)} (h : (DataW.weightsEach P ts ds).all (· ≤ reachBytes) = true) {j : Nat} {t : TypeId} {s : ByteArray}
  (ht : ts[j]? = some t) (hd : ds[j]? = some (.lit (.string s.data.toList))) : s.size ≤ 140737488355328 := by
 have h2 : s.data.toList.length ∈ (DataW.lit (.string s.data.toList) : DataW H).weights P t := by simp only [DataW.weights, List.mem_cons, true_or]
 have h3 : s.data.toList.length ≤ reachBytes := by simpa using List.all_eq_true.1 h _ (DataW.weights_mem_each ht hd _ h2)
 rw [ba_len] at h3
 simp only [reachBytes] at h3
 omega
end
end Go.Proofs.YtnfkcdnkmcifbaaDoor
