import Derived.Test.YtacnjemndfmbhaaRows
import Derived.ProofKit
import Derived.Deep.SlicePairs
import Derived.Deep.Strs
import Derived.SizedLaws
import Derived.Shelf.Vars
import Derived.JoinedCond
import Derived.Test.YtacnjemndfmbhaaC0
import Derived.Test.YtacnjemndfmbhaaC6
section
namespace Go.Proofs.Ytacnjemndfmbhaa.Rd
open Go.RowKit Go.Deep Go.Proofs.Ytacnjemndfmbhaa.Q Go.Proofs.YtacnjemndfmbhaaW.PrintWords
set_option linter.unusedVariables false
set_option linter.unusedSimpArgs false
theorem glob_of {w : World} (h : w.ShapedOpen Try.prog) : Glob w :=
 Go.Proofs.cell_of_shapedOpen_int (zero := #[.int .i64 0]) (t := 3) h (of_decide_eq_true (by kernel_rfl)) (by kernel_rfl) rfl (by kernel_rfl) (by kernel_rfl) Try.underlying3
theorem sized_weights {H : Type} {ts : List TypeId} {ds : List (DataW H)} (hsz : (DataW.weightsEach Try.prog ts ds).all (· ≤ reachBytes) = true) {j : Nat} {t : TypeId} {d : DataW H} (ht : ts[j]? = some t) (hd : ds[j]? = some d) : ∀ m ∈ d.weights Try.prog t, m ≤ reachBytes := by
 intro m hm
 have := List.all_eq_true.1 hsz m (DataW.weights_mem_each ht hd m hm)
 exact of_decide_eq_true this
end Go.Proofs.Ytacnjemndfmbhaa.Rd
end
