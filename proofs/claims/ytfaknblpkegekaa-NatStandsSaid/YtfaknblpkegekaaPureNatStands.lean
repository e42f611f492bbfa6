/- Plain law of NatStands, in the shape that the print asks. -/
import Derived.Test.YtfaknblpkegekaaQx14
import Derived.Test.YtfaknblpkegekaaNat9
namespace Go.Proofs.Ytfaknblpkegekaa.Pure
open Go.RowKit Go.Proofs.Ytfaknblpkegekaa.Q Go.Proofs.YtfaknblpkegekaaW.PrintWords Go.Proofs.YtfaknblpkegekaaW.PrintLast
theorem lim_of {l : List Int} (h : ∀ x ∈ l, (Lit.int .u64 x).wf = true) : Lim l := fun x hx => by
  have := h x hx
  have h1 : IntKind.u64.min ≤ x ∧ x ≤ IntKind.u64.max := by simpa [Lit.wf] using this
  have e0 : IntKind.u64.min = 0 := rfl
  have e1 : IntKind.u64.max = 18446744073709551615 := by decide
  omega
theorem NatStands : quipulaw01_NatStands.Pure := by
  intro a b c _ la ha _ lb hb _ lc hc
  exact NatStands_true a b c (lim_of ha) (lim_of hb) (lim_of hc) (by omega) (by omega) (by omega)
end Go.Proofs.Ytfaknblpkegekaa.Pure
