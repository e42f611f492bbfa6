/- Plain law of NatPowers, in the shape that the print asks. -/
import Derived.Test.YtfaknblpkegekaaQx12
import Derived.Test.YtfaknblpkegekaaNat22
namespace Go.Proofs.Ytfaknblpkegekaa.Pure
open Go.RowKit Go.Proofs.Ytfaknblpkegekaa.Q Go.Proofs.YtfaknblpkegekaaW.PrintWords Go.Proofs.YtfaknblpkegekaaW.PrintLast
theorem lim_of {l : List Int} (h : ∀ x ∈ l, (Lit.int .u64 x).wf = true) : Lim l := fun x hx => by
  have := h x hx
  have h1 : IntKind.u64.min ≤ x ∧ x ≤ IntKind.u64.max := by simpa [Lit.wf] using this
  have e0 : IntKind.u64.min = 0 := rfl
  have e1 : IntKind.u64.max = 18446744073709551615 := by decide
  omega
theorem NatPowers : quipulaw01_NatPowers.Pure := by
  intro a b n _ la ha _ lb hb _
  exact NatPowers_true a b n (lim_of ha) (lim_of hb) (by omega) (by omega)
end Go.Proofs.Ytfaknblpkegekaa.Pure
