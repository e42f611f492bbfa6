/- Plain law: the calls whose answers the document fixes are answered so. -/
import Derived.Test.YtfhlnmgaammofaaQx5
import Derived.Test.YtfhlnmgaammofaaR1
namespace Go.Proofs.Ytfhlnmgaammofaa.R1
open Go.RowKit Go.Proofs.Ytfhlnmgaammofaa.Q Go.Proofs.YtfhlnmgaammofaaW.PrintWords Go.Proofs.YtfhlnmgaammofaaW.PrintLast
theorem fixed40 : quipulaw11_fixed.f 40 = some true := by decide +kernel
theorem fixed_ev (k : Nat) (hk : 40 ≤ k) : quipulaw11_fixed.f k = some true := more (fun k => quipulaw11_fixed.mono k) hk fixed40
end Go.Proofs.Ytfhlnmgaammofaa.R1
