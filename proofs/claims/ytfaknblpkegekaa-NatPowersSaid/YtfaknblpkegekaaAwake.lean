/- Plain law: awake tells true (its pure function is closed: reckoned by the kernel). -/
import Derived.Test.YtfaknblpkegekaaQx5
namespace Go.Proofs.Ytfaknblpkegekaa.Q
open Go.RowKit Go.Proofs.YtfaknblpkegekaaW.PrintWords Go.Proofs.YtfaknblpkegekaaW.PrintLast Go.Proofs.YtfaknblpkegekaaW.PrintMore
set_option maxRecDepth 100000 in
theorem awake60 : quipulaw01_awake.f 60 = some true := by decide +kernel
theorem awake_more (k : Nat) : quipulaw01_awake.f (60 + k) = some true := by
  induction k with
  | zero => exact awake60
  | succ k ih => exact (quipulaw01_awake.mono (60 + k)) _ ih
theorem awake_ge (K : Nat) (h : 60 ≤ K) : quipulaw01_awake.f K = some true := by
  have := awake_more (K - 60)
  rwa [show 60 + (K - 60) = K by omega] at this
end Go.Proofs.Ytfaknblpkegekaa.Q
