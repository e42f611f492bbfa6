/- Plain law: fixed tells true. -/
import Derived.Test.YtieipeigjhicfaaA4
namespace Go.Proofs.Ytieipeigjhicfaa.A
open Go.RowKit Go.Proofs.Ytieipeigjhicfaa.Q Go.Proofs.Ytieipeigjhicfaa.R1 Go.Proofs.YtieipeigjhicfaaW.PrintWords Go.Proofs.YtieipeigjhicfaaW.PrintLast
set_option linter.unusedVariables false
set_option maxRecDepth 100000 in
theorem fixed200 : quipulaw13_fixed.f 200 = some true := by decide +kernel
theorem fixed_ge (K : Nat) (h : 200 ≤ K) : quipulaw13_fixed.f K = some true := more (fun k => quipulaw13_fixed.mono k) h fixed200
end Go.Proofs.Ytieipeigjhicfaa.A
