-- PRINTED BY print.sh 35421559b90ae4d0a3588c463048766b98c2df88dd9212a6774a882060cdf62d: not written by this session
import Derived.Test.YtieipeigjhicfaaWInv
import Derived.Test.YtieipeigjhicfaaWFootNe
namespace Go.Proofs.YtieipeigjhicfaaW.PrintWords
open Go.RowKit
end Go.Proofs.YtieipeigjhicfaaW.PrintWords
namespace Go.Proofs.YtieipeigjhicfaaW.PrintLast
section
variable {ops : Array Oper} {a : Act} {o og : Oper} {g : Nat} {t : Tmp} {u : Bool}
end
end Go.Proofs.YtieipeigjhicfaaW.PrintLast
