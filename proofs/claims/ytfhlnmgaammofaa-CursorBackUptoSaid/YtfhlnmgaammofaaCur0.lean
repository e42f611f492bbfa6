/- Plain words for the cursor's reads: the number that so many bytes of a text are, the highest first. -/
import Derived.Test.YtfhlnmgaammofaaWWords
namespace Go.Proofs.Ytfhlnmgaammofaa.Q
open Go.Proofs.YtfhlnmgaammofaaW.PrintWords
/-- The number that n bytes of s are, from a place on, the highest first. -/
def beNum (s : ByteArray) (at0 : Int) : Nat → Int
  | 0 => 0
  | n + 1 => beNum s at0 n * 256 + bt s (at0 + n)
end Go.Proofs.Ytfhlnmgaammofaa.Q
