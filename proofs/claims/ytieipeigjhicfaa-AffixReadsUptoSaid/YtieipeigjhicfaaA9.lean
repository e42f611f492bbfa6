/- Plain law: AffixReads. -/
import Derived.Test.YtieipeigjhicfaaA8
import Derived.Test.YtieipeigjhicfaaRw
namespace Go.Proofs.Ytieipeigjhicfaa.A
open Go.RowKit Go.Proofs.Ytieipeigjhicfaa.Q Go.Proofs.Ytieipeigjhicfaa.R1 Go.Proofs.YtieipeigjhicfaaW.PrintWords Go.Proofs.YtieipeigjhicfaaW.PrintLast
set_option linter.unusedVariables false
theorem parse_len (a : ByteArray) : (parseT a).1.length ≤ 4 * a.size + 1 := by
  by_cases h : (parseT a).2 = 0
  · have ha : parseT a = ((parseT a).1, 0) := by rw [← h]
    obtain ⟨_, _, _, _, _, _, _, a6⟩ := parse_ok a ha
    exact a6
  · rw [parse_error a h]; exact Nat.zero_le _
theorem AffixReads_true (a : ByteArray) (hs : a.size ≤ 1048576) : ∃ l e k k2 k3, affix_Parse.f a = some (l, e) ∧ quipuref13_Parse.f k a = some (l, e) ∧ quipuref13_Same.f k2 l l = some true ∧ quipulaw13_fixed.f k3 = some true ∧ l.length < 4398046511103 := by
  have hl := parse_len a
  have hs2 := same_self (parseT a).1 (by omega) 8000000 (by omega)
  exact ⟨(parseT a).1, (parseT a).2, 30000000, 8000000, 200, affixParse_eq a hs, refParse_eq a hs 30000000 (Nat.le_refl _), hs2, fixed200, by omega⟩
end Go.Proofs.Ytieipeigjhicfaa.A
