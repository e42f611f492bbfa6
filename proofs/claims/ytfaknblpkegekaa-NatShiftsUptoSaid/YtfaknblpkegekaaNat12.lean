/- Plain laws: In, Same, Out with any number of rounds above a bound. -/
import Derived.Test.YtfaknblpkegekaaNat4
import Derived.Test.YtfaknblpkegekaaNat6
namespace Go.Proofs.Ytfaknblpkegekaa.Q
open Go.RowKit Go.Proofs.YtfaknblpkegekaaW.PrintWords Go.Proofs.YtfaknblpkegekaaW.PrintLast Go.Proofs.YtfaknblpkegekaaW.PrintMore
set_option linter.unusedVariables false
theorem digs_len (n L : Nat) (h : n < 65536 ^ L) : (digs n).length ≤ L := by
  by_cases c : n = 0
  · subst c; rw [digs_zero]; simp
  · have h1 := digs_pow n c
    rcases Nat.lt_or_ge L (digs n).length with h2 | h2
    · exfalso
      have h3 : (65536 : Nat) ^ L ≤ 65536 ^ ((digs n).length - 1) := Nat.pow_le_pow_right (by decide) (by omega)
      omega
    · exact h2
theorem limbs_len (n L : Nat) (h : n < 18446744073709551616 ^ L) : (limbs n).length ≤ L := by
  by_cases c : n = 0
  · subst c; rw [limbs_zero]; simp
  · have h1 := limbs_pow n c
    rcases Nat.lt_or_ge L (limbs n).length with h2 | h2
    · exfalso
      have h3 : (18446744073709551616 : Nat) ^ L ≤ 18446744073709551616 ^ ((limbs n).length - 1) := Nat.pow_le_pow_right (by decide) (by omega)
      omega
    · exact h2
theorem val_digs_len (l : List Int) (h : Lim l) : (digs (val l)).length ≤ 4 * l.length := digs_len _ _ (by rw [pow_four]; exact val_lt l h)
theorem In_ge (l : List Int) (hl : Lim l) (hb : l.length ≤ 1099511627776) (K : Nat) (hK : 10 * l.length + 2 ≤ K) : quipuref01_In.f K l = some (digs (val l)) := by
  have h := In_eq l hl hb (K - 10 * l.length - 2)
  rwa [show K - 10 * l.length - 2 + 10 * l.length + 2 = K by omega] at h
theorem Same_ge (l : List Int) (hb : l.length ≤ 9223372036854775806) (K : Nat) (hK : l.length + 1 ≤ K) : quipuref01_Same.f K l l = some true := by
  have h := Same_refl l hb (K - l.length - 1)
  rwa [show K - l.length - 1 + l.length + 1 = K by omega] at h
theorem Out_ge (n : Nat) (hb : (digs n).length ≤ 8796093022208) (K : Nat) (hK : (digs n).length + 1 ≤ K) : quipuref01_Out.f K (digs n) = some (limbs n) := by
  have h := Out_eq (digs n) (digs_lim n) hb (K - (digs n).length - 1)
  rwa [show K - (digs n).length - 1 + (digs n).length + 1 = K by omega, digs_dval] at h
end Go.Proofs.Ytfaknblpkegekaa.Q
