/- Plain law: what Bits answers. -/
import Derived.Test.YtfaknblpkegekaaQx4
import Derived.Test.YtfaknblpkegekaaNat8
namespace Go.Proofs.Ytfaknblpkegekaa.Q
open Go.RowKit Go.Proofs.YtfaknblpkegekaaW.PrintWords Go.Proofs.YtfaknblpkegekaaW.PrintLast Go.Proofs.YtfaknblpkegekaaW.PrintMore
set_option linter.unusedVariables false
theorem Bits_ge (l : List Int) (h : Lim l) (hb : l.length ≤ 70368744177664) (K : Nat) (hK : l.length + 1 ≤ K) : nat_Bits.f K l = some (nbits (val l) : Int) := by
  unfold nat_Bits.f
  have hl := limbs_le l h
  rw [trim_ge l h (by omega) K hK, Option.bind_some]
  by_cases c : val l = 0
  · rw [c]; rfl
  · obtain ⟨m, y, e, hm, hy0, hy1, hn⟩ := limbs_top (val l) c
    rw [e] at hl ⊢
    have hlen : (m ++ [y]).length = m.length + 1 := by simp
    rw [hlen] at hl
    rw [hlen, if_neg (by omega)]
    have w1 : wrap64 (((m.length + 1 : Nat) : Int) - 1) = (m.length : Int) := by unfold wrap64; omega
    rw [w1, if_pos (by omega), if_pos (by omega)]
    have er : rd (m ++ [y]) (m.length : Int) = y := by
      show (m ++ [y]).getD (m.length : Int).toNat 0 = y
      simp
    rw [er]
    unfold bits_Len64.f
    rw [if_pos (by omega), Option.bind_some]
    have w2 : wrap64 (64 * (m.length : Int)) = ((64 * m.length : Nat) : Int) := by unfold wrap64; omega
    have hb2 : Lib.bitLen y.toNat ≤ 64 := Lib.bitLen_le _ 64 (by decide) (by rw [show (2 : Nat) ^ 64 = 18446744073709551616 by decide]; omega)
    rw [w2, hn, nbits_snoc _ _ _ (val_lt m hm) (by omega), ← bitLen_nbits _ (by omega)]
    congr 1
    unfold wrap64
    omega
end Go.Proofs.Ytfaknblpkegekaa.Q
