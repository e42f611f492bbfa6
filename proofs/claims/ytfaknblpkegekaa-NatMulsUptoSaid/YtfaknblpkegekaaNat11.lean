/- Plain law: NatMuls answers true. -/
import Derived.Test.YtfaknblpkegekaaQx9
import Derived.Test.YtfaknblpkegekaaNat10
import Derived.Test.YtfaknblpkegekaaNat12
import Derived.Test.YtfaknblpkegekaaAwake
namespace Go.Proofs.Ytfaknblpkegekaa.Q
open Go.RowKit Go.Proofs.YtfaknblpkegekaaW.PrintWords Go.Proofs.YtfaknblpkegekaaW.PrintLast Go.Proofs.YtfaknblpkegekaaW.PrintMore
set_option linter.unusedVariables false
theorem mul_lt (a b : List Int) (ha : Lim a) (hb : Lim b) : val a * val b < 18446744073709551616 ^ (a.length + b.length) := by
  rw [Nat.pow_add]
  exact Nat.mul_lt_mul'' (val_lt a ha) (val_lt b hb)
theorem NatMuls_true (l0 l1 : List Int) (h0 : Lim l0) (h1 : Lim l1) (n0 : l0.length ≤ 1048576) (n1 : l1.length ≤ 1048576) : ∃ K, quipulaw01_NatMuls.f K l0 l1 = some true := by
  obtain ⟨K, hK⟩ : ∃ K : Nat, K = 100000000000000 := ⟨_, rfl⟩
  refine ⟨K, ?_⟩
  have d0 := val_digs_len l0 h0
  have d1 := val_digs_len l1 h1
  have hp := mul_lt l0 l1 h0 h1
  have hsl := limbs_len _ _ hp
  have hsd := digs_len (val l0 * val l1) (4 * (l0.length + l1.length)) (by rw [pow_four]; exact hp)
  clear hp
  have m0 : l0.length * (l1.length + 2) ≤ 1048576 * 1048578 := Nat.mul_le_mul n0 (by omega)
  have m1 : (digs (val l0)).length * ((digs (val l1)).length + 2) ≤ 4194304 * 4194306 := Nat.mul_le_mul (by omega) (by omega)
  have eM := Mul_ge l0 l1 h0 h1 (by omega) K (by omega)
  have eI0 := In_ge l0 h0 (by omega) K (by omega)
  have eI1 := In_ge l1 h1 (by omega) K (by omega)
  have eR := rMul_ge (digs (val l0)) (digs (val l1)) (digs_lim _) (digs_lim _) (by omega) K (by omega)
  rw [digs_dval, digs_dval] at eR
  have eO := Out_ge (val l0 * val l1) (by omega) K (by omega)
  have eS := Same_ge (limbs (val l0 * val l1)) (by omega) K (by omega)
  unfold quipulaw01_NatMuls.f
  rw [awake_ge K (by omega), Option.bind_some, if_pos rfl, eM, Option.bind_some, eI0, Option.bind_some, eI1, Option.bind_some, eR, Option.bind_some, eO, Option.bind_some, eS]
  rfl
end Go.Proofs.Ytfaknblpkegekaa.Q
