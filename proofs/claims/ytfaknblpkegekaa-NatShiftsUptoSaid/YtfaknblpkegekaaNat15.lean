/- Plain law: NatShifts answers true. -/
import Derived.Test.YtfaknblpkegekaaNat14
import Derived.Test.YtfaknblpkegekaaAwake
namespace Go.Proofs.Ytfaknblpkegekaa.Q
open Go.RowKit Go.Proofs.YtfaknblpkegekaaW.PrintWords Go.Proofs.YtfaknblpkegekaaW.PrintLast Go.Proofs.YtfaknblpkegekaaW.PrintMore
set_option linter.unusedVariables false
theorem digs_short (v n L : Nat) (h : v < 18446744073709551616 ^ L) : (digs (v / 2 ^ n)).length ≤ 4 * L := by
  refine digs_len _ _ ?_
  rw [pow_four]
  exact Nat.lt_of_le_of_lt (Nat.div_le_self _ _) h
theorem limbs_short (v n L : Nat) (h : v < 18446744073709551616 ^ L) : (limbs (v / 2 ^ n)).length ≤ L := by
  refine limbs_len _ _ ?_
  exact Nat.lt_of_le_of_lt (Nat.div_le_self _ _) h
theorem shifted_lt (v n L M : Nat) (hM : M = 1024) (hn : n ≤ 65536) (h : v < 18446744073709551616 ^ L) : v * 2 ^ n < 18446744073709551616 ^ (L + M) := by
  have h1 : 2 ^ n ≤ 18446744073709551616 ^ M := by
    rw [pow_two64]
    exact Nat.pow_le_pow_right (by decide) (by omega)
  have hp : 0 < 18446744073709551616 ^ M := Nat.pow_pos (by decide)
  rw [Nat.pow_add]
  exact Nat.lt_of_le_of_lt (Nat.mul_le_mul_left v h1) (Nat.mul_lt_mul_of_pos_right h hp)
theorem NatShifts_true (l0 : List Int) (a1 : Int) (h0 : Lim l0) (n0 : l0.length ≤ 1048576) (hw : (Lit.int .i64 a1).wf = true) : ∃ K, quipulaw01_NatShifts.f K l0 a1 = some true := by
  have hr : -9223372036854775808 ≤ a1 ∧ a1 < 9223372036854775808 := by
    have h1 : IntKind.i64.min ≤ a1 ∧ a1 ≤ IntKind.i64.max := by simpa [Lit.wf] using hw
    have e0 : IntKind.i64.min = -9223372036854775808 := by decide
    have e1 : IntKind.i64.max = 9223372036854775807 := by decide
    omega
  obtain ⟨K, hK⟩ : ∃ K : Nat, K = 100000000 := ⟨_, rfl⟩
  refine ⟨K + 1, ?_⟩
  by_cases c0 : a1 < 0
  · have eL : nat_Shl.f l0 a1 = some ([], 12) := by
      unfold nat_Shl.f
      rw [wfs_in h0 (by omega), if_pos rfl, if_pos (.inl c0)]
    have eR : nat_Shr.f (K + 1) l0 a1 = some ([], 12) := by
      unfold nat_Shr.f
      rw [if_pos c0]
    unfold quipulaw01_NatShifts.f
    rw [eL, Option.bind_some, eR, Option.bind_some, awake_ge _ (by omega), Option.bind_some, if_pos rfl, if_pos c0, decide_eq_true c0]
    simp only [quipulaw01_NatShifts.j0]
    rw [if_pos c0]
    rfl
  · obtain ⟨n, rfl⟩ : ∃ n : Nat, a1 = n := ⟨a1.toNat, by omega⟩
    have d0 := val_digs_len l0 h0
    have eI := In_ge l0 h0 (by omega) K (by omega)
    have hv := val_lt l0 h0
    have s1 := digs_short (val l0) n l0.length hv
    have s2 := limbs_short (val l0) n l0.length hv
    have eR := Shr_ge l0 h0 (by omega) n (by omega) (K + 1) (by omega)
    have eRR := rShr_ge (val l0) (by omega) n (by omega) K (by omega)
    have eRO := Out_ge (val l0 / 2 ^ n) (by omega) K (by omega)
    have eRS := Same_ge (limbs (val l0 / 2 ^ n)) (by omega) K (by omega)
    by_cases c1 : (65536 : Int) < (n : Int)
    · have eL : nat_Shl.f l0 n = some ([], 12) := by
        unfold nat_Shl.f
        rw [wfs_in h0 (by omega), if_pos rfl, if_pos (.inr c1)]
      unfold quipulaw01_NatShifts.f
      rw [eL, Option.bind_some, eR, Option.bind_some, awake_ge _ (by omega), Option.bind_some, if_pos rfl, if_neg c0, decide_eq_true (show (n : Int) > 65536 from c1), decide_eq_false c0]
      simp only [quipulaw01_NatShifts.j0]
      rw [if_neg (by decide), if_neg (by decide), if_neg c0, if_pos c1]
      rw [eI, Option.bind_some, eRR, Option.bind_some, eRO, Option.bind_some, eRS]
      rfl
    · have hn : n ≤ 65536 := by omega
      obtain ⟨M, hM⟩ : ∃ M : Nat, M = 1024 := ⟨_, rfl⟩
      have t1 := shifted_lt (val l0) n l0.length M hM hn hv
      have t2 := limbs_len _ _ t1
      have t3 := digs_len (val l0 * 2 ^ n) (4 * (l0.length + M)) (by rw [pow_four]; exact t1)
      have f2 : (limbs (val l0 * 2 ^ n)).length ≤ 1049600 := Nat.le_trans t2 (by clear t1 t2 t3 s1 s2 d0 hv; omega)
      have f3 : (digs (val l0 * 2 ^ n)).length ≤ 4198400 := Nat.le_trans t3 (by clear t1 t2 t3 s1 s2 d0 hv f2; omega)
      clear t1 hv t2 t3
      have eL : nat_Shl.f l0 n = some (limbs (val l0 * 2 ^ n), 0) := by
        unfold nat_Shl.f
        rw [wfs_in h0 (by omega), if_pos rfl, if_neg (fun h => h.elim c0 c1), Int.toNat_natCast]
      have eLL := rShl_ge (val l0) n hn (by clear f2 f3 s1 s2; omega) K (by clear f2 f3 s1 s2; omega)
      have eLO := Out_ge (val l0 * 2 ^ n) (Nat.le_trans f3 (by decide)) K (by rw [hK]; exact Nat.le_trans (Nat.add_le_add_right f3 1) (by decide))
      have eLS := Same_ge (limbs (val l0 * 2 ^ n)) (Nat.le_trans f2 (by decide)) K (by rw [hK]; exact Nat.le_trans (Nat.add_le_add_right f2 1) (by decide))
      clear f2 f3 s1 s2
      unfold quipulaw01_NatShifts.f
      rw [eL, Option.bind_some, eR, Option.bind_some, awake_ge _ (by omega), Option.bind_some, if_pos rfl, if_neg c0, decide_eq_false (show ¬ (n : Int) > 65536 from c1), decide_eq_false c0]
      simp only [quipulaw01_NatShifts.j0]
      rw [if_neg (by decide), if_neg (by decide), if_neg c0, if_neg c1]
      rw [eI, Option.bind_some, eLL, Option.bind_some, eLO, Option.bind_some, eLS, Option.bind_some, if_pos rfl, Option.bind_some, eRR, Option.bind_some, eRO, Option.bind_some, eRS]
      rfl
end Go.Proofs.Ytfaknblpkegekaa.Q
