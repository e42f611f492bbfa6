/- Plain law: NatAdds answers true. -/
import Derived.Test.YtfaknblpkegekaaQx8
import Derived.Test.YtfaknblpkegekaaAwake
import Derived.Test.YtfaknblpkegekaaNat5
import Derived.Test.YtfaknblpkegekaaNat6
namespace Go.Proofs.Ytfaknblpkegekaa.Q
open Go.RowKit Go.Proofs.YtfaknblpkegekaaW.PrintWords Go.Proofs.YtfaknblpkegekaaW.PrintLast Go.Proofs.YtfaknblpkegekaaW.PrintMore
set_option linter.unusedVariables false
theorem digs_len (n L : Nat) (h : n < 65536 ^ L) : (digs n).length ≤ L := by
  by_cases c : n = 0
  · subst c; rw [digs_zero]; simp
  · have h1 := digs_pow n c
    rcases Nat.lt_or_ge L (digs n).length with h2 | h2
    · exfalso
      have h3 : (65536 : Nat) ^ L ≤ 65536 ^ ((digs n).length - 1) := Nat.pow_le_pow_right (by decide) (by omega)
      omega
    · exact h2
theorem limbs_len (n L : Nat) (h : n < 18446744073709551616 ^ L) : (limbs n).length ≤ L := by
  by_cases c : n = 0
  · subst c; rw [limbs_zero]; simp
  · have h1 := limbs_pow n c
    rcases Nat.lt_or_ge L (limbs n).length with h2 | h2
    · exfalso
      have h3 : (18446744073709551616 : Nat) ^ L ≤ 18446744073709551616 ^ ((limbs n).length - 1) := Nat.pow_le_pow_right (by decide) (by omega)
      omega
    · exact h2
theorem val_digs_len (l : List Int) (h : Lim l) : (digs (val l)).length ≤ 4 * l.length := digs_len _ _ (by rw [pow_four]; exact val_lt l h)
theorem In_ge (l : List Int) (hl : Lim l) (hb : l.length ≤ 1099511627776) (K : Nat) (hK : 10 * l.length + 2 ≤ K) : quipuref01_In.f K l = some (digs (val l)) := by
  have h := In_eq l hl hb (K - 10 * l.length - 2)
  rwa [show K - 10 * l.length - 2 + 10 * l.length + 2 = K by omega] at h
theorem Same_ge (l : List Int) (hb : l.length ≤ 9223372036854775806) (K : Nat) (hK : l.length + 1 ≤ K) : quipuref01_Same.f K l l = some true := by
  have h := Same_refl l hb (K - l.length - 1)
  rwa [show K - l.length - 1 + l.length + 1 = K by omega] at h
theorem Out_ge (n : Nat) (hb : (digs n).length ≤ 8796093022208) (K : Nat) (hK : (digs n).length + 1 ≤ K) : quipuref01_Out.f K (digs n) = some (limbs n) := by
  have h := Out_eq (digs n) (digs_lim n) hb (K - (digs n).length - 1)
  rwa [show K - (digs n).length - 1 + (digs n).length + 1 = K by omega, digs_dval] at h
theorem Cmp_ge (x y : List Int) (hx : Lim x) (hy : Lim y) (hbx : x.length ≤ 1152921504606846976) (hby : y.length ≤ 1152921504606846976) (K : Nat) (hK : x.length + y.length + 2 ≤ K) : nat_Cmp.f K x y = some (cmpN (val x) (val y)) := by
  have h := Cmp_eq x y hx hy hbx hby (K - x.length - y.length - 2)
  rwa [show K - x.length - y.length - 2 + x.length + y.length + 2 = K by omega] at h
theorem rCmp_ge (a b : Nat) (hbx : (digs a).length ≤ 8796093022208) (hby : (digs b).length ≤ 8796093022208) (K : Nat) (hK : (digs a).length + (digs b).length + 2 ≤ K) : quipuref01_Cmp.f K (digs a) (digs b) = some (cmpN a b) := by
  have h := rCmp_eq (digs a) (digs b) (digs_lim a) (digs_lim b) hbx hby (K - (digs a).length - (digs b).length - 2)
  rwa [show K - (digs a).length - (digs b).length - 2 + (digs a).length + (digs b).length + 2 = K by omega, digs_dval, digs_dval] at h
theorem NatAdds_true (l0 l1 : List Int) (h0 : Lim l0) (h1 : Lim l1) (n0 : l0.length ≤ 1048576) (n1 : l1.length ≤ 1048576) : ∃ K, quipulaw01_NatAdds.f K l0 l1 = some true := by
  obtain ⟨K, hK⟩ : ∃ K : Nat, K = 100000000 := ⟨_, rfl⟩
  refine ⟨K + 1, ?_⟩
  have d0 := val_digs_len l0 h0
  have d1 := val_digs_len l1 h1
  have b0 := val_lt l0 h0
  have b1 := val_lt l1 h1
  obtain ⟨M, hM⟩ : ∃ M : Nat, M = 1048576 := ⟨_, rfl⟩
  have p0 : (18446744073709551616 : Nat) ^ l0.length ≤ 18446744073709551616 ^ M := pow_le_of (by omega)
  have p1 : (18446744073709551616 : Nat) ^ l1.length ≤ 18446744073709551616 ^ M := pow_le_of (by omega)
  have hsum : val l0 + val l1 < 18446744073709551616 ^ (M + 1) := by
    rw [Nat.pow_succ]
    generalize (18446744073709551616 : Nat) ^ M = P at *
    omega
  have hsl := limbs_len _ _ hsum
  have hsd := digs_len (val l0 + val l1) (4 * (M + 1)) (by rw [pow_four]; exact hsum)
  have eS : nat_Sub.f l0 l1 = (if val l0 < val l1 then some ([], 10) else some (limbs (val l0 - val l1), 0)) := by
    unfold nat_Sub.f
    rw [wfl_in h0 (by omega), wfl_in h1 (by omega)]; rfl
  have eA : nat_Add.f l0 l1 = some (limbs (val l0 + val l1)) := by
    unfold nat_Add.f
    rw [wfl_in h0 (by omega), wfl_in h1 (by omega)]; rfl
  have eR : quipuref01_Add.f (digs (val l0)) (digs (val l1)) = some (digs (val l0 + val l1)) := by
    unfold quipuref01_Add.f
    rw [wfd_in (digs_lim _) (by omega), wfd_in (digs_lim _) (by omega), digs_dval, digs_dval]; rfl
  have eI0 := In_ge l0 h0 (by omega) (K + 1) (by omega)
  have eI1 := In_ge l1 h1 (by omega) (K + 1) (by omega)
  have eO := Out_ge (val l0 + val l1) (by omega) (K + 1) (by omega)
  have eM := Same_ge (limbs (val l0 + val l1)) (by omega) (K + 1) (by omega)
  have eC := Cmp_ge l0 l1 h0 h1 (by omega) (by omega) (K + 1) (by omega)
  have eD := rCmp_ge (val l0) (val l1) (by omega) (by omega) (K + 1) (by omega)
  have eE : quipuref01_SubErr.f (K + 1) l0 l1 = some (if val l0 < val l1 then 10 else 0) := by
    unfold quipuref01_SubErr.f
    rw [eI0, eI1, Option.bind_some, Option.bind_some, eD, Option.bind_some]
    unfold cmpN
    by_cases c : val l0 < val l1
    · rw [if_pos c, if_pos c]; rfl
    · rw [if_neg c, if_neg c]
      by_cases c2 : val l1 < val l0
      · rw [if_pos c2]; rfl
      · rw [if_neg c2]; rfl
  unfold quipulaw01_NatAdds.f
  rw [eI0, Option.bind_some, eI1, Option.bind_some, eS]
  by_cases c : val l0 < val l1
  · rw [if_pos c, Option.bind_some]
    rw [if_pos c] at eE
    rw [awake_ge (K + 1) (by omega), Option.bind_some, if_pos rfl, eA, Option.bind_some, eR, Option.bind_some, eO, Option.bind_some, eM, Option.bind_some, if_pos rfl, eC, Option.bind_some, eD, Option.bind_some, if_pos rfl, eE, Option.bind_some]
    simp only [quipulaw01_NatAdds.j0]
    rfl
  · rw [if_neg c, Option.bind_some]
    rw [if_neg c] at eE
    rw [awake_ge (K + 1) (by omega), Option.bind_some, if_pos rfl, eA, Option.bind_some, eR, Option.bind_some, eO, Option.bind_some, eM, Option.bind_some, if_pos rfl, eC, Option.bind_some, eD, Option.bind_some, if_pos rfl, eE, Option.bind_some]
    have hdl : (digs (val l1)).length ≤ (digs (val l0)).length := by
      rcases Nat.lt_or_ge (digs (val l0)).length (digs (val l1)).length with h | h
      · exact absurd (digs_len_lt h) c
      · exact h
    have eB : quipuref01_Sub.f (digs (val l0)) (digs (val l1)) = some (digs (val l0 - val l1)) := by
      unfold quipuref01_Sub.f
      rw [wfd_in (digs_lim _) (by omega), wfd_in (digs_lim _) (by omega), digs_dval, digs_dval, decide_eq_true (show val l1 ≤ val l0 by omega), decide_eq_true hdl]; rfl
    have hdif : val l0 - val l1 < 18446744073709551616 ^ (M + 1) := by omega
    have hdl1 := limbs_len _ _ hdif
    have hdd := digs_len (val l0 - val l1) (4 * (M + 1)) (by rw [pow_four]; exact hdif)
    have eO2 := Out_ge (val l0 - val l1) (by omega) K (by omega)
    have eM2 := Same_ge (limbs (val l0 - val l1)) (by omega) K (by omega)
    simp only [quipulaw01_NatAdds.j0]
    rw [if_neg (by decide), if_pos trivial, eB, Option.bind_some, eO2, Option.bind_some, eM2]
    rfl
end Go.Proofs.Ytfaknblpkegekaa.Q
