/- Plain laws: Same of any two lists; Norm; bits. -/
import Derived.Test.YtfaknblpkegekaaQx2
import Derived.Test.YtfaknblpkegekaaQx4
import Derived.Test.YtfaknblpkegekaaNat1
namespace Go.Proofs.Ytfaknblpkegekaa.Q
open Go.RowKit Go.Proofs.YtfaknblpkegekaaW.PrintWords Go.Proofs.YtfaknblpkegekaaW.PrintLast Go.Proofs.YtfaknblpkegekaaW.PrintMore
set_option linter.unusedVariables false
theorem Same_drop (x y : List Int) (hl : x.length = y.length) (hb : x.length ≤ 9223372036854775806) (k : Nat) : ∀ (d i : Nat), i + d = x.length → quipuref01_Same.l0 (k + d + 1) x y i = some (decide (x.drop i = y.drop i)) := by
  intro d
  induction d with
  | zero =>
    intro i hi
    simp only [quipuref01_Same.l0]
    rw [if_neg (by omega), List.drop_eq_nil_of_le (by omega), List.drop_eq_nil_of_le (by omega)]
    rfl
  | succ d ih =>
    intro i hi
    obtain ⟨K, hK⟩ : ∃ K, K = k + d + 1 := ⟨_, rfl⟩
    rw [show k + (d + 1) + 1 = K + 1 by omega]
    simp only [quipuref01_Same.l0]
    have w2 : wrap64 ((i : Int) + 1) = ((i + 1 : Nat) : Int) := by unfold wrap64; omega
    rw [if_pos (by omega), if_pos (by omega), if_pos (by omega), w2]
    have ex : x.drop i = rd x i :: x.drop (i + 1) := by
      rw [List.drop_eq_getElem_cons (by omega : i < x.length)]
      congr 1
      show _ = x.getD (i : Int).toNat 0
      rw [Int.toNat_natCast, List.getD_eq_getElem?_getD, List.getElem?_eq_getElem (by omega)]; rfl
    have ey : y.drop i = rd y i :: y.drop (i + 1) := by
      rw [List.drop_eq_getElem_cons (by omega : i < y.length)]
      congr 1
      show _ = y.getD (i : Int).toNat 0
      rw [Int.toNat_natCast, List.getD_eq_getElem?_getD, List.getElem?_eq_getElem (by omega)]; rfl
    by_cases c : rd x i = rd y i
    · rw [if_pos c, hK, ih (i + 1) (by omega), ex, ey, c]
      congr 1
      simp
    · rw [if_neg c, ex, ey]
      congr 1
      simp [c]
theorem Same_all (x y : List Int) (hb : x.length ≤ 9223372036854775806) (K : Nat) (hK : x.length + 1 ≤ K) : quipuref01_Same.f K x y = some (decide (x = y)) := by
  unfold quipuref01_Same.f
  by_cases c : (x.length : Int) = y.length
  · rw [if_pos c]
    have h := Same_drop x y (by omega) hb (K - x.length - 1) x.length 0 (by omega)
    rw [show K - x.length - 1 + x.length + 1 = K by omega] at h
    rw [show ((0 : Nat) : Int) = 0 from rfl] at h
    rw [h]; rfl
  · rw [if_neg c]
    congr 1
    have : x ≠ y := fun e => c (by rw [e])
    simp [this]
theorem limbs_inj {a b : Nat} (h : limbs a = limbs b) : a = b := by
  rw [← limbs_val a, ← limbs_val b, h]
theorem limbs_dec (a b : Nat) : decide (limbs a = limbs b) = decide (a = b) := by
  by_cases c : a = b
  · rw [c]; simp
  · have : limbs a ≠ limbs b := fun h => c (limbs_inj h)
    simp [c, this]
theorem trim_ge (l : List Int) (h : Lim l) (hb : l.length ≤ 9223372036854775807) (K : Nat) (hK : l.length + 1 ≤ K) : nat_trim.f K l = some (limbs (val l)) := by
  have := trim_eq l.length l rfl h hb (K - l.length - 1)
  rwa [show K - l.length - 1 + l.length + 1 = K by omega] at this
theorem Norm_ge (l : List Int) (h : Lim l) (hb : l.length ≤ 17592186044410) (K : Nat) (hK : l.length + 1 ≤ K) : nat_Norm.f K l = some (limbs (val l)) := by
  unfold nat_Norm.f
  have hl := limbs_le l h
  rw [Option.bind_some, trim_ge l h (by omega) K hK, Option.bind_some, if_pos (by simp; omega)]
  rfl
theorem cmp_ge (x y : List Int) (hx : Lim x) (hy : Lim y) (hbx : x.length ≤ 1152921504606846976) (hby : y.length ≤ 1152921504606846976) (K : Nat) (hK : x.length + y.length + 2 ≤ K) : nat_Cmp.f K x y = some (cmpN (val x) (val y)) := by
  have h := Cmp_eq x y hx hy hbx hby (K - x.length - y.length - 2)
  rwa [show K - x.length - y.length - 2 + x.length + y.length + 2 = K by omega] at h
/-- How many bits a number has. -/
def nbits (n : Nat) : Nat := if n = 0 then 0 else n.log2 + 1
theorem nbits_mono {a b : Nat} (h : a ≤ b) : nbits a ≤ nbits b := by
  unfold nbits
  by_cases ca : a = 0
  · rw [if_pos ca]; exact Nat.zero_le _
  · rw [if_neg ca, if_neg (by omega)]
    have : a.log2 ≤ b.log2 := (Nat.le_log2 (by omega)).2 (Nat.le_trans (Nat.log2_self_le ca) h)
    omega
/-- The bits of a number that is between two powers of 2. -/
theorem nbits_of (n k : Nat) (h0 : 2 ^ k ≤ n) (h1 : n < 2 ^ (k + 1)) : nbits n = k + 1 := by
  have hp := Nat.two_pow_pos k
  unfold nbits
  rw [if_neg (by omega)]
  have a := (Nat.le_log2 (show n ≠ 0 by omega)).2 h0
  have b := (Nat.log2_lt (show n ≠ 0 by omega)).2 h1
  omega
theorem nbits_in (n : Nat) (h : n ≠ 0) : ∃ k, nbits n = k + 1 ∧ 2 ^ k ≤ n ∧ n < 2 ^ (k + 1) :=
  ⟨n.log2, by unfold nbits; rw [if_neg h], Nat.log2_self_le h, Nat.lt_log2_self⟩
theorem bitLen_nbits (x : Nat) (h : x < 18446744073709551616) : Lib.bitLen x = nbits x := by
  by_cases c : x = 0
  · subst c; rfl
  · obtain ⟨k, e, h0, h1⟩ := nbits_in x c
    rw [e]
    have hk : k < 64 := by
      rcases Nat.lt_or_ge k 64 with g | g
      · exact g
      · have := Nat.pow_le_pow_right (show 0 < 2 by decide) g
        rw [show (2 : Nat) ^ 64 = 18446744073709551616 by decide] at this
        omega
    have a := Lib.bitLen_le x (k + 1) (by omega) h1
    have b := Lib.bitLen_shift k x h0 (by rw [show (2 : Nat) ^ 64 = 18446744073709551616 by decide]; exact h)
    have d : 1 ≤ Lib.bitLen (x / 2 ^ k) := by
      have hq : x / 2 ^ k ≠ 0 := by
        have := (Nat.le_div_iff_mul_le (Nat.two_pow_pos k)).2 (show 1 * 2 ^ k ≤ x by omega)
        omega
      rw [Lib.bitLen_half _ hq (by
        have := Nat.div_le_self x (2 ^ k)
        rw [show (2 : Nat) ^ 64 = 18446744073709551616 by decide]; omega)]
      omega
    omega
theorem pow_two64 (m : Nat) : 18446744073709551616 ^ m = 2 ^ (64 * m) := by
  rw [Nat.pow_mul]
theorem nbits_snoc (v y m : Nat) (hv : v < 18446744073709551616 ^ m) (hy : 0 < y) : nbits (v + 18446744073709551616 ^ m * y) = 64 * m + nbits y := by
  obtain ⟨k, e, h0, h1⟩ := nbits_in y (by omega)
  rw [pow_two64] at hv ⊢
  rw [e]
  have e1 : 2 ^ (64 * m + k) = 2 ^ (64 * m) * 2 ^ k := Nat.pow_add _ _ _
  have e2 : 2 ^ (64 * m + k + 1) = 2 ^ (64 * m) * 2 ^ (k + 1) := by rw [Nat.add_assoc]; exact Nat.pow_add _ _ _
  have := nbits_of (v + 2 ^ (64 * m) * y) (64 * m + k) (by rw [e1]; have := Nat.mul_le_mul_left (2 ^ (64 * m)) h0; omega)
    (by rw [e2]; have := Nat.mul_le_mul_left (2 ^ (64 * m)) (show y + 1 ≤ 2 ^ (k + 1) by omega); rw [Nat.mul_add] at this; omega)
  omega
/-- The top limb of a number. -/
theorem limbs_top (n : Nat) (h : n ≠ 0) : ∃ (m : List Int) (y : Int), limbs n = m ++ [y] ∧ Lim m ∧ 0 < y ∧ y < 18446744073709551616 ∧ n = val m + 18446744073709551616 ^ m.length * y.toNat := by
  have hne : limbs n ≠ [] := by intro e; have := limbs_val n; rw [e] at this; exact h this.symm
  obtain ⟨m, y, e⟩ : ∃ m y, limbs n = m ++ [y] := ⟨_, _, (List.dropLast_concat_getLast hne).symm⟩
  have hl := limbs_lim n
  rw [e] at hl
  have hm : Lim m := fun z hz => hl z (List.mem_append_left _ hz)
  have hy := hl y (by simp)
  have hp := limbs_pow n h
  have hv := limbs_val n
  rw [e, val_app, val_one] at hv
  rw [e] at hp
  simp only [List.length_append, List.length_cons, List.length_nil, Nat.add_sub_cancel, Nat.zero_add] at hp
  refine ⟨m, y, e, hm, ?_, hy.2, hv.symm⟩
  have hlt := val_lt m hm
  rcases Int.lt_or_le 0 y with g | g
  · exact g
  · exfalso
    have : y.toNat = 0 := by omega
    rw [this, Nat.mul_zero] at hv
    omega
end Go.Proofs.Ytfaknblpkegekaa.Q
