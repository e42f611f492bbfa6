/- Plain law: NatPowers answers true. -/
import Derived.Test.YtfaknblpkegekaaQx12
import Derived.Test.YtfaknblpkegekaaNat16
import Derived.Test.YtfaknblpkegekaaNat17
import Derived.Test.YtfaknblpkegekaaNat18
import Derived.Test.YtfaknblpkegekaaDp
import Derived.Test.YtfaknblpkegekaaAwake
namespace Go.Proofs.Ytfaknblpkegekaa.Q
open Go.RowKit Go.Proofs.YtfaknblpkegekaaW.PrintWords Go.Proofs.YtfaknblpkegekaaW.PrintLast Go.Proofs.YtfaknblpkegekaaW.PrintMore
set_option linter.unusedVariables false
theorem Shl_is (l : List Int) (h : Lim l) (hb : l.length ≤ 17592186043904) (n : Nat) (hn : n ≤ 65536) : nat_Shl.f l (n : Int) = some (limbs (val l * 2 ^ n), 0) := by
  unfold nat_Shl.f
  rw [wfs_in h hb, if_pos rfl, if_neg (by omega), Int.toNat_natCast]
theorem shl_long (v n L : Nat) (h : v < 18446744073709551616 ^ L) : (limbs (v * 2 ^ n)).length ≤ L + n / 64 + 1 := by
  refine limbs_lt _ _ ?_
  have h1 : 2 ^ n ≤ 18446744073709551616 ^ (n / 64 + 1) := by
    rw [pow_two64]
    exact Nat.pow_le_pow_right (by decide) (by omega)
  rw [Nat.add_assoc, Nat.pow_add]
  exact Nat.lt_of_le_of_lt (Nat.mul_le_mul_left v h1) (Nat.mul_lt_mul_of_pos_right h (Nat.pow_pos (by decide)))
theorem mul_long (a b : List Int) (ha : Lim a) (hb : Lim b) : (limbs (val a * val b)).length ≤ a.length + b.length := by
  refine limbs_lt _ _ ?_
  rw [Nat.pow_add]
  exact Nat.mul_lt_mul'' (val_lt a ha) (val_lt b hb)
theorem nbits_mul (x y : Nat) (hx : x ≠ 0) (hy : y ≠ 0) : nbits (x * y) = nbits x + nbits y ∨ nbits (x * y) + 1 = nbits x + nbits y := by
  obtain ⟨i, ei, hi0, hi1⟩ := nbits_in x hx
  obtain ⟨j, ej, hj0, hj1⟩ := nbits_in y hy
  have h0 : 2 ^ (i + j) ≤ x * y := by rw [Nat.pow_add]; exact Nat.mul_le_mul hi0 hj0
  have h1 : x * y < 2 ^ (i + j + 1 + 1) := by
    have := Nat.mul_lt_mul'' hi1 hj1
    rwa [← Nat.pow_add, show i + 1 + (j + 1) = i + j + 1 + 1 by omega] at this
  rcases Nat.lt_or_ge (x * y) (2 ^ (i + j + 1)) with c | c
  · right; rw [nbits_of _ _ h0 c]; omega
  · left; rw [nbits_of _ _ c h1]; omega
theorem nbits_pow (n : Nat) : nbits (2 ^ n) = n + 1 :=
  nbits_of _ _ (Nat.le_refl _) (Nat.pow_lt_pow_right (by decide) (by omega))
theorem nbits_long (l : List Int) (h : Lim l) : nbits (val l) ≤ 64 * l.length := by
  by_cases c : val l = 0
  · rw [c]; exact Nat.zero_le _
  · obtain ⟨k, e, h0, h1⟩ := nbits_in _ c
    have hv := val_lt l h
    rw [pow_two64] at hv
    have : k < 64 * l.length := (Nat.pow_lt_pow_iff_right (by decide)).1 (Nat.lt_of_le_of_lt h0 hv)
    omega
theorem mul_rounds (p q L M K : Nat) (hp : p ≤ L) (hq : q ≤ L) (hM : L * (L + 2) + L + L + 2 ≤ M) (hK : M ≤ K) : p * (q + 2) + p + q + 2 ≤ K := by
  have h : p * (q + 2) ≤ L * (L + 2) := Nat.mul_le_mul hp (by omega)
  generalize p * (q + 2) = x at h ⊢
  generalize L * (L + 2) = y at h hM
  omega
theorem bits_sum (x y z : Nat) (hx : x ≤ 4611686018427387904) (hy : y ≤ 4611686018427387903) (h0 : 0 < x) (h1 : 0 < y) (h : z = x + y ∨ z + 1 = x + y) :
    (if (x : Int) = 0 then some ((z : Int) == 0) else (if (y : Int) = 0 then some ((z : Int) == 0) else (if (z : Int) = wrap64 ((x : Int) + y) then some true else some ((z : Int) == wrap64 (wrap64 ((x : Int) + y) - 1))))) = some true := by
  have hw : wrap64 ((x : Int) + y) = (x : Int) + y := by unfold wrap64; omega
  have hw2 : wrap64 ((x : Int) + y - 1) = (x : Int) + y - 1 := by unfold wrap64; omega
  rw [hw, hw2, if_neg (by omega), if_neg (by omega)]
  rcases h with h | h
  · rw [if_pos (by omega)]
  · rw [if_neg (by omega)]
    congr 1
    rw [beq_iff_eq]
    omega
theorem powers_j2 (M K : Nat) (hM : 17592186043904 * (17592186043904 + 2) + 17592186043904 + 17592186043904 + 2 ≤ M) (hM2 : 100000000000000 ≤ M) (hK : M ≤ K) (a b : List Int) (ha : Lim a) (hb : Lim b) (la : a.length ≤ 17592186043904) (lb : b.length ≤ 17592186043904) : quipulaw01_NatPowers.j2 (K + 1) a b false = some true := by
  have hm := mul_long a b ha hb
  have na := nbits_long a ha
  have nb := nbits_long b hb
  have hr := mul_rounds _ _ _ _ _ la lb hM hK
  have e1 := Mul_ge a b ha hb (by clear hr hM na nb; omega) K hr
  clear hr hM
  have e2 := Bits_ge a ha (by omega) K (by omega)
  have e3 := Bits_ge b hb (by omega) K (by omega)
  have e4 := Bits_ge _ (limbs_lim (val a * val b)) (by omega) K (by omega)
  rw [limbs_val] at e4
  simp only [quipulaw01_NatPowers.j2]
  rw [if_neg (by decide), e2, Option.bind_some, e3, Option.bind_some, e1, Option.bind_some, e4, Option.bind_some]
  by_cases c0 : val a = 0
  · rw [c0, Nat.zero_mul]; rfl
  by_cases c1 : val b = 0
  · rw [c1, Nat.mul_zero]
    split
    · rfl
    · rfl
  obtain ⟨i, ei, _, _⟩ := nbits_in _ c0
  obtain ⟨j, ej, _, _⟩ := nbits_in _ c1
  have hn := nbits_mul _ _ c0 c1
  exact bits_sum _ _ _ (by clear hn e1 e2 e3 e4; omega) (by clear hn e1 e2 e3 e4; omega) (by clear hn e1 e2 e3 e4; omega) (by clear hn e1 e2 e3 e4; omega) (hn.imp id id)
theorem powers_j1 (M K : Nat) (hM : 17592186043904 * (17592186043904 + 2) + 17592186043904 + 17592186043904 + 2 ≤ M) (hM2 : 100000000000000 ≤ M) (hK : M ≤ K) (a b : List Int) (ha : Lim a) (hb : Lim b) (la : a.length ≤ 17592186043904) (lb : b.length ≤ 17592186043904) (n : Nat) (hn : n ≤ 65536) :
    quipulaw01_NatPowers.j1 (K + 1 + 1) a b (n : Int) (limbs (2 ^ n)) false = some true := by
  have lp : (limbs (2 ^ n)).length ≤ 1026 := by
    have := shl_long 1 n 1 (by decide)
    rw [Nat.one_mul] at this; omega
  have hq : (limbs (val a / 2 ^ n)).length ≤ a.length := limbs_lt _ _ (Nat.lt_of_le_of_lt (Nat.div_le_self _ _) (val_lt a ha))
  have hp : (2 : Nat) ^ n ≠ 0 := Nat.ne_of_gt (Nat.two_pow_pos n)
  have hd : nat_DivMod.f a (limbs (2 ^ n)) = some (limbs (val a / 2 ^ n), limbs (val a % 2 ^ n), 0) := by
    unfold nat_DivMod.f
    rw [wfs_in ha la, wfs_in (limbs_lim _) (by omega), limbs_val, if_neg hp]
    rfl
  have e1 := Shr_ge a ha (by clear hM; omega) n (by clear hM; omega) (K + 1) (by clear hM; omega)
  have e2 := Same_all (limbs (val a / 2 ^ n)) (limbs (val a / 2 ^ n)) (by clear hM; omega) (K + 1) (by clear hM; omega)
  simp only [quipulaw01_NatPowers.j1]
  rw [if_neg (by decide), e1, Option.bind_some, hd, Option.bind_some]
  simp only
  rw [if_pos trivial, if_pos trivial, e2, decide_eq_true rfl, Option.bind_some]
  exact powers_j2 M K hM hM2 hK a b ha hb la lb
theorem powers_j0 (M K : Nat) (hM : 17592186043904 * (17592186043904 + 2) + 17592186043904 + 17592186043904 + 2 ≤ M) (hM2 : 100000000000000 ≤ M) (hK : M ≤ K) (a b : List Int) (ha : Lim a) (hb : Lim b) (la : a.length ≤ 17592186043904) (lb : b.length ≤ 17592186043904) (n : Nat) (hn : n ≤ 65536) :
    quipulaw01_NatPowers.j0 (K + 1 + 1 + 1) a b (n : Int) false = some true := by
  have l1 : Lim [1] := Lim.one (by decide) (by decide)
  have lp : (limbs (2 ^ n)).length ≤ 1026 := by
    have := shl_long 1 n 1 (by decide)
    rw [Nat.one_mul] at this; omega
  have v1 : val [1] = 1 := by decide
  have e1 := Shl_is [1] l1 (by decide) n hn
  rw [v1, Nat.one_mul] at e1
  have e2 := Shl_is a ha la n hn
  have ls := shl_long (val a) n a.length (val_lt a ha)
  have e3 := Shr_off (limbs (val a * 2 ^ n)) (limbs_lim _) (by clear hM; omega) n (by clear hM; omega) (by clear hM; omega) (K + 1 + 1) (by clear hM; omega)
  rw [limbs_val, Nat.mul_div_cancel _ (Nat.two_pow_pos n)] at e3
  have hr := mul_rounds a.length (limbs (2 ^ n)).length _ _ (K + 1 + 1) la (by clear hM; omega) hM (by clear hM; omega)
  have hj := powers_j1 M K hM hM2 hK a b ha hb la lb n hn
  clear hM
  have e4 := Mul_ge a (limbs (2 ^ n)) ha (limbs_lim _) (by clear hr; omega) (K + 1 + 1) hr
  clear hr
  rw [limbs_val] at e4
  have e5 := Same_all (limbs (val a * 2 ^ n)) (limbs (val a * 2 ^ n)) (by omega) (K + 1 + 1) (by omega)
  have hn2 := limbs_le a ha
  have e6 := Norm_ge a ha (by omega) (K + 1 + 1) (by omega)
  have e7 := Same_all (limbs (val a)) (limbs (val a)) (by omega) (K + 1 + 1) (by omega)
  have e8 := Bits_ge (limbs (2 ^ n)) (limbs_lim _) (by omega) (K + 1 + 1) (by omega)
  rw [limbs_val, nbits_pow] at e8
  have hw : wrap64 ((n : Int) + 1) = ((n + 1 : Nat) : Int) := by unfold wrap64; omega
  simp only [quipulaw01_NatPowers.j0]
  rw [if_neg (by decide), e1, Option.bind_some, e2, Option.bind_some]
  simp only
  rw [e3, Option.bind_some]
  simp only
  rw [if_pos trivial, if_pos trivial, if_pos trivial, e4, Option.bind_some, e5, Option.bind_some, decide_eq_true rfl, if_pos rfl, e6, Option.bind_some, e7, Option.bind_some, decide_eq_true rfl, if_pos rfl, e8, Option.bind_some, hw]
  have hne : (((n + 1 : Nat) : Int) != ((n + 1 : Nat) : Int)) = false := by simp
  rw [hne]
  exact hj
theorem powers_skip (K : Nat) (a b : List Int) (n : Int) : quipulaw01_NatPowers.j0 (K + 1) a b n true = some true := by
  simp only [quipulaw01_NatPowers.j0]; rw [if_pos trivial]
theorem NatPowers_true (a b : List Int) (n : Int) (ha : Lim a) (hb : Lim b) (la : a.length ≤ 17592186043904) (lb : b.length ≤ 17592186043904) : ∃ K, quipulaw01_NatPowers.f K a b n = some true := by
  obtain ⟨K, hM, hM2⟩ : ∃ K : Nat, 17592186043904 * (17592186043904 + 2) + 17592186043904 + 17592186043904 + 2 ≤ K ∧ 100000000000000 ≤ K := ⟨17592186043904 * (17592186043904 + 2) + 17592186043904 + 17592186043904 + 2, Nat.le_refl _, by omega⟩
  refine ⟨K + 1 + 1 + 1, ?_⟩
  unfold quipulaw01_NatPowers.f
  rw [awake_ge _ (by clear hM; omega), Option.bind_some, if_pos rfl]
  by_cases c0 : n < 0
  · rw [if_pos c0]; exact powers_skip _ _ _ _
  rw [if_neg c0]
  by_cases c1 : n > 65536
  · rw [decide_eq_true c1]; exact powers_skip _ _ _ _
  rw [decide_eq_false c1]
  obtain ⟨m, rfl⟩ : ∃ m : Nat, n = m := ⟨n.toNat, by clear hM; omega⟩
  exact powers_j0 K K hM hM2 (Nat.le_refl _) a b ha hb la lb m (by clear hM; omega)
end Go.Proofs.Ytfaknblpkegekaa.Q
