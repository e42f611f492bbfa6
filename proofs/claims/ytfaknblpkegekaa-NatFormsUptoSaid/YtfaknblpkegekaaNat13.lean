/- Plain law: NatForms answers true. -/
import Derived.Test.YtfaknblpkegekaaQx15
import Derived.Test.YtfaknblpkegekaaNat8
import Derived.Test.YtfaknblpkegekaaNat12
import Derived.Test.YtfaknblpkegekaaAwake
namespace Go.Proofs.Ytfaknblpkegekaa.Q
open Go.RowKit Go.Proofs.YtfaknblpkegekaaW.PrintWords Go.Proofs.YtfaknblpkegekaaW.PrintLast Go.Proofs.YtfaknblpkegekaaW.PrintMore
set_option linter.unusedVariables false
theorem nbits_half (x : Nat) (h : x ≠ 0) : nbits x = nbits (x / 2) + 1 := by
  by_cases c : x / 2 = 0
  · have : x = 1 := by omega
    subst this; rfl
  · obtain ⟨k, e, h0, h1⟩ := nbits_in (x / 2) c
    have := nbits_of x (k + 1) (by rw [Nat.pow_succ]; omega) (by rw [Nat.pow_succ]; omega)
    omega
theorem nbits_lt (x m : Nat) (h : x < 2 ^ m) : nbits x ≤ m := by
  by_cases c : x = 0
  · subst c; exact Nat.zero_le _
  · obtain ⟨k, e, h0, h1⟩ := nbits_in x c
    rw [e]
    rcases Nat.lt_or_ge k m with g | g
    · exact g
    · have := Nat.pow_le_pow_right (show 0 < 2 by decide) g
      omega
theorem rBits_loop : ∀ (m x : Nat), x < 2 ^ m → ∀ (K : Nat), m + 1 ≤ K → ∀ a : Int, 0 ≤ a → a + m ≤ 4611686018427387904 → quipuref01_Bits.l0 K a (x : Int) = some (a + nbits x)
  | m, x, hx, 0, hK, a, h0, h1 => by omega
  | 0, x, hx, K + 1, hK, a, h0, h1 => by
    obtain rfl : x = 0 := by simpa using hx
    simp only [quipuref01_Bits.l0]
    rw [if_neg (by decide)]
    simp [nbits]
  | m + 1, x, hx, K + 1, hK, a, h0, h1 => by
    simp only [quipuref01_Bits.l0]
    by_cases c : x = 0
    · subst c
      rw [if_neg (by decide)]
      simp [nbits]
    · rw [if_pos (by omega)]
      have e1 : (x : Int) / 2 = ((x / 2 : Nat) : Int) := by omega
      have e2 : wrap64 (a + 1) = a + 1 := by unfold wrap64; omega
      rw [e1, e2, rBits_loop m (x / 2) (by rw [Nat.pow_succ] at hx; omega) K (by omega) (a + 1) (by omega) (by omega), nbits_half x c]
      congr 1
      omega
theorem pow_two16 (m : Nat) : 65536 ^ m = 2 ^ (16 * m) := by
  rw [Nat.pow_mul]
theorem dnbits_snoc (v y m : Nat) (hv : v < 65536 ^ m) (hy : 0 < y) : nbits (v + 65536 ^ m * y) = 16 * m + nbits y := by
  obtain ⟨k, e, h0, h1⟩ := nbits_in y (by omega)
  rw [pow_two16] at hv ⊢
  rw [e]
  have e1 : 2 ^ (16 * m + k) = 2 ^ (16 * m) * 2 ^ k := Nat.pow_add _ _ _
  have e2 : 2 ^ (16 * m + k + 1) = 2 ^ (16 * m) * 2 ^ (k + 1) := by rw [Nat.add_assoc]; exact Nat.pow_add _ _ _
  have := nbits_of (v + 2 ^ (16 * m) * y) (16 * m + k) (by rw [e1]; have := Nat.mul_le_mul_left (2 ^ (16 * m)) h0; omega)
    (by rw [e2]; have := Nat.mul_le_mul_left (2 ^ (16 * m)) (show y + 1 ≤ 2 ^ (k + 1) by omega); rw [Nat.mul_add] at this; omega)
  omega
/-- The top digit of a number. -/
theorem digs_top (n : Nat) (h : n ≠ 0) : ∃ (m : List Int) (y : Int), digs n = m ++ [y] ∧ Dig m ∧ 0 < y ∧ y < 65536 ∧ n = dval m + 65536 ^ m.length * y.toNat := by
  have hne : digs n ≠ [] := by intro e; have := digs_dval n; rw [e] at this; exact h this.symm
  obtain ⟨m, y, e⟩ : ∃ m y, digs n = m ++ [y] := ⟨_, _, (List.dropLast_concat_getLast hne).symm⟩
  have hl := digs_lim n
  rw [e] at hl
  have hm : Dig m := fun z hz => hl z (List.mem_append_left _ hz)
  have hy := hl y (by simp)
  have hp := digs_pow n h
  have hv := digs_dval n
  rw [e, dval_app, dval_one] at hv
  rw [e] at hp
  simp only [List.length_append, List.length_cons, List.length_nil, Nat.add_sub_cancel, Nat.zero_add] at hp
  refine ⟨m, y, e, hm, ?_, hy.2, hv.symm⟩
  have hlt := dval_lt m hm
  rcases Int.lt_or_le 0 y with g | g
  · exact g
  · exfalso
    have : y.toNat = 0 := by omega
    rw [this, Nat.mul_zero] at hv
    omega
theorem rBits_ge (n : Nat) (hb : (digs n).length ≤ 70368744177664) (K : Nat) (hK : (digs n).length + 20 ≤ K) : quipuref01_Bits.f K (digs n) = some (nbits n : Int) := by
  unfold quipuref01_Bits.f
  have ht := rtrim_eq (digs n) (digs_lim n) (by omega) (K - (digs n).length - 1)
  rw [show K - (digs n).length - 1 + (digs n).length + 1 = K by omega, digs_dval] at ht
  rw [ht, Option.bind_some]
  by_cases c : n = 0
  · subst c; rfl
  · obtain ⟨m, y, e, hm, hy0, hy1, hn⟩ := digs_top n c
    rw [e] at hb hK ⊢
    have hlen : (m ++ [y]).length = m.length + 1 := by simp
    rw [hlen] at hb hK ⊢
    rw [if_neg (by omega)]
    have w1 : wrap64 (((m.length + 1 : Nat) : Int) - 1) = (m.length : Int) := by unfold wrap64; omega
    rw [w1, if_pos (by omega), if_pos (by omega)]
    have er : rd (m ++ [y]) (m.length : Int) = y := by
      show (m ++ [y]).getD (m.length : Int).toNat 0 = y
      simp
    have w2 : wrap64 (16 * (m.length : Int)) = ((16 * m.length : Nat) : Int) := by unfold wrap64; omega
    obtain ⟨z, rfl⟩ : ∃ z : Nat, y = z := ⟨y.toNat, by omega⟩
    rw [er, w2, rBits_loop 16 z (by omega) K (by omega) _ (by omega) (by omega), hn, dnbits_snoc _ _ _ (dval_lt m hm) (by omega)]
    rw [Int.toNat_natCast]
    congr 1
/-- What 'Uint' answers of a trimmed list. -/
theorem Uint_ge (l : List Int) (h : Lim l) (hb : l.length ≤ 17592186044416) (K : Nat) (hK : l.length + 1 ≤ K) :
    nat_Uint.f K l = some (if (limbs (val l)).length = 1 then rd (limbs (val l)) 0 else 0, decide ((limbs (val l)).length < 2)) := by
  unfold nat_Uint.f
  rw [trim_ge l h (by omega) K hK, Option.bind_some]
  by_cases c0 : (limbs (val l)).length = 0
  · rw [if_pos (by omega), if_neg (by omega), decide_eq_true (by omega)]
  · rw [if_neg (by omega)]
    by_cases c1 : (limbs (val l)).length = 1
    · rw [if_pos (by omega), if_pos (by omega), if_pos c1, decide_eq_true (by omega)]
    · rw [if_neg (by omega), if_neg c1, decide_eq_false (by omega)]
theorem Of_ge (n : Nat) (h : n < 18446744073709551616) (K : Nat) (hK : 3 ≤ K) : nat_Of.f K (n : Int) = some (limbs n) := by
  unfold nat_Of.f
  rw [Norm_ge [(n : Int)] (Lim.one (by omega) (by omega)) (by simp) K (by simp; omega), Option.bind_some, val_one, Int.toNat_natCast]
theorem forms_j1 (K : Nat) (n : Nat) (h : n < 18446744073709551616) (hK : 10 ≤ K) : quipulaw01_NatForms.j1 (K + 1) (n : Int) false = some true := by
  simp only [quipulaw01_NatForms.j1]
  rw [if_neg (by decide), Of_ge n h K (by omega), Option.bind_some]
  have hl : (limbs n).length ≤ 1 := by
    have := limbs_le [(n : Int)] (Lim.one (by omega) (by omega))
    rw [val_one, Int.toNat_natCast] at this
    exact this
  have hu := Uint_ge (limbs n) (limbs_lim n) (by omega) K (by omega)
  rw [limbs_val] at hu
  rw [hu, Option.bind_some]
  have e1 : (if (limbs n).length = 1 then rd (limbs n) 0 else 0) = (n : Int) := by
    by_cases c : n = 0
    · subst c; rfl
    · have e : limbs n = [(n : Int)] := by
        rw [limbs_step n c, Nat.mod_eq_of_lt h, Nat.div_eq_of_lt h, limbs_zero]
      rw [e]; rfl
  simp only [e1]
  have ez : nat_Of.f K 0 = some [] := Of_ge 0 (by omega) K (by omega)
  rw [if_pos trivial, if_pos (decide_eq_true (by omega)), ez]
  rfl
theorem forms_j0 (K : Nat) (n : Nat) (h : n < 18446744073709551616) (hK : 10 ≤ K) (l : List Int) :
    quipulaw01_NatForms.j0 (K + 1 + 1) (n : Int) (if l.length = 1 then rd l 0 else 0) (decide (l.length < 2)) l false = some true := by
  have hj := forms_j1 K n h hK
  simp only [quipulaw01_NatForms.j0]
  rw [if_neg (by decide)]
  by_cases c0 : l.length = 0
  · rw [if_pos (decide_eq_true (by omega)), if_neg (by omega), if_pos (by omega), if_neg (by omega)]
    exact hj
  · by_cases c1 : l.length = 1
    · rw [if_pos (decide_eq_true (by omega)), if_pos (by omega), if_pos (by omega), if_pos c1, if_pos rfl, if_neg (by omega)]
      exact hj
    · rw [if_neg (by rw [decide_eq_false (by omega)]; decide), if_neg c1]
      exact hj
theorem NatForms_true (l0 : List Int) (a1 : Int) (h0 : Lim l0) (n0 : l0.length ≤ 1048576) (hw : (Lit.int .u64 a1).wf = true) : ∃ K, quipulaw01_NatForms.f K l0 a1 = some true := by
  obtain ⟨n, rfl, hn⟩ : ∃ n : Nat, a1 = n ∧ n < 18446744073709551616 := by
    have h1 : IntKind.u64.min ≤ a1 ∧ a1 ≤ IntKind.u64.max := by simpa [Lit.wf] using hw
    have e0 : IntKind.u64.min = 0 := rfl
    have e1 : IntKind.u64.max = 18446744073709551615 := by decide
    exact ⟨a1.toNat, by omega, by omega⟩
  obtain ⟨K, hK⟩ : ∃ K : Nat, K = 100000000 := ⟨_, rfl⟩
  refine ⟨K + 1 + 1, ?_⟩
  have d0 := val_digs_len l0 h0
  have hl := limbs_le l0 h0
  have eI0 := In_ge l0 h0 (by omega) (K + 1 + 1) (by omega)
  have eO := Out_ge (val l0) (by omega) (K + 1 + 1) (by omega)
  have eS := Same_ge (limbs (val l0)) (by omega) (K + 1 + 1) (by omega)
  have eU := Uint_ge l0 h0 (by omega) (K + 1 + 1) (by omega)
  have eN := Norm_ge l0 h0 (by omega) (K + 1 + 1) (by omega)
  have eB := Bits_ge l0 h0 (by omega) (K + 1 + 1) (by omega)
  have eR := rBits_ge (val l0) (by omega) (K + 1 + 1) (by omega)
  have hj := forms_j0 K n hn (by omega) (limbs (val l0))
  unfold quipulaw01_NatForms.f
  rw [eI0, Option.bind_some, eU, Option.bind_some, eO, Option.bind_some, awake_ge _ (by omega), Option.bind_some, if_pos rfl, eN, Option.bind_some, eS, Option.bind_some, if_pos rfl, eB, Option.bind_some, eR, Option.bind_some, if_pos rfl]
  have e1 : (decide ((limbs (val l0)).length < 2) != decide (((limbs (val l0)).length : Int) < 2)) = false := by
    by_cases c : (limbs (val l0)).length < 2
    · rw [decide_eq_true c, decide_eq_true (by omega)]; rfl
    · rw [decide_eq_false c, decide_eq_false (by omega)]; rfl
  simp only [e1]
  exact hj
end Go.Proofs.Ytfaknblpkegekaa.Q
