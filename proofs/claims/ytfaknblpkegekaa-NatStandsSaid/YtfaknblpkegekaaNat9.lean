/- Plain law: NatStands answers true. -/
import Derived.Test.YtfaknblpkegekaaQx14
import Derived.Test.YtfaknblpkegekaaNat8
import Derived.Test.YtfaknblpkegekaaAwake
namespace Go.Proofs.Ytfaknblpkegekaa.Q
open Go.RowKit Go.Proofs.YtfaknblpkegekaaW.PrintWords Go.Proofs.YtfaknblpkegekaaW.PrintLast Go.Proofs.YtfaknblpkegekaaW.PrintMore
set_option linter.unusedVariables false
theorem limbs_long (n L : Nat) (h : n < 18446744073709551616 ^ L) : (limbs n).length ≤ L := by
  by_cases c : n = 0
  · subst c; rw [limbs_zero]; simp
  · have h1 := limbs_pow n c
    rcases Nat.lt_or_ge L (limbs n).length with h2 | h2
    · exfalso
      have h3 : (18446744073709551616 : Nat) ^ L ≤ 18446744073709551616 ^ ((limbs n).length - 1) := Nat.pow_le_pow_right (by decide) (by omega)
      omega
    · exact h2
theorem add_long (a b : List Int) (ha : Lim a) (hb : Lim b) (L : Nat) (la : a.length ≤ L) (lb : b.length ≤ L) : (limbs (val a + val b)).length ≤ L + 1 := by
  refine limbs_long _ _ ?_
  have h0 := val_lt a ha
  have h1 := val_lt b hb
  have p0 := pow_le_of la
  have p1 := pow_le_of lb
  rw [Nat.pow_succ]
  generalize (18446744073709551616 : Nat) ^ L = P at *
  omega
theorem Add_is (a b : List Int) (ha : Lim a) (hb : Lim b) (la : a.length ≤ 17592186044400) (lb : b.length ≤ 17592186044400) : nat_Add.f a b = some (limbs (val a + val b)) := by
  unfold nat_Add.f
  rw [wfl_in ha la, wfl_in hb lb]; rfl
theorem Sub_is (a b : List Int) (ha : Lim a) (hb : Lim b) (la : a.length ≤ 17592186044400) (lb : b.length ≤ 17592186044400) : nat_Sub.f a b = (if val a < val b then some ([], 10) else some (limbs (val a - val b), 0)) := by
  unfold nat_Sub.f
  rw [wfl_in ha la, wfl_in hb lb]; rfl
theorem cmpN_cases (a b : Nat) : (a < b ∧ cmpN a b = -1) ∨ (b < a ∧ cmpN a b = 1) ∨ (a = b ∧ cmpN a b = 0) := by
  unfold cmpN
  rcases Nat.lt_trichotomy a b with h | h | h
  · exact .inl ⟨h, by rw [if_pos h]⟩
  · exact .inr (.inr ⟨h, by rw [if_neg (by omega), if_neg (by omega)]⟩)
  · exact .inr (.inl ⟨h, by rw [if_neg (by omega), if_pos h]⟩)
theorem stands_j1 (K : Nat) (a b : List Int) (ha : Lim a) (hb : Lim b) (la : a.length ≤ 17592186044400) (lb : b.length ≤ 17592186044400) (hK : 17592186044500 ≤ K) :
    quipulaw01_NatStands.j1 (K + 1) a b (cmpN (val a) (val b)) false = some true := by
  simp only [quipulaw01_NatStands.j1]
  rw [if_neg (by decide), Sub_is a b ha hb la lb, Bits_ge a ha (by omega) K (by omega), Bits_ge b hb (by omega) K (by omega)]
  rcases cmpN_cases (val a) (val b) with ⟨h, e⟩ | ⟨h, e⟩ | ⟨h, e⟩
  · rw [if_pos h, e, Option.bind_some, if_pos (show ((10 : Int) == 0) == decide ((-1 : Int) ≥ 0) by decide), if_neg (by decide), Option.bind_some, Option.bind_some]
    have := nbits_mono (Nat.le_of_lt h)
    congr 1
    exact decide_eq_true (by omega)
  · rw [if_neg (by omega), e, Option.bind_some, if_pos (show ((0 : Int) == 0) == decide ((1 : Int) ≥ 0) by decide), if_pos (by decide)]
  · rw [if_neg (by omega), e, Option.bind_some, if_pos (show ((0 : Int) == 0) == decide ((0 : Int) ≥ 0) by decide), if_pos (by decide)]
theorem stands_j0 (K : Nat) (a b c : List Int) (ha : Lim a) (hb : Lim b) (hc : Lim c) (la : a.length ≤ 17592186044400) (lb : b.length ≤ 17592186044400) (lc : c.length ≤ 17592186044400) (hK : 100000000000000 ≤ K) :
    quipulaw01_NatStands.j0 (K + 1 + 1) a b c (cmpN (val a) (val b)) (cmpN (val b) (val c)) false = some true := by
  have eA := Add_is a c ha hc la lc
  have eB := Add_is b c hb hc lb lc
  have l1 := add_long a c ha hc 17592186044400 la lc
  have l2 := add_long b c hb hc 17592186044400 lb lc
  have eC := cmp_ge (limbs (val a + val c)) (limbs (val b + val c)) (limbs_lim _) (limbs_lim _) (by omega) (by omega) (K + 1) (by omega)
  rw [limbs_val, limbs_val, cmpN_add] at eC
  have eD := cmp_ge a c ha hc (by omega) (by omega) (K + 1) (by omega)
  have e1 : (cmpN (val a) (val b) != cmpN (val a) (val b)) = false := by simp
  have rest : ((nat_Add.f a c).bind fun t695 => ((nat_Add.f b c).bind fun t698 => ((nat_Cmp.f (K + 1) t695 t698).bind fun t701 => (quipulaw01_NatStands.j1 (K + 1) a b (cmpN (val a) (val b)) (t701 != (cmpN (val a) (val b))))))) = some true := by
    rw [eA, Option.bind_some, eB, Option.bind_some, eC, Option.bind_some, e1]
    exact stands_j1 K a b ha hb la lb (by omega)
  simp only [quipulaw01_NatStands.j0]
  rw [if_neg (by decide), rest, eD, Option.bind_some]
  by_cases c0 : cmpN (val a) (val b) ≤ 0
  · rw [if_pos c0]
    by_cases c1 : cmpN (val b) (val c) ≤ 0
    · rw [if_pos c1]
      have : ¬ cmpN (val a) (val c) > 0 := by
        rcases cmpN_cases (val a) (val b) with ⟨h, e⟩ | ⟨h, e⟩ | ⟨h, e⟩ <;> rcases cmpN_cases (val b) (val c) with ⟨h', e'⟩ | ⟨h', e'⟩ | ⟨h', e'⟩ <;> rcases cmpN_cases (val a) (val c) with ⟨h'', e''⟩ | ⟨h'', e''⟩ | ⟨h'', e''⟩ <;> omega
      rw [if_neg this]
    · rw [if_neg c1]
  · rw [if_neg c0]
theorem NatStands_true (a b c : List Int) (ha : Lim a) (hb : Lim b) (hc : Lim c) (la : a.length ≤ 17592186044400) (lb : b.length ≤ 17592186044400) (lc : c.length ≤ 17592186044400) : ∃ K, quipulaw01_NatStands.f K a b c = some true := by
  obtain ⟨K, hK⟩ : ∃ K : Nat, K = 100000000000000 := ⟨_, rfl⟩
  refine ⟨K + 1 + 1, ?_⟩
  have hj := stands_j0 K a b c ha hb hc la lb lc (by omega)
  have e0 := cmp_ge a b ha hb (by omega) (by omega) (K + 1 + 1) (by omega)
  have e1 := cmp_ge b c hb hc (by omega) (by omega) (K + 1 + 1) (by omega)
  have e2 := cmp_ge b a hb ha (by omega) (by omega) (K + 1 + 1) (by omega)
  have n0 := Norm_ge a ha (by omega) (K + 1 + 1) (by omega)
  have n1 := Norm_ge b hb (by omega) (K + 1 + 1) (by omega)
  have h0 := limbs_le a ha
  have s := Same_all (limbs (val a)) (limbs (val b)) (by omega) (K + 1 + 1) (by omega)
  rw [limbs_dec] at s
  unfold quipulaw01_NatStands.f
  rw [e0, Option.bind_some, e1, Option.bind_some, awake_ge (K + 1 + 1) (by omega), Option.bind_some, if_pos rfl, e2, Option.bind_some]
  have hneg : cmpN (val a) (val b) = wrap64 (-cmpN (val b) (val a)) := by
    rcases cmpN_cases (val a) (val b) with ⟨h, e⟩ | ⟨h, e⟩ | ⟨h, e⟩ <;> rcases cmpN_cases (val b) (val a) with ⟨h', e'⟩ | ⟨h', e'⟩ | ⟨h', e'⟩ <;> first | omega | (rw [e, e']; unfold wrap64; omega)
  have hlo : ¬ cmpN (val a) (val b) < -1 := by rcases cmpN_cases (val a) (val b) with ⟨h, e⟩ | ⟨h, e⟩ | ⟨h, e⟩ <;> omega
  have hhi : ¬ cmpN (val a) (val b) > 1 := by rcases cmpN_cases (val a) (val b) with ⟨h, e⟩ | ⟨h, e⟩ | ⟨h, e⟩ <;> omega
  rw [if_pos hneg, if_neg hlo, if_neg hhi, n0, Option.bind_some, n1, Option.bind_some, s, Option.bind_some]
  have hb2 : ((cmpN (val a) (val b) == 0) != decide (val a = val b)) = false := by
    rcases cmpN_cases (val a) (val b) with ⟨h, e⟩ | ⟨h, e⟩ | ⟨h, e⟩
    · rw [e, decide_eq_false (by omega)]; rfl
    · rw [e, decide_eq_false (by omega)]; rfl
    · rw [e, decide_eq_true h]; rfl
  rw [hb2]
  exact hj
end Go.Proofs.Ytfaknblpkegekaa.Q
