/- Plain laws for nat.DivMod: what is shifted ahead. -/
import Derived.Test.YtfaknblpkegekaaQx3
import Derived.Test.YtfaknblpkegekaaQx4
import Derived.Test.YtfaknblpkegekaaNat8
import Derived.Test.YtfaknblpkegekaaD64
namespace Go.Proofs.Ytfaknblpkegekaa.Q
open Go.RowKit Go.Proofs.YtfaknblpkegekaaW.PrintWords Go.Proofs.YtfaknblpkegekaaW.PrintLast Go.Proofs.YtfaknblpkegekaaW.PrintMore
set_option linter.unusedVariables false
theorem limbs_prefix_of : ∀ (n : Nat) (l : List Int), l.length = n → Lim l → ∃ k, k ≤ l.length ∧ limbs (val l) = l.take k
  | 0, l, hl, h => by
    obtain rfl : l = [] := List.eq_nil_of_length_eq_zero hl
    exact ⟨0, Nat.le_refl _, rfl⟩
  | n + 1, l, hl, h => by
    have hne : l ≠ [] := by intro e; rw [e] at hl; simp at hl
    obtain ⟨m, y, rfl⟩ : ∃ m y, l = m ++ [y] := ⟨_, _, (List.dropLast_concat_getLast hne).symm⟩
    have hm : Lim m := fun z hz => h z (List.mem_append_left _ hz)
    have hy := h y (by simp)
    by_cases c : y = 0
    · subst c
      obtain ⟨k, hk, e⟩ := limbs_prefix_of n m (by simpa using hl) hm
      refine ⟨k, by rw [List.length_append]; omega, ?_⟩
      rw [val_snoc0, e, List.take_append_of_le_length hk]
    · refine ⟨(m ++ [y]).length, Nat.le_refl _, ?_⟩
      rw [List.take_length]
      exact limbs_val_snoc m y hm (by omega) hy.2
theorem limbs_prefix (l : List Int) (h : Lim l) : limbs (val l) = l.take (limbs (val l)).length := by
  obtain ⟨k, hk, e⟩ := limbs_prefix_of l.length l rfl h
  have hl : (limbs (val l)).length = k := by rw [e, List.length_take]; omega
  rw [hl]; exact e
/-- What is laid ahead of the long division. -/
structure DivPrep (x y la lb : Nat) (a b : List Int) (n : Int) (un : Nat) (tp : Int) (vs us : List Int) : Prop where
  hn : n = un ∧ un ≤ 63
  lz : bits_LeadingZeros64.f tp = some n
  top : rd b ((b.length - 1 : Nat) : Int) = tp
  shv : nat_Shl.f b n = some (vs, 0)
  shu : nat_Shl.f a n = some (us, 0)
  limv : Lim vs
  limu : Lim us
  lenv : vs.length = b.length
  lenu : us.length ≤ a.length + 1
  lenab : b.length ≤ a.length
  pos : 0 < y
  valv : val vs = y * 2 ^ un
  valu : val us = x * 2 ^ un
  big : x * 2 ^ un < 18446744073709551616 ^ (a.length + 1 - b.length) * (y * 2 ^ un)
theorem limbs_lt (n L : Nat) (h : n < 18446744073709551616 ^ L) : (limbs n).length ≤ L := by
  by_cases c : n = 0
  · subst c; rw [limbs_zero]; simp
  · have h1 := limbs_pow n c
    rcases Nat.lt_or_ge L (limbs n).length with h2 | h2
    · exfalso
      have h3 : (18446744073709551616 : Nat) ^ L ≤ 18446744073709551616 ^ ((limbs n).length - 1) := Nat.pow_le_pow_right (by decide) (by omega)
      omega
    · exact h2
theorem limbs_ge (n L : Nat) (h : 18446744073709551616 ^ L ≤ n) : L < (limbs n).length := by
  rcases Nat.lt_or_ge L (limbs n).length with h2 | h2
  · exact h2
  · exfalso
    have h1 := val_lt (limbs n) (limbs_lim n)
    rw [limbs_val] at h1
    have h3 : (18446744073709551616 : Nat) ^ (limbs n).length ≤ 18446744073709551616 ^ L := Nat.pow_le_pow_right (by decide) h2
    omega
theorem div_prep (x y la lb : Nat) (ha : la ≤ 17592186043904) (hb : lb ≤ 17592186043904) (ea : (limbs x).length = la) (eb : (limbs y).length = lb) (hm : 2 ≤ lb) (hge : y ≤ x) :
    ∃ n un tp vs us, DivPrep x y la lb (limbs x) (limbs y) n un tp vs us := by
  have hy : y ≠ 0 := by intro e; rw [e, limbs_zero] at eb; simp at eb; omega
  obtain ⟨m, t, et, hlm, ht0, ht1, hyv⟩ := limbs_top y hy
  have hml : m.length + 1 = lb := by rw [← eb, et]; simp
  obtain ⟨tn, rfl⟩ : ∃ a : Nat, t = a := ⟨t.toNat, by omega⟩
  rw [Int.toNat_natCast] at hyv
  obtain ⟨s, hs, ez, n0, n1⟩ := lz_eq tn (by omega) (by omega)
  have hmv := val_lt m hlm
  have hxl : x < 18446744073709551616 ^ la := by have := val_lt (limbs x) (limbs_lim x); rw [limbs_val, ea] at this; exact this
  have hab : lb ≤ la := by
    rcases Nat.lt_or_ge la lb with h | h
    · exfalso
      have := limbs_len_lt (show (limbs x).length < (limbs y).length by omega)
      omega
    · exact h
  have hS : 0 < 2 ^ s := Nat.two_pow_pos s
  have hSB : 2 ^ s ≤ 9223372036854775808 := by
    have := Nat.pow_le_pow_right (show 0 < 2 by decide) hs
    rw [show (2 : Nat) ^ 63 = 9223372036854775808 by decide] at this
    exact this
  have eS : ∀ l : List Int, Lim l → l.length ≤ 17592186043904 → nat_Shl.f l (s : Int) = some (limbs (val l * 2 ^ s), 0) := fun l h1 h2 => by
    unfold nat_Shl.f
    rw [wfs_in h1 h2, if_pos rfl, if_neg (show ¬ ((s : Int) < 0 ∨ 65536 < (s : Int)) by omega), Int.toNat_natCast]
  have eV := eS (limbs y) (limbs_lim y) (by omega)
  have eU := eS (limbs x) (limbs_lim x) (by omega)
  rw [limbs_val] at eV eU
  obtain ⟨S, hSe⟩ : ∃ S, S = 2 ^ s := ⟨_, rfl⟩
  rw [← hSe] at n0 n1 hS hSB eV eU
  -- the bounds of y S
  have hyS1 : y * S < 18446744073709551616 ^ lb := by
    rw [hyv, ← hml, Nat.pow_succ]
    have h1 : (tn + 1) * S ≤ 18446744073709551616 := by
      rw [Nat.add_mul, Nat.one_mul]
      -- tn * S is a multiple of S below 2^64
      obtain ⟨T, hT⟩ : ∃ T, S * T = 18446744073709551616 := ⟨2 ^ (64 - s), by rw [hSe, ← Nat.pow_add, show s + (64 - s) = 64 by omega]⟩
      have h2 : tn < T := Nat.lt_of_mul_lt_mul_left (a := S) (by rw [hT, Nat.mul_comm]; exact n1)
      have h3 : (tn + 1) * S ≤ T * S := Nat.mul_le_mul_right S h2
      rw [Nat.mul_comm T S, hT, Nat.add_mul, Nat.one_mul] at h3
      exact h3
    have h4 : val m + 18446744073709551616 ^ m.length * tn + 1 ≤ 18446744073709551616 ^ m.length * (tn + 1) := by rw [Nat.mul_add, Nat.mul_one]; omega
    have h5 := Nat.mul_le_mul_right S h4
    have h6 : 18446744073709551616 ^ m.length * (tn + 1) * S ≤ 18446744073709551616 ^ m.length * 18446744073709551616 := by rw [Nat.mul_assoc]; exact Nat.mul_le_mul_left _ h1
    rw [Nat.add_mul, Nat.one_mul] at h5
    omega
  have hyS0 : 18446744073709551616 ^ m.length ≤ y * S := by
    have h1 : 18446744073709551616 ^ m.length * 1 ≤ 18446744073709551616 ^ m.length * tn := Nat.mul_le_mul_left _ (by omega)
    have h2 : y * 1 ≤ y * S := Nat.mul_le_mul_left _ hS
    omega
  have hxS : x * S < 18446744073709551616 ^ (la + 1) := by
    rw [Nat.pow_succ]
    have h1 : x * S ≤ x * 18446744073709551616 := Nat.mul_le_mul_left _ (by omega)
    have h2 : x * 18446744073709551616 < 18446744073709551616 ^ la * 18446744073709551616 := Nat.mul_lt_mul_of_pos_right hxl (by decide)
    omega
  refine ⟨(s : Int), s, (tn : Int), limbs (y * S), limbs (x * S), ⟨rfl, hs⟩, ez, ?_, eV, eU, limbs_lim _, limbs_lim _, ?_, ?_, by omega, by omega, by rw [limbs_val, hSe], by rw [limbs_val, hSe], ?_⟩
  · rw [et]
    show (m ++ [(tn : Int)]).getD (((m ++ [(tn : Int)]).length - 1 : Nat) : Int).toNat 0 = tn
    simp
  · have h1 := limbs_lt _ _ hyS1
    have h2 := limbs_ge _ _ hyS0
    omega
  · have h1 := limbs_lt _ _ hxS
    omega
  · rw [ea, eb, ← hSe]
    have e1 : la + 1 - lb + m.length = la := by omega
    have h1 : 18446744073709551616 ^ la ≤ 18446744073709551616 ^ (la + 1 - lb) * y := by
      have e2 : 18446744073709551616 ^ la = 18446744073709551616 ^ (la + 1 - lb) * 18446744073709551616 ^ m.length := by rw [← Nat.pow_add, e1]
      rw [e2]
      refine Nat.mul_le_mul_left _ ?_
      have h2 : 18446744073709551616 ^ m.length * 1 ≤ 18446744073709551616 ^ m.length * tn := Nat.mul_le_mul_left _ (by omega)
      omega
    have h3 : x < 18446744073709551616 ^ (la + 1 - lb) * y := Nat.lt_of_lt_of_le hxl h1
    have h4 := Nat.mul_lt_mul_of_pos_right h3 hS
    rw [Nat.mul_assoc] at h4
    exact h4
end Go.Proofs.Ytfaknblpkegekaa.Q
