/- Plain law: what Mul answers, of limbs. -/
import Derived.Test.YtfaknblpkegekaaQx3
import Derived.Test.YtfaknblpkegekaaNat8
import Derived.Lib.Mul64
namespace Go.Proofs.Ytfaknblpkegekaa.Q
open Go.RowKit Go.Proofs.YtfaknblpkegekaaW.PrintWords Go.Proofs.YtfaknblpkegekaaW.PrintLast Go.Proofs.YtfaknblpkegekaaW.PrintMore
set_option linter.unusedVariables false
theorem and_low (x : Int) (h : 0 ≤ x ∧ x < 18446744073709551616) : Go.bits .and .u64 x 4294967295 = x % 4294967296 := by
  obtain ⟨a, rfl⟩ : ∃ a : Nat, x = a := ⟨x.toNat, by omega⟩
  have ha : a < 2 ^ 64 := by omega
  have e1 : (4294967295 : Int) = ((2 ^ 32 - 1 : Nat) : Int) := by decide
  simp only [Go.bits]
  have hb64 : IntKind.u64.bits = 64 := rfl
  rw [e1, BitVec.ofInt_natCast, BitVec.ofInt_natCast, BitVec.toNat_and, BitVec.toNat_ofNat, BitVec.toNat_ofNat, hb64, Nat.mod_eq_of_lt ha, Nat.mod_eq_of_lt (by decide : 2 ^ 32 - 1 < 2 ^ 64), Nat.and_two_pow_sub_one_eq_mod, IntKind.wrap_u64]
  omega
theorem wrap_in (x : Int) (h : 0 ≤ x ∧ x < 18446744073709551616) : IntKind.u64.wrap x = x := by
  rw [IntKind.wrap_u64]; omega
theorem Mul64_eq (x y : Nat) (hx : x < 18446744073709551616) (hy : y < 18446744073709551616) : bits_Mul64.f x y = some (((x * y / 18446744073709551616 : Nat) : Int), ((x * y % 18446744073709551616 : Nat) : Int)) := by
  unfold bits_Mul64.f
  have h := Lib.mul64_hi x y hx hy
  rw [and_low x (by omega), and_low y (by omega)]
  have e0 : (x : Int) / 4294967296 = ((x / 4294967296 : Nat) : Int) := by omega
  have e1 : (y : Int) / 4294967296 = ((y / 4294967296 : Nat) : Int) := by omega
  have e2 : (x : Int) % 4294967296 = ((x % 4294967296 : Nat) : Int) := by omega
  have e3 : (y : Int) % 4294967296 = ((y % 4294967296 : Nat) : Int) := by omega
  rw [e0, e1, e2, e3]
  have hp : (x / 4294967296) * (y / 4294967296) ≤ 18446744065119617025 := Lib.half_mul_le (by omega) (by omega)
  have hq : (x / 4294967296) * (y % 4294967296) ≤ 18446744065119617025 := Lib.half_mul_le (by omega) (by omega)
  have hr : (x % 4294967296) * (y / 4294967296) ≤ 18446744065119617025 := Lib.half_mul_le (by omega) (by omega)
  simp only [← Int.natCast_mul]
  generalize (x / 4294967296) * (y / 4294967296) = p11 at *
  generalize (x / 4294967296) * (y % 4294967296) = p10 at *
  generalize (x % 4294967296) * (y / 4294967296) = p01 at *
  generalize (x % 4294967296) * (y % 4294967296) = p00 at *
  generalize x * y = z at *
  clear e0 e1 e2 e3
  obtain ⟨h0, h1, h2, h3⟩ := h
  rw [wrap_in (p00 : Int) (by omega), wrap_in (p01 : Int) (by omega), wrap_in (p10 : Int) (by omega), wrap_in (p11 : Int) (by omega)]
  rw [wrap_in ((p10 : Int) + (p00 : Int) / 4294967296) (by omega)]
  rw [and_low _ (by omega)]
  rw [wrap_in (((p10 : Int) + (p00 : Int) / 4294967296) % 4294967296 + (p01 : Int)) (by omega)]
  rw [IntKind.wrap_u64, IntKind.wrap_u64, IntKind.wrap_u64]
  congr 1
  refine Prod.ext ?_ ?_
  · simp only; omega
  · simp only; omega
/-- One limb's step of the product. -/
theorem mul_step (x y c o : Int) (hx : 0 ≤ x ∧ x < 18446744073709551616) (hy : 0 ≤ y ∧ y < 18446744073709551616) (hc : 0 ≤ c ∧ c < 18446744073709551616) (ho : 0 ≤ o ∧ o < 18446744073709551616) :
    ∃ hi lo, bits_Mul64.f x y = some (hi, lo) ∧ (add64s (add64s lo c 0) o 0).toNat + 18446744073709551616 * (IntKind.u64.wrap (IntKind.u64.wrap (hi + add64c lo c 0) + add64c (add64s lo c 0) o 0)).toNat = x.toNat * y.toNat + c.toNat + o.toNat ∧
      (0 ≤ add64s (add64s lo c 0) o 0 ∧ add64s (add64s lo c 0) o 0 < 18446744073709551616) ∧ (0 ≤ IntKind.u64.wrap (IntKind.u64.wrap (hi + add64c lo c 0) + add64c (add64s lo c 0) o 0) ∧ IntKind.u64.wrap (IntKind.u64.wrap (hi + add64c lo c 0) + add64c (add64s lo c 0) o 0) < 18446744073709551616) := by
  obtain ⟨a, rfl⟩ : ∃ a : Nat, x = a := ⟨x.toNat, by omega⟩
  obtain ⟨b, rfl⟩ : ∃ b : Nat, y = b := ⟨y.toNat, by omega⟩
  refine ⟨_, _, Mul64_eq a b (by omega) (by omega), ?_⟩
  have hm : a * b ≤ 340282366920938463426481119284349108225 := Nat.mul_le_mul (show a ≤ 18446744073709551615 by omega) (show b ≤ 18446744073709551615 by omega)
  rw [Int.toNat_natCast, Int.toNat_natCast]
  generalize a * b = z at hm ⊢
  obtain ⟨lo, hlo⟩ : ∃ lo : Int, lo = ((z % 18446744073709551616 : Nat) : Int) := ⟨_, rfl⟩
  rw [← hlo]
  have s1 := add64_eq lo c 0 (by omega) hc (by decide)
  have s2 := add64_eq (add64s lo c 0) o 0 s1.2.1 ho (by decide)
  generalize add64s (add64s lo c 0) o 0 = s at *
  generalize add64c (add64s lo c 0) o 0 = c2 at *
  generalize add64s lo c 0 = t at *
  generalize add64c lo c 0 = c1 at *
  rw [show ((0 : Int)).toNat = 0 from rfl] at s1 s2
  rw [IntKind.wrap_u64, IntKind.wrap_u64]
  refine ⟨?_, s2.2.1, ?_⟩ <;> omega
theorem getD_set_ne (l : List Int) (j m : Nat) (y : Int) (h : m ≠ j) : (l.set j y).getD m 0 = l.getD m 0 := by
  rw [List.getD_eq_getElem?_getD, List.getD_eq_getElem?_getD, List.getElem?_set_ne (by omega)]
theorem val_set : ∀ (l : List Int) (j : Nat) (y : Int), j < l.length → val (l.set j y) + 18446744073709551616 ^ j * (l.getD j 0).toNat = val l + 18446744073709551616 ^ j * y.toNat
  | x :: l, 0, y, _ => by
    simp only [List.set_cons_zero, val, List.getD_cons_zero, Nat.pow_zero, Nat.one_mul]
    omega
  | x :: l, j + 1, y, h => by
    have ih := val_set l j y (by simpa using h)
    simp only [List.set_cons_succ, val, List.getD_cons_succ]
    rw [Nat.pow_succ, Nat.mul_comm (18446744073709551616 ^ j) 18446744073709551616, Nat.mul_assoc, Nat.mul_assoc]
    omega
theorem lim_set {l : List Int} (h : Lim l) (j : Nat) (y : Int) (hy : 0 ≤ y ∧ y < 18446744073709551616) : Lim (l.set j y) := fun z hz => by
  rcases List.mem_or_eq_of_mem_set hz with h1 | h1
  · exact h z h1
  · rw [h1]; exact hy
theorem val_zero : ∀ n : Nat, val (List.replicate n 0) = 0
  | 0 => rfl
  | n + 1 => by rw [List.replicate_succ]; simp [val, val_zero n]
theorem zero_lim (n : Nat) : Lim (List.replicate n 0) := fun x hx => by
  rw [List.eq_of_mem_replicate hx]; decide
theorem Mul_one (l0 l1 : List Int) (h0 : Lim l0) (h1 : Lim l1) (i j n : Nat) (hi : i < l0.length) (hj : j < l1.length) (hn : n = l0.length + l1.length) (hb : n ≤ 70368744177664) (K : Nat) (o : List Int) (c : Int) (hl : o.length = n) (ho : Lim o) (hc : 0 ≤ c ∧ c < 18446744073709551616) :
    ∃ s cr : Int, nat_Mul.l1 (K + 1) l1 o (i : Int) (l0.getD i 0) c l0 (l0.length : Int) (i : Int) l1 (l1.length : Int) (j : Int) = nat_Mul.l1 K l1 (o.set (i + j) s) (i : Int) (l0.getD i 0) cr l0 (l0.length : Int) (i : Int) l1 (l1.length : Int) ((j + 1 : Nat) : Int) ∧ s.toNat + 18446744073709551616 * cr.toNat = (l0.getD i 0).toNat * (l1.getD j 0).toNat + c.toNat + (o.getD (i + j) 0).toNat ∧ (0 ≤ s ∧ s < 18446744073709551616) ∧ (0 ≤ cr ∧ cr < 18446744073709551616) := by
  have w1 : wrap64 ((i : Int) + (j : Int)) = ((i + j : Nat) : Int) := by unfold wrap64; omega
  have w2 : wrap64 ((j : Int) + 1) = ((j + 1 : Nat) : Int) := by unfold wrap64; omega
  have q1 : (j : Int) < (l1.length : Int) := by omega
  have q2 : (0 : Int) ≤ (j : Int) := by omega
  have q3 : (0 : Int) ≤ ((i + j : Nat) : Int) := by omega
  have q4 : ((i + j : Nat) : Int) < (o.length : Int) := by omega
  have q5 : (0 : Int) ≤ (i : Int) := by omega
  have q6 : (i : Int) < (l0.length : Int) := by omega
  have hx := h0.getD i
  have hy := h1.getD j
  have hov := ho.getD (i + j)
  have r1 : ∀ (l : List Int) (m : Nat), rd l (m : Int) = l.getD m 0 := fun l m => rfl
  obtain ⟨hi', lo', eM, hst, hs1, hs2⟩ := mul_step (l0.getD i 0) (l1.getD j 0) c (o.getD (i + j) 0) hx hy hc hov
  refine ⟨_, _, ?_, hst, hs1, hs2⟩
  simp only [nat_Mul.l1]
  rw [if_pos q1, if_pos q2, if_pos q1, r1, eM, Option.bind_some, w1, if_pos q3, if_pos q4, w2, r1, Int.toNat_natCast]
theorem Mul_in (l0 l1 : List Int) (h0 : Lim l0) (h1 : Lim l1) (i : Nat) (hi : i < l0.length) (V n : Nat) (hn : n = l0.length + l1.length) (hb : n ≤ 70368744177664) (K : Nat) :
    ∀ (d j : Nat) (o : List Int) (c : Int), j + d = l1.length → o.length = n → Lim o → (0 ≤ c ∧ c < 18446744073709551616) → (∀ m, i + l1.length ≤ m → o.getD m 0 = 0) →
      val o + 18446744073709551616 ^ (i + j) * c.toNat = V + 18446744073709551616 ^ i * ((l0.getD i 0).toNat * val (l1.take j)) →
      ∃ o', nat_Mul.l1 (K + d + 1) l1 o (i : Int) (l0.getD i 0) c l0 (l0.length : Int) (i : Int) l1 (l1.length : Int) (j : Int) = nat_Mul.l0 K l1 o' l0 (l0.length : Int) ((i + 1 : Nat) : Int) ∧ o'.length = n ∧ Lim o' ∧ (∀ m, i + 1 + l1.length ≤ m → o'.getD m 0 = 0) ∧ val o' = V + 18446744073709551616 ^ i * ((l0.getD i 0).toNat * val l1) := by
  intro d
  induction d with
  | zero =>
    intro j o c hj hl ho hc hz hv
    have w1 : wrap64 ((i : Int) + (l1.length : Int)) = ((i + l1.length : Nat) : Int) := by clear hv; unfold wrap64; omega
    have w2 : wrap64 ((i : Int) + 1) = ((i + 1 : Nat) : Int) := by clear hv; unfold wrap64; omega
    refine ⟨o.set (i + l1.length) c, ?_, by simpa using hl, lim_set ho _ _ hc, ?_, ?_⟩
    · simp only [nat_Mul.l1]
      rw [if_neg (by clear hv; omega), w1, if_pos (by clear hv; omega), if_pos (by clear hv; omega), w2, Int.toNat_natCast]
    · intro m hm
      rw [getD_set_ne _ _ _ _ (by clear hv; omega)]
      exact hz m (by clear hv; omega)
    · have hs := val_set o (i + l1.length) c (by clear hv; omega)
      rw [hz _ (Nat.le_refl _)] at hs
      have hjl : j = l1.length := by clear hv hs; omega
      rw [hjl, List.take_length] at hv
      rw [show ((0 : Int)).toNat = 0 from rfl, Nat.mul_zero, Nat.add_zero] at hs
      rw [hs]; exact hv
  | succ d ih =>
    intro j o c hj hl ho hc hz hv
    obtain ⟨s, cr, hrun, hst, hs1, hs2⟩ := Mul_one l0 l1 h0 h1 i j n hi (by clear hv; omega) hn hb (K + d + 1) o c hl ho hc
    have hz2 : ∀ m, i + l1.length ≤ m → (o.set (i + j) s).getD m 0 = 0 := by
      clear hv hst ih hs1 hs2 hrun
      intro m hm
      rw [getD_set_ne o (i + j) m s (by omega)]
      exact hz m hm
    have hjd : j + 1 + d = l1.length := by clear hv hst ih hs1 hs2 hrun; omega
    have hij : i + j < o.length := by clear hv hst ih hs1 hs2 hrun; omega
    have hsl : (o.set (i + j) s).length = n := by rw [List.length_set]; exact hl
    have hv2 : val (o.set (i + j) s) + 18446744073709551616 ^ (i + (j + 1)) * cr.toNat = V + 18446744073709551616 ^ i * ((l0.getD i 0).toNat * val (l1.take (j + 1))) := by
      clear ih hz2 hz hsl hrun
      have hset := val_set o (i + j) s hij
      rw [take_getD, Nat.mul_add ((l0.getD i 0).toNat), Nat.mul_add (18446744073709551616 ^ i), ← Nat.add_assoc V, ← hv]
      have e3 : 18446744073709551616 ^ i * ((l0.getD i 0).toNat * (18446744073709551616 ^ j * (l1.getD j 0).toNat)) = 18446744073709551616 ^ (i + j) * ((l0.getD i 0).toNat * (l1.getD j 0).toNat) := by
        rw [Nat.pow_add, Nat.mul_left_comm _ (18446744073709551616 ^ j), Nat.mul_assoc]
      rw [e3, show i + (j + 1) = i + j + 1 from (Nat.add_assoc i j 1).symm, Nat.pow_succ]
      have e4 := congrArg (fun z => 18446744073709551616 ^ (i + j) * z) hst
      simp only [Nat.mul_add] at e4
      rw [← Nat.mul_assoc] at e4
      generalize 18446744073709551616 ^ (i + j) * 18446744073709551616 = PB at *
      generalize 18446744073709551616 ^ (i + j) = P at *
      omega
    obtain ⟨o', e1, e2⟩ := ih (j + 1) (o.set (i + j) s) cr hjd hsl (lim_set ho _ _ hs1) hs2 hz2 hv2
    refine ⟨o', ?_, e2⟩
    rw [← e1]
    exact hrun

theorem Mul_out (l0 l1 : List Int) (h0 : Lim l0) (h1 : Lim l1) (n : Nat) (hn : n = l0.length + l1.length) (hb : n ≤ 70368744177664) (K : Nat) :
    ∀ (d i : Nat) (o : List Int), i + d = l0.length → o.length = n → Lim o → (∀ m, i + l1.length ≤ m → o.getD m 0 = 0) → val o = val (l0.take i) * val l1 →
      nat_Mul.l0 (K + d * (l1.length + 2) + n + 2) l1 o l0 (l0.length : Int) (i : Int) = some (limbs (val l0 * val l1)) := by
  intro d
  induction d with
  | zero =>
    intro i o hi hl ho hz hv
    rw [show K + 0 * (l1.length + 2) + n + 2 = (K + n + 1) + 1 by omega]
    simp only [nat_Mul.l0]
    rw [if_neg (by omega), trim_ge o ho (by omega) (K + n + 1) (by omega), hv, List.take_of_length_le (by omega)]
    rfl
  | succ d ih =>
    intro i o hi hl ho hz hv
    obtain ⟨K1, hK1⟩ : ∃ K1, K1 = K + d * (l1.length + 2) + n + 2 := ⟨_, rfl⟩
    have hmul : (d + 1) * (l1.length + 2) = d * (l1.length + 2) + (l1.length + 2) := Nat.succ_mul _ _
    rw [show K + (d + 1) * (l1.length + 2) + n + 2 = K1 + l1.length + 1 + 1 by omega]
    obtain ⟨o', e1, e2, e3, e4, e5⟩ := Mul_in l0 l1 h0 h1 i (by omega) (val o) n hn hb K1 l1.length 0 o 0 (by omega) hl ho (by decide) hz (by simp [val])
    have ih' := ih (i + 1) o' (by clear e5; omega) e2 e3 e4 (by rw [e5, hv, take_getD, Nat.add_mul, Nat.mul_assoc])
    rw [← hK1, ← e1] at ih'
    rw [← ih']
    simp only [nat_Mul.l0]
    rw [if_pos (by clear ih ih' e5 e1; omega), if_pos (by clear ih ih' e5 e1; omega), if_pos (by clear ih ih' e5 e1; omega)]
    rfl
theorem Mul_ge (l0 l1 : List Int) (h0 : Lim l0) (h1 : Lim l1) (hb : l0.length + l1.length ≤ 35184372088832) (K : Nat) (hK : l0.length * (l1.length + 2) + l0.length + l1.length + 2 ≤ K) : nat_Mul.f K l0 l1 = some (limbs (val l0 * val l1)) := by
  unfold nat_Mul.f
  have w1 : wrap64 ((l0.length : Int) + (l1.length : Int)) = ((l0.length + l1.length : Nat) : Int) := by unfold wrap64; omega
  rw [w1, if_pos (by omega), Int.toNat_natCast, if_pos (by omega)]
  have h := Mul_out l0 l1 h0 h1 _ rfl (by omega) (K - (l0.length * (l1.length + 2) + l0.length + l1.length + 2)) l0.length 0 (List.replicate (l0.length + l1.length) 0) (by omega) (by simp) (zero_lim _) (fun m hm => by
    rw [List.getD_eq_getElem?_getD, List.getElem?_replicate]; split <;> rfl) (by rw [val_zero]; simp [val])
  rw [show K - (l0.length * (l1.length + 2) + l0.length + l1.length + 2) + l0.length * (l1.length + 2) + (l0.length + l1.length) + 2 = K by omega] at h
  exact h
end Go.Proofs.Ytfaknblpkegekaa.Q
