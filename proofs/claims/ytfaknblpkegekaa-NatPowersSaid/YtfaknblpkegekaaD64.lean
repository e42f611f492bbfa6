/- Plain law: what math/bits.Div64 answers. -/
import Derived.Test.YtfaknblpkegekaaQx4
import Derived.Test.YtfaknblpkegekaaNat8
namespace Go.Proofs.Ytfaknblpkegekaa.Q
open Go.RowKit Go.Proofs.YtfaknblpkegekaaW.PrintWords Go.Proofs.YtfaknblpkegekaaW.PrintLast Go.Proofs.YtfaknblpkegekaaW.PrintMore
set_option linter.unusedVariables false
theorem wr64 (x : Int) (h : 0 ≤ x ∧ x < 18446744073709551616) : IntKind.u64.wrap x = x := by
  rw [IntKind.wrap_u64]; omega
/-- A guess that fits isn't too great. -/
theorem guess_fits (y y1 y0 u u1 q r : Nat) (hy : y = y1 * 4294967296 + y0) (hq : q * y1 + r = u) (h : q * y0 ≤ 4294967296 * r + u1) : q * y ≤ u * 4294967296 + u1 := by
  rw [hy, Nat.mul_add, ← Nat.mul_assoc, ← hq]
  generalize q * y1 = a at *
  generalize q * y0 = b at *
  omega
/-- A guess that doesn't fit is too great. -/
theorem guess_over (y y1 y0 u u1 q r : Nat) (hy : y = y1 * 4294967296 + y0) (hq : q * y1 + r = u) (h : 4294967296 * r + u1 < q * y0) : u * 4294967296 + u1 < q * y := by
  rw [hy, Nat.mul_add, ← Nat.mul_assoc, ← hq]
  generalize q * y1 = a at *
  generalize q * y0 = b at *
  omega
theorem guess_huge (y u u1 q : Nat) (hu : u < y) (h1 : u1 < 4294967296) (h : 4294967296 ≤ q) : u * 4294967296 + u1 < q * y := by
  have h2 : 4294967296 * y ≤ q * y := Nat.mul_le_mul_right _ h
  generalize q * y = z at *
  omega
theorem lt_of_over {q y n : Nat} (h : n < q * y) : n / y < q := Nat.div_lt_of_lt_mul (by rw [Nat.mul_comm]; exact h)
theorem le_of_fits {q y n : Nat} (hy : 0 < y) (h : q * y ≤ n) : q ≤ n / y := (Nat.le_div_iff_mul_le hy).2 h
structure Half (y y1 y0 u u1 : Nat) : Prop where
  hy : y = y1 * 4294967296 + y0
  h0 : y0 < 4294967296
  h1 : y1 < 4294967296
  lo : 2147483648 ≤ y1
  hu : u < y
  hu1 : u1 < 4294967296
theorem l0_law (y y1 y0 u u1 s u0 : Nat) (H : Half y y1 y0 u u1) (K : Nat) : ∀ (d q r : Nat), q - (u * 4294967296 + u1) / y ≤ d → (u * 4294967296 + u1) / y ≤ q → q * y1 + r = u → r < 4294967296 → q ≤ 4294967300 →
    ∃ K', K ≤ K' ∧ bits_Div64.l0 (K + 2 * d + 2) y s y1 y0 u u1 u0 q r = bits_Div64.j2 K' y s y1 y0 u u1 u0 (((u * 4294967296 + u1) / y : Nat) : Int) := by
  have ypos : 0 < y := by have := H.hy; have := H.lo; omega
  obtain ⟨Q, hQ⟩ : ∃ Q, Q = (u * 4294967296 + u1) / y := ⟨_, rfl⟩
  rw [← hQ]
  have b0 := H.h0
  have b1 := H.h1
  have b2 := H.lo
  have b3 := H.hu1
  have over : ∀ q r : Nat, q * y1 + r = u → (4294967296 ≤ q ∨ 4294967296 * r + u1 < q * y0) → Q < q := fun q r h1 h2 => by
    rw [hQ]
    rcases h2 with h2 | h2
    · exact lt_of_over (guess_huge y u u1 q H.hu b3 h2)
    · exact lt_of_over (guess_over y y1 y0 u u1 q r H.hy h1 h2)
  have fits : ∀ q r : Nat, q * y1 + r = u → q * y0 ≤ 4294967296 * r + u1 → q ≤ Q := fun q r h1 h2 => by
    rw [hQ]
    exact le_of_fits ypos (guess_fits y y1 y0 u u1 q r H.hy h1 h2)
  intro d
  induction d with
  | zero =>
    intro q r hd hq hr hr32 hqm
    obtain rfl : q = Q := by omega
    have hn : ¬ (4294967296 ≤ q ∨ 4294967296 * r + u1 < q * y0) := fun h => Nat.lt_irrefl _ (over q r hr h)
    have hq2 : q < 4294967296 := by
      rcases Nat.lt_or_ge q 4294967296 with h | h
      · exact h
      · exact absurd (Or.inl h) hn
    have hp : q * y0 ≤ 4294967296 * r + u1 := by
      rcases Nat.lt_or_ge (4294967296 * r + u1) (q * y0) with h | h
      · exact absurd (Or.inr h) hn
      · exact h
    refine ⟨K, Nat.le_refl _, ?_⟩
    rw [show K + 2 * 0 + 2 = (K + 1) + 1 by omega]
    simp only [bits_Div64.l0]
    rw [if_neg (by omega)]
    have e : decide (IntKind.u64.wrap ((q : Int) * (y0 : Int)) > IntKind.u64.wrap (IntKind.u64.wrap (4294967296 * (r : Int)) + (u1 : Int))) = false := by
      rw [← Int.natCast_mul]
      generalize q * y0 = z at hp
      rw [wr64 (4294967296 * (r : Int)) (by omega), wr64 (4294967296 * (r : Int) + (u1 : Int)) (by omega), wr64 (z : Int) (by omega)]
      exact decide_eq_false (by omega)
    rw [e]
    simp only [bits_Div64.j1]
    rw [if_neg (by decide)]
  | succ d ih =>
    intro q r hd hq hr hr32 hqm
    rw [show K + 2 * (d + 1) + 2 = (K + 2 * d + 2 + 1) + 1 by omega]
    by_cases c : 4294967296 ≤ q ∨ 4294967296 * r + u1 < q * y0
    · have hgt := over q r hr c
      have hrun : bits_Div64.l0 ((K + 2 * d + 2 + 1) + 1) y s y1 y0 u u1 u0 q r = bits_Div64.j1 (K + 2 * d + 2 + 1) y s y1 y0 u u1 u0 q r true := by
        simp only [bits_Div64.l0]
        by_cases c1 : 4294967296 ≤ q
        · rw [if_pos (by omega)]
        · rw [if_neg (by omega)]
          have hp : 4294967296 * r + u1 < q * y0 := c.resolve_left c1
          have hz : q * y0 ≤ 4294967295 * 4294967295 := Nat.mul_le_mul (by omega) (by omega)
          have e : decide (IntKind.u64.wrap ((q : Int) * (y0 : Int)) > IntKind.u64.wrap (IntKind.u64.wrap (4294967296 * (r : Int)) + (u1 : Int))) = true := by
            rw [← Int.natCast_mul]
            generalize q * y0 = z at hp hz
            rw [wr64 (4294967296 * (r : Int)) (by omega), wr64 (4294967296 * (r : Int) + (u1 : Int)) (by omega), wr64 (z : Int) (by omega)]
            exact decide_eq_true (by omega)
          rw [e]
      rw [hrun]
      have e1 : IntKind.u64.wrap ((r : Int) + (y1 : Int)) = ((r + y1 : Nat) : Int) := by rw [wr64 _ (by omega)]; omega
      have e2 : IntKind.u64.wrap ((q : Int) - 1) = ((q - 1 : Nat) : Int) := by rw [wr64 _ (by omega)]; omega
      have hr' : (q - 1) * y1 + (r + y1) = u := by
        have : q * y1 = (q - 1) * y1 + y1 := by
          obtain ⟨q', rfl⟩ : ∃ q', q = q' + 1 := ⟨q - 1, by omega⟩
          rw [Nat.add_mul, Nat.one_mul]; rfl
        omega
      simp only [bits_Div64.j1]
      rw [if_pos trivial, e1, e2]
      by_cases c2 : 4294967296 ≤ r + y1
      · rw [if_pos (by omega)]
        have hle : q - 1 ≤ Q := fits (q - 1) (r + y1) hr' (by
          have h1 : (q - 1) * y0 ≤ 4294967299 * 4294967295 := Nat.mul_le_mul (by omega) (by omega)
          have h2 : q - 1 ≤ 4294967296 := by
            rcases Nat.lt_or_ge 4294967296 (q - 1) with h | h
            · exfalso
              have := H.hy
              have := H.hu
              have h3 : 4294967297 * y1 ≤ (q - 1) * y1 := Nat.mul_le_mul_right _ h
              generalize (q - 1) * y1 = z at *
              omega
            · exact h
          have h4 : (q - 1) * y0 ≤ 4294967296 * 4294967295 := Nat.mul_le_mul h2 (by omega)
          generalize (q - 1) * y0 = z at *
          omega)
        refine ⟨K + 2 * d + 2, by omega, ?_⟩
        rw [show q - 1 = Q by omega]
      · rw [if_neg (by omega)]
        exact ih (q - 1) (r + y1) (by omega) (by omega) hr' (by omega) (by omega)
    · have hq2 : q < 4294967296 := by
        rcases Nat.lt_or_ge q 4294967296 with h | h
        · exact h
        · exact absurd (Or.inl h) c
      have hp : q * y0 ≤ 4294967296 * r + u1 := by
        rcases Nat.lt_or_ge (4294967296 * r + u1) (q * y0) with h | h
        · exact absurd (Or.inr h) c
        · exact h
      have hle := fits q r hr hp
      obtain rfl : q = Q := by omega
      refine ⟨K + 2 * d + 2, by omega, ?_⟩
      simp only [bits_Div64.l0]
      rw [if_neg (by omega)]
      have e : decide (IntKind.u64.wrap ((q : Int) * (y0 : Int)) > IntKind.u64.wrap (IntKind.u64.wrap (4294967296 * (r : Int)) + (u1 : Int))) = false := by
        rw [← Int.natCast_mul]
        generalize q * y0 = z at hp
        rw [wr64 (4294967296 * (r : Int)) (by omega), wr64 (4294967296 * (r : Int) + (u1 : Int)) (by omega), wr64 (z : Int) (by omega)]
        exact decide_eq_false (by omega)
      rw [e]
      simp only [bits_Div64.j1]
      rw [if_neg (by decide)]
def divRes (y s q1 u u1 Q : Nat) : Int × Int := (IntKind.u64.wrap (IntKind.u64.wrap ((q1 : Int) * 4294967296) + (Q : Int)), shr .u64 (IntKind.u64.wrap (IntKind.u64.wrap (IntKind.u64.wrap ((u : Int) * 4294967296) + (u1 : Int)) - IntKind.u64.wrap ((Q : Int) * (y : Int)))) (s : Int))
theorem l1_law (y y1 y0 u u1 s q1 : Nat) (H : Half y y1 y0 u u1) (K : Nat) : ∀ (d q r : Nat), q - (u * 4294967296 + u1) / y ≤ d → (u * 4294967296 + u1) / y ≤ q → q * y1 + r = u → r < 4294967296 → q ≤ 4294967300 →
    bits_Div64.l1 (K + 2 * d + 2) y s y1 y0 u1 q1 r u q = some (divRes y s q1 u u1 ((u * 4294967296 + u1) / y)) := by
  have hs : (0 : Int) ≤ (s : Int) := by omega
  have ypos : 0 < y := by have := H.hy; have := H.lo; omega
  obtain ⟨Q, hQ⟩ : ∃ Q, Q = (u * 4294967296 + u1) / y := ⟨_, rfl⟩
  rw [← hQ]
  have b0 := H.h0
  have b1 := H.h1
  have b2 := H.lo
  have b3 := H.hu1
  have over : ∀ q r : Nat, q * y1 + r = u → (4294967296 ≤ q ∨ 4294967296 * r + u1 < q * y0) → Q < q := fun q r h1 h2 => by
    rw [hQ]
    rcases h2 with h2 | h2
    · exact lt_of_over (guess_huge y u u1 q H.hu b3 h2)
    · exact lt_of_over (guess_over y y1 y0 u u1 q r H.hy h1 h2)
  have fits : ∀ q r : Nat, q * y1 + r = u → q * y0 ≤ 4294967296 * r + u1 → q ≤ Q := fun q r h1 h2 => by
    rw [hQ]
    exact le_of_fits ypos (guess_fits y y1 y0 u u1 q r H.hy h1 h2)
  intro d
  induction d with
  | zero =>
    intro q r hd hq hr hr32 hqm
    obtain rfl : q = Q := by omega
    have hn : ¬ (4294967296 ≤ q ∨ 4294967296 * r + u1 < q * y0) := fun h => Nat.lt_irrefl _ (over q r hr h)
    have hq2 : q < 4294967296 := by
      rcases Nat.lt_or_ge q 4294967296 with h | h
      · exact h
      · exact absurd (Or.inl h) hn
    have hp : q * y0 ≤ 4294967296 * r + u1 := by
      rcases Nat.lt_or_ge (4294967296 * r + u1) (q * y0) with h | h
      · exact absurd (Or.inr h) hn
      · exact h
    rw [show K + 2 * 0 + 2 = (K + 1) + 1 by omega]
    simp only [bits_Div64.l1]
    rw [if_neg (by omega)]
    have e : decide (IntKind.u64.wrap ((q : Int) * (y0 : Int)) > IntKind.u64.wrap (IntKind.u64.wrap (4294967296 * (r : Int)) + (u1 : Int))) = false := by
      rw [← Int.natCast_mul]
      generalize q * y0 = z at hp
      rw [wr64 (4294967296 * (r : Int)) (by omega), wr64 (4294967296 * (r : Int) + (u1 : Int)) (by omega), wr64 (z : Int) (by omega)]
      exact decide_eq_false (by omega)
    rw [e]
    simp only [bits_Div64.j4]
    rw [if_neg (by decide), if_pos hs]
    rfl
  | succ d ih =>
    intro q r hd hq hr hr32 hqm
    rw [show K + 2 * (d + 1) + 2 = (K + 2 * d + 2 + 1) + 1 by omega]
    by_cases c : 4294967296 ≤ q ∨ 4294967296 * r + u1 < q * y0
    · have hgt := over q r hr c
      have hrun : bits_Div64.l1 ((K + 2 * d + 2 + 1) + 1) y s y1 y0 u1 q1 r u q = bits_Div64.j4 (K + 2 * d + 2 + 1) y s y1 y0 u1 q1 r u q true := by
        simp only [bits_Div64.l1]
        by_cases c1 : 4294967296 ≤ q
        · rw [if_pos (by omega)]
        · rw [if_neg (by omega)]
          have hp : 4294967296 * r + u1 < q * y0 := c.resolve_left c1
          have hz : q * y0 ≤ 4294967295 * 4294967295 := Nat.mul_le_mul (by omega) (by omega)
          have e : decide (IntKind.u64.wrap ((q : Int) * (y0 : Int)) > IntKind.u64.wrap (IntKind.u64.wrap (4294967296 * (r : Int)) + (u1 : Int))) = true := by
            rw [← Int.natCast_mul]
            generalize q * y0 = z at hp hz
            rw [wr64 (4294967296 * (r : Int)) (by omega), wr64 (4294967296 * (r : Int) + (u1 : Int)) (by omega), wr64 (z : Int) (by omega)]
            exact decide_eq_true (by omega)
          rw [e]
      rw [hrun]
      have e1 : IntKind.u64.wrap ((r : Int) + (y1 : Int)) = ((r + y1 : Nat) : Int) := by rw [wr64 _ (by omega)]; omega
      have e2 : IntKind.u64.wrap ((q : Int) - 1) = ((q - 1 : Nat) : Int) := by rw [wr64 _ (by omega)]; omega
      have hr' : (q - 1) * y1 + (r + y1) = u := by
        have : q * y1 = (q - 1) * y1 + y1 := by
          obtain ⟨q', rfl⟩ : ∃ q', q = q' + 1 := ⟨q - 1, by omega⟩
          rw [Nat.add_mul, Nat.one_mul]; rfl
        omega
      simp only [bits_Div64.j4]
      rw [if_pos trivial, e1, e2]
      by_cases c2 : 4294967296 ≤ r + y1
      · rw [if_pos (by omega)]
        have hle : q - 1 ≤ Q := fits (q - 1) (r + y1) hr' (by
          have h1 : (q - 1) * y0 ≤ 4294967299 * 4294967295 := Nat.mul_le_mul (by omega) (by omega)
          have h2 : q - 1 ≤ 4294967296 := by
            rcases Nat.lt_or_ge 4294967296 (q - 1) with h | h
            · exfalso
              have := H.hy
              have := H.hu
              have h3 : 4294967297 * y1 ≤ (q - 1) * y1 := Nat.mul_le_mul_right _ h
              generalize (q - 1) * y1 = z at *
              omega
            · exact h
          have h4 : (q - 1) * y0 ≤ 4294967296 * 4294967295 := Nat.mul_le_mul h2 (by omega)
          generalize (q - 1) * y0 = z at *
          omega)
        rw [if_pos hs, show q - 1 = Q by omega]
        rfl
      · rw [if_neg (by omega)]
        exact ih (q - 1) (r + y1) (by omega) (by omega) hr' (by omega) (by omega)
    · have hq2 : q < 4294967296 := by
        rcases Nat.lt_or_ge q 4294967296 with h | h
        · exact h
        · exact absurd (Or.inl h) c
      have hp : q * y0 ≤ 4294967296 * r + u1 := by
        rcases Nat.lt_or_ge (4294967296 * r + u1) (q * y0) with h | h
        · exact absurd (Or.inr h) c
        · exact h
      have hle := fits q r hr hp
      obtain rfl : q = Q := by omega
      simp only [bits_Div64.l1]
      rw [if_neg (by omega)]
      have e : decide (IntKind.u64.wrap ((q : Int) * (y0 : Int)) > IntKind.u64.wrap (IntKind.u64.wrap (4294967296 * (r : Int)) + (u1 : Int))) = false := by
        rw [← Int.natCast_mul]
        generalize q * y0 = z at hp
        rw [wr64 (4294967296 * (r : Int)) (by omega), wr64 (4294967296 * (r : Int) + (u1 : Int)) (by omega), wr64 (z : Int) (by omega)]
        exact decide_eq_false (by omega)
      rw [e]
      simp only [bits_Div64.j4]
      rw [if_neg (by decide), if_pos hs]
      rfl
theorem sub_wraps (a b z : Nat) (h : z ≤ a * 4294967296 + b) (h2 : a * 4294967296 + b - z < 18446744073709551616) :
    IntKind.u64.wrap (IntKind.u64.wrap (IntKind.u64.wrap ((a : Int) * 4294967296) + (b : Int)) - IntKind.u64.wrap (z : Int)) = ((a * 4294967296 + b - z : Nat) : Int) := by
  rw [IntKind.wrap_u64, IntKind.wrap_u64, IntKind.wrap_u64, IntKind.wrap_u64]
  omega
theorem divRes_eq (y s q1 u u1 Q : Nat) (hs : s ≤ 63) (hq1 : q1 < 4294967296) (hQ : Q < 4294967296) (h : Q * y ≤ u * 4294967296 + u1) (h2 : u * 4294967296 + u1 - Q * y < 18446744073709551616) :
    divRes y s q1 u u1 Q = (((q1 * 4294967296 + Q : Nat) : Int), (((u * 4294967296 + u1 - Q * y) / 2 ^ s : Nat) : Int)) := by
  unfold divRes
  refine Prod.ext ?_ ?_
  · simp only
    rw [wr64 ((q1 : Int) * 4294967296) (by omega), wr64 ((q1 : Int) * 4294967296 + (Q : Int)) (by omega)]
    omega
  · simp only
    rw [← Int.natCast_mul, sub_wraps u u1 (Q * y) h h2]
    unfold shr
    rw [Int.toNat_natCast, Nat.min_eq_left (show s ≤ IntKind.u64.bits by show s ≤ 64; omega), Int.natCast_ediv, Int.natCast_pow]
    rfl
/-- Two halves: a quotient and the rest. -/
theorem halves (y m u0 : Nat) (hy : 0 < y) : (m / y) * 4294967296 + ((m % y) * 4294967296 + u0) / y = (m * 4294967296 + u0) / y ∧ ((m % y) * 4294967296 + u0) % y = (m * 4294967296 + u0) % y := by
  have e := Nat.div_add_mod m y
  obtain ⟨q, hq⟩ : ∃ q, q = m / y := ⟨_, rfl⟩
  obtain ⟨r, hr⟩ : ∃ r, r = m % y := ⟨_, rfl⟩
  rw [← hq, ← hr] at e
  rw [← hq, ← hr]
  have e2 : m * 4294967296 + u0 = (r * 4294967296 + u0) + y * (q * 4294967296) := by
    rw [← Nat.mul_assoc]
    generalize y * q = z at *
    omega
  have e3 : (m * 4294967296 + u0) / y = (r * 4294967296 + u0) / y + q * 4294967296 := by
    rw [e2]
    exact Nat.add_mul_div_left (r * 4294967296 + u0) (q * 4294967296) hy
  have e4 : (m * 4294967296 + u0) % y = (r * 4294967296 + u0) % y := by
    rw [e2]
    exact Nat.add_mul_mod_self_left (r * 4294967296 + u0) y (q * 4294967296)
  exact ⟨by rw [e3, Nat.add_comm], e4.symm⟩
theorem j2_law (y y1 y0 u u1 s u0 : Nat) (H : Half y y1 y0 u u1) (hs : s ≤ 63) (hu0 : u0 < 4294967296) (hyB : y < 18446744073709551616) (K : Nat) (hK : 20000000000 ≤ K) :
    bits_Div64.j2 K y s y1 y0 u u1 u0 (((u * 4294967296 + u1) / y : Nat) : Int) = some (((((u * 4294967296 + u1) * 4294967296 + u0) / y : Nat) : Int), ((((u * 4294967296 + u1) * 4294967296 + u0) % y / 2 ^ s : Nat) : Int)) := by
  have ypos : 0 < y := by have := H.hy; have := H.lo; omega
  have b1 := H.h1
  have b2 := H.lo
  have hh := halves y (u * 4294967296 + u1) u0 ypos
  have hN := Nat.div_add_mod (u * 4294967296 + u1) y
  have hr := Nat.mod_lt (u * 4294967296 + u1) ypos
  have hq : (u * 4294967296 + u1) / y < 4294967296 := Nat.div_lt_of_lt_mul (by have := H.hu; have := H.hu1; omega)
  obtain ⟨q, hqe⟩ : ∃ q, q = (u * 4294967296 + u1) / y := ⟨_, rfl⟩
  obtain ⟨r, hre⟩ : ∃ r, r = (u * 4294967296 + u1) % y := ⟨_, rfl⟩
  rw [← hqe, ← hre] at hh hN
  rw [← hqe] at hq ⊢
  rw [← hre] at hr
  obtain ⟨K', rfl⟩ : ∃ K', K = K' + 1 := ⟨K - 1, by omega⟩
  have e1 : IntKind.u64.wrap (IntKind.u64.wrap (IntKind.u64.wrap ((u : Int) * 4294967296) + (u1 : Int)) - IntKind.u64.wrap ((q : Int) * (y : Int))) = (r : Int) := by
    have hm : q * y = y * q := Nat.mul_comm _ _
    rw [← Int.natCast_mul, hm]
    rw [sub_wraps u u1 (y * q) (by clear hh; omega) (by clear hh; omega)]
    clear hm hh
    generalize y * q = z at *
    omega
  have H2 : Half y y1 y0 r u0 := ⟨H.hy, H.h0, H.h1, H.lo, hr, hu0⟩
  have hr64 : r < 18446744073709551616 := by omega
  have e2 : IntKind.u64.wrap (Int.tdiv (r : Int) (y1 : Int)) = ((r / y1 : Nat) : Int) := by
    have h1 : Int.tdiv (r : Int) (y1 : Int) = ((r / y1 : Nat) : Int) := by rw [Int.tdiv_eq_ediv_of_nonneg (by omega)]; exact (Int.natCast_ediv r y1).symm
    have h2 := Nat.div_le_self r y1
    rw [h1]
    clear h1 hh
    generalize r / y1 = z at h2 ⊢
    exact wr64 (z : Int) (by omega)
  have hd1 := Nat.div_add_mod r y1
  have hd2 := Nat.mod_lt r (show 0 < y1 by omega)
  have e3 : IntKind.u64.wrap ((r : Int) - IntKind.u64.wrap (((r / y1 : Nat) : Int) * (y1 : Int))) = ((r % y1 : Nat) : Int) := by
    rw [← Int.natCast_mul, Nat.mul_comm (r / y1) y1]
    generalize y1 * (r / y1) = z at *
    generalize r % y1 = m at *
    rw [wr64 (z : Int) (by omega), wr64 _ (by omega)]
    omega
  have hq0 : r / y1 ≤ 4294967300 := by
    have h1 : r < 4294967300 * y1 := by
      have := H.hy
      have := H.h0
      omega
    exact Nat.le_of_lt (Nat.div_lt_of_lt_mul (by rw [Nat.mul_comm]; exact h1))
  simp only [bits_Div64.j2]
  rw [if_neg (by omega), e1, e2, e3]
  have hQ0 : (r * 4294967296 + u0) / y ≤ r / y1 := by
    refine Nat.le_trans ?_ (Nat.le_refl _)
    have h1 : y1 * 4294967296 ≤ y := by have := H.hy; omega
    have h2 : (r * 4294967296 + u0) / y ≤ (r * 4294967296 + u0) / (y1 * 4294967296) := Nat.div_le_div_left h1 (by omega)
    have h3 : (r * 4294967296 + u0) / (y1 * 4294967296) = r / y1 := by
      rw [Nat.mul_comm y1, ← Nat.div_div_eq_div_mul, show (r * 4294967296 + u0) / 4294967296 = r by omega]
    omega
  have hl := l1_law y y1 y0 r u0 s q H2 (K' - 2 * (r / y1) - 2) (r / y1) (r / y1) (r % y1) (Nat.sub_le _ _) hQ0 (by rw [Nat.mul_comm]; exact hd1) (Nat.lt_trans hd2 b1) hq0
  rw [show K' - 2 * (r / y1) - 2 + 2 * (r / y1) + 2 = K' by omega] at hl
  rw [hl]
  have hlt : (r * 4294967296 + u0) / y < 4294967296 := Nat.div_lt_of_lt_mul (by clear hh hl; omega)
  have hfit : (r * 4294967296 + u0) / y * y ≤ r * 4294967296 + u0 := Nat.div_mul_le_self _ _
  have hrest : r * 4294967296 + u0 - (r * 4294967296 + u0) / y * y = (r * 4294967296 + u0) % y := by
    have := Nat.div_add_mod (r * 4294967296 + u0) y
    rw [Nat.mul_comm] at this
    omega
  rw [divRes_eq y s q r u0 _ hs hq hlt hfit (by rw [hrest]; have := Nat.mod_lt (r * 4294967296 + u0) ypos; omega), hrest, hh.1, hh.2]
theorem or_lay (a b i : Nat) (h : a < 2 ^ i) (ha : b * 2 ^ i + a < 18446744073709551616) : Go.bits .or .u64 ((b * 2 ^ i : Nat) : Int) (a : Int) = ((b * 2 ^ i + a : Nat) : Int) := by
  have e := Nat.shiftLeft_add_eq_or_of_lt h b
  rw [Nat.shiftLeft_eq] at e
  have e2 : (2 : Nat) ^ 64 = 18446744073709551616 := by decide
  simp only [Go.bits]
  have hb64 : IntKind.u64.bits = 64 := rfl
  rw [BitVec.ofInt_natCast, BitVec.ofInt_natCast, BitVec.toNat_or, BitVec.toNat_ofNat, BitVec.toNat_ofNat, hb64, Nat.mod_eq_of_lt (by rw [e2]; omega), Nat.mod_eq_of_lt (by rw [e2]; omega), ← e, IntKind.wrap_u64]
  clear e
  generalize b * 2 ^ i + a = z at ha ⊢
  omega
theorem and32 (a : Nat) (h : a < 18446744073709551616) : Go.bits .and .u64 (a : Int) 4294967295 = ((a % 4294967296 : Nat) : Int) := by
  have ha : a < 2 ^ 64 := by omega
  have e1 : (4294967295 : Int) = ((2 ^ 32 - 1 : Nat) : Int) := by decide
  simp only [Go.bits]
  have hb64 : IntKind.u64.bits = 64 := rfl
  rw [e1, BitVec.ofInt_natCast, BitVec.ofInt_natCast, BitVec.toNat_and, BitVec.toNat_ofNat, BitVec.toNat_ofNat, hb64, Nat.mod_eq_of_lt ha, Nat.mod_eq_of_lt (by decide : 2 ^ 32 - 1 < 2 ^ 64), Nat.and_two_pow_sub_one_eq_mod, IntKind.wrap_u64]
  omega
theorem shl_in (a s : Nat) (hs : s ≤ 64) : shl .u64 (a : Int) (s : Int) = ((a * 2 ^ s % 18446744073709551616 : Nat) : Int) := by
  unfold shl
  rw [Int.toNat_natCast, Nat.min_eq_left (show s ≤ IntKind.u64.bits from hs), IntKind.wrap_u64]
  have a2 : ((2 : Int)) ^ s = ((2 ^ s : Nat) : Int) := by rw [Int.natCast_pow]; rfl
  rw [a2, ← Int.natCast_mul]
  generalize a * 2 ^ s = z
  omega
theorem shr_in (a s : Nat) (hs : s ≤ 64) : shr .u64 (a : Int) (s : Int) = ((a / 2 ^ s : Nat) : Int) := by
  unfold shr
  rw [Int.toNat_natCast, Nat.min_eq_left (show s ≤ IntKind.u64.bits from hs), Int.natCast_ediv, Int.natCast_pow]
  rfl
/-- How many noughts are on top. -/
theorem lz_eq (y : Nat) (h0 : 0 < y) (hy : y < 18446744073709551616) : ∃ s : Nat, s ≤ 63 ∧ bits_LeadingZeros64.f (y : Int) = some (s : Int) ∧ 9223372036854775808 ≤ y * 2 ^ s ∧ y * 2 ^ s < 18446744073709551616 := by
  obtain ⟨k, e, l0, l1⟩ := nbits_in y (by omega)
  have hk : k < 64 := by
    rcases Nat.lt_or_ge k 64 with g | g
    · exact g
    · have := Nat.pow_le_pow_right (show 0 < 2 by decide) g
      rw [show (2 : Nat) ^ 64 = 18446744073709551616 by decide] at this
      omega
  refine ⟨63 - k, by omega, ?_, ?_, ?_⟩
  · unfold bits_LeadingZeros64.f bits_Len64.f
    rw [if_pos (by omega), Option.bind_some, Int.toNat_natCast, bitLen_nbits y hy, e]
    congr 1
    unfold wrap64
    omega
  · have h2 := Nat.mul_le_mul_right (2 ^ (63 - k)) l0
    rw [← Nat.pow_add, show k + (63 - k) = 63 by omega, show (2 : Nat) ^ 63 = 9223372036854775808 by decide] at h2
    exact h2
  · have h2 := Nat.mul_lt_mul_of_pos_right l1 (Nat.two_pow_pos (63 - k))
    rw [← Nat.pow_add, show k + 1 + (63 - k) = 64 by omega, show (2 : Nat) ^ 64 = 18446744073709551616 by decide] at h2
    exact h2
theorem Div64_eq (hi lo y : Nat) (h : hi < y) (hlo : lo < 18446744073709551616) (hy : y < 18446744073709551616) (K : Nat) (hK : 50000000000 ≤ K) :
    bits_Div64.f K (hi : Int) (lo : Int) (y : Int) = some ((((hi * 18446744073709551616 + lo) / y : Nat) : Int), (((hi * 18446744073709551616 + lo) % y : Nat) : Int)) := by
  unfold bits_Div64.f
  rw [if_neg (by omega), if_neg (by omega)]
  by_cases c : hi = 0
  · subst c
    rw [if_pos (show ((0 : Nat) : Int) = 0 from rfl), Nat.zero_mul, Nat.zero_add]
    have e1 : Int.tdiv (lo : Int) (y : Int) = ((lo / y : Nat) : Int) := by rw [Int.tdiv_eq_ediv_of_nonneg (by omega)]; exact (Int.natCast_ediv lo y).symm
    have e2 : Int.tmod (lo : Int) (y : Int) = ((lo % y : Nat) : Int) := by rw [Int.tmod_eq_emod_of_nonneg (by omega)]; exact (Int.natCast_emod lo y).symm
    have h2 := Nat.div_le_self lo y
    rw [e1, e2]
    generalize lo / y = z at h2 ⊢
    rw [wr64 (z : Int) (by omega)]
  · rw [if_neg (by omega)]
    obtain ⟨s, hs, es, n0, n1⟩ := lz_eq y (by omega) hy
    rw [es, Option.bind_some]
    have w1 : IntKind.u64.wrap (s : Int) = (s : Int) := wr64 _ (by omega)
    have w2 : IntKind.u64.wrap (64 - (s : Int)) = ((64 - s : Nat) : Int) := by rw [wr64 (64 - (s : Int)) (by omega)]; omega
    rw [w1, w2, if_pos (by omega), if_pos (by omega)]
    obtain ⟨S, hS⟩ : ∃ S, S = 2 ^ s := ⟨_, rfl⟩
    obtain ⟨T, hT⟩ : ∃ T, T = 2 ^ (64 - s) := ⟨_, rfl⟩
    have hST : S * T = 18446744073709551616 := by rw [hS, hT, ← Nat.pow_add, show s + (64 - s) = 64 by omega]
    have hSp : 0 < S := by rw [hS]; exact Nat.two_pow_pos s
    have hTp : 0 < T := by rw [hT]; exact Nat.two_pow_pos _
    rw [← hS] at n0 n1
    have hhi : hi * S < y * S := Nat.mul_lt_mul_of_pos_right h hSp
    have ey : shl .u64 (y : Int) (s : Int) = ((y * S : Nat) : Int) := by rw [shl_in y s (by omega), ← hS, Nat.mod_eq_of_lt n1]
    have eh : shl .u64 (hi : Int) (s : Int) = ((hi * S : Nat) : Int) := by rw [shl_in hi s (by omega), ← hS, Nat.mod_eq_of_lt (by omega)]
    have el : shl .u64 (lo : Int) (s : Int) = ((lo * S % 18446744073709551616 : Nat) : Int) := by rw [shl_in lo s (by omega), ← hS]
    have er : shr .u64 (lo : Int) ((64 - s : Nat) : Int) = ((lo / T : Nat) : Int) := by rw [shr_in lo (64 - s) (by omega), ← hT]
    have hlt : lo / T < S := Nat.div_lt_of_lt_mul (by rw [Nat.mul_comm, hST]; exact hlo)
    have hU : hi * S + lo / T < y * S := by
      have h3 : (hi + 1) * S ≤ y * S := Nat.mul_le_mul_right S h
      rw [Nat.add_mul, Nat.one_mul] at h3
      omega
    have eo : Go.bits .or .u64 ((hi * S : Nat) : Int) ((lo / T : Nat) : Int) = ((hi * S + lo / T : Nat) : Int) := by
      rw [hS]
      exact or_lay (lo / T) hi s (by rw [← hS]; exact hlt) (by rw [← hS]; omega)
    rw [ey, eh, el, er, eo]
    -- the number, shifted
    have hnum : (hi * 18446744073709551616 + lo) * S = (hi * S + lo / T) * 18446744073709551616 + lo * S % 18446744073709551616 := by
      have e1 : lo * S / 18446744073709551616 = lo / T := by rw [← hST, Nat.mul_comm lo S, Nat.mul_div_mul_left _ _ hSp]
      have e2 := Nat.div_add_mod (lo * S) 18446744073709551616
      rw [e1] at e2
      rw [Nat.add_mul, Nat.mul_right_comm hi 18446744073709551616 S]
      generalize hi * S = a at *
      generalize lo * S = b at *
      generalize lo / T = d at *
      generalize b % 18446744073709551616 = r at *
      omega
    have hL : lo * S % 18446744073709551616 < 18446744073709551616 := Nat.mod_lt _ (by decide)
    obtain ⟨Y, hY⟩ : ∃ Y, Y = y * S := ⟨_, rfl⟩
    obtain ⟨U, hU2⟩ : ∃ U, U = hi * S + lo / T := ⟨_, rfl⟩
    obtain ⟨L, hL2⟩ : ∃ L, L = lo * S % 18446744073709551616 := ⟨_, rfl⟩
    rw [← hY] at n0 n1 hU ⊢
    rw [← hU2] at hU hnum ⊢
    rw [← hL2] at hL hnum ⊢
    clear ey eh el er eo hhi hlt hU2 hL2
    rw [and32 Y n1, and32 L hL]
    have f1 : (Y : Int) / 4294967296 = ((Y / 4294967296 : Nat) : Int) := by omega
    have f2 : (L : Int) / 4294967296 = ((L / 4294967296 : Nat) : Int) := by omega
    rw [f1, f2, if_neg (by omega)]
    have hy1 : 2147483648 ≤ Y / 4294967296 ∧ Y / 4294967296 < 4294967296 := by omega
    have H : Half Y (Y / 4294967296) (Y % 4294967296) U (L / 4294967296) := ⟨by omega, by omega, hy1.2, hy1.1, hU, by omega⟩
    obtain ⟨y1, hy1e⟩ : ∃ y1, y1 = Y / 4294967296 := ⟨_, rfl⟩
    rw [← hy1e] at H hy1 ⊢
    have hd1 := Nat.div_add_mod U y1
    have hd2 := Nat.mod_lt U (show 0 < y1 by omega)
    have g1 : IntKind.u64.wrap (Int.tdiv (U : Int) (y1 : Int)) = ((U / y1 : Nat) : Int) := by
      have h1 : Int.tdiv (U : Int) (y1 : Int) = ((U / y1 : Nat) : Int) := by rw [Int.tdiv_eq_ediv_of_nonneg (by omega)]; exact (Int.natCast_ediv U y1).symm
      have h2 := Nat.div_le_self U y1
      rw [h1]
      clear h1 hd1
      generalize U / y1 = z at h2 ⊢
      exact wr64 (z : Int) (by omega)
    have g2 : IntKind.u64.wrap ((U : Int) - IntKind.u64.wrap (((U / y1 : Nat) : Int) * (y1 : Int))) = ((U % y1 : Nat) : Int) := by
      rw [← Int.natCast_mul, Nat.mul_comm (U / y1) y1]
      clear g1
      generalize y1 * (U / y1) = z at *
      generalize U % y1 = m at *
      rw [wr64 (z : Int) (by omega), wr64 ((U : Int) - (z : Int)) (by omega)]
      omega
    rw [g1, g2]
    have hq0 : U / y1 ≤ 4294967300 := by
      have h1 : U < 4294967300 * y1 := by omega
      exact Nat.le_of_lt (Nat.div_lt_of_lt_mul (by rw [Nat.mul_comm]; exact h1))
    have hQ0 : (U * 4294967296 + L / 4294967296) / Y ≤ U / y1 := by
      have h1 : y1 * 4294967296 ≤ Y := by omega
      have h2 : (U * 4294967296 + L / 4294967296) / Y ≤ (U * 4294967296 + L / 4294967296) / (y1 * 4294967296) := Nat.div_le_div_left h1 (by omega)
      have h3 : (U * 4294967296 + L / 4294967296) / (y1 * 4294967296) = U / y1 := by
        rw [Nat.mul_comm y1, ← Nat.div_div_eq_div_mul, show (U * 4294967296 + L / 4294967296) / 4294967296 = U by omega]
      omega
    obtain ⟨K', hK', hrun⟩ := l0_law Y y1 (Y % 4294967296) U (L / 4294967296) s (L % 4294967296) H (K - 2 * (U / y1) - 2) (U / y1) (U / y1) (U % y1) (Nat.sub_le _ _) hQ0 (by rw [Nat.mul_comm]; exact hd1) (by omega) hq0
    rw [show K - 2 * (U / y1) - 2 + 2 * (U / y1) + 2 = K by omega] at hrun
    rw [hrun, j2_law Y y1 (Y % 4294967296) U (L / 4294967296) s (L % 4294967296) H hs (by omega) n1 K' (by omega)]
    have hm : (U * 4294967296 + L / 4294967296) * 4294967296 + L % 4294967296 = (hi * 18446744073709551616 + lo) * S := by rw [hnum]; omega
    rw [hm, hY, ← hS, Nat.mul_div_mul_right _ _ hSp, Nat.mul_mod_mul_right, Nat.mul_div_cancel _ hSp]
end Go.Proofs.Ytfaknblpkegekaa.Q
