/- Plain laws for nat.DivMod: a digit of the quotient. -/
import Derived.Test.YtfaknblpkegekaaDg
import Derived.Test.YtfaknblpkegekaaDp
import Derived.Test.YtfaknblpkegekaaD64
import Derived.Lib.Mul64
namespace Go.Proofs.Ytfaknblpkegekaa.Q
open Go.RowKit Go.Proofs.YtfaknblpkegekaaW.PrintWords Go.Proofs.YtfaknblpkegekaaW.PrintLast Go.Proofs.YtfaknblpkegekaaW.PrintMore
set_option linter.unusedVariables false
theorem row_set {l : List Int} (h : Lim l) (j : Nat) (y : Int) (hy : 0 ≤ y ∧ y < 18446744073709551616) : Lim (l.set j y) := fun z hz => by
  rcases List.mem_or_eq_of_mem_set hz with h1 | h1
  · exact h z h1
  · rw [h1]; exact hy
theorem zrow_lim (n : Nat) : Lim (List.replicate n 0) := fun x hx => by
  rw [List.eq_of_mem_replicate hx]; decide
theorem val_put : ∀ (l : List Int) (j : Nat) (y : Int), j < l.length → val (l.set j y) + 18446744073709551616 ^ j * (l.getD j 0).toNat = val l + 18446744073709551616 ^ j * y.toNat
  | x :: l, 0, y, _ => by
    simp only [List.set_cons_zero, val, List.getD_cons_zero, Nat.pow_zero, Nat.one_mul]
    omega
  | x :: l, j + 1, y, h => by
    have ih := val_put l j y (by simpa using h)
    simp only [List.set_cons_succ, val, List.getD_cons_succ]
    rw [Nat.pow_succ, Nat.mul_comm (18446744073709551616 ^ j) 18446744073709551616, Nat.mul_assoc, Nat.mul_assoc]
    omega
theorem Mul64_is (x y : Nat) (hx : x < 18446744073709551616) (hy : y < 18446744073709551616) : bits_Mul64.f x y = some (((x * y / 18446744073709551616 : Nat) : Int), ((x * y % 18446744073709551616 : Nat) : Int)) := by
  unfold bits_Mul64.f
  have h := Lib.mul64_hi x y hx hy
  rw [and32 x hx, and32 y hy]
  have e0 : (x : Int) / 4294967296 = ((x / 4294967296 : Nat) : Int) := by omega
  have e1 : (y : Int) / 4294967296 = ((y / 4294967296 : Nat) : Int) := by omega
  rw [e0, e1]
  have hp : (x / 4294967296) * (y / 4294967296) ≤ 18446744065119617025 := Lib.half_mul_le (by omega) (by omega)
  have hq : (x / 4294967296) * (y % 4294967296) ≤ 18446744065119617025 := Lib.half_mul_le (by omega) (by omega)
  have hr : (x % 4294967296) * (y / 4294967296) ≤ 18446744065119617025 := Lib.half_mul_le (by omega) (by omega)
  simp only [← Int.natCast_mul]
  generalize (x / 4294967296) * (y / 4294967296) = p11 at *
  generalize (x / 4294967296) * (y % 4294967296) = p10 at *
  generalize (x % 4294967296) * (y / 4294967296) = p01 at *
  generalize (x % 4294967296) * (y % 4294967296) = p00 at *
  generalize x * y = z at *
  clear e0 e1
  obtain ⟨h0, h1, h2, h3⟩ := h
  rw [wr64 (p00 : Int) (by omega), wr64 (p01 : Int) (by omega), wr64 (p10 : Int) (by omega), wr64 (p11 : Int) (by omega)]
  have e4 : (p10 : Int) + (p00 : Int) / 4294967296 = ((p10 + p00 / 4294967296 : Nat) : Int) := by omega
  rw [e4, wr64 ((p10 + p00 / 4294967296 : Nat) : Int) (by omega), and32 (p10 + p00 / 4294967296) (by omega)]
  rw [wr64 (((p10 + p00 / 4294967296) % 4294967296 : Nat) + (p01 : Int)) (by omega)]
  rw [IntKind.wrap_u64, IntKind.wrap_u64, IntKind.wrap_u64]
  congr 1
  refine Prod.ext ?_ ?_
  · simp only; omega
  · simp only; omega
/-- One limb of the product taken off. -/
theorem dig_limb (x y g cr bw : Int) (hx : 0 ≤ x ∧ x < 18446744073709551616) (hy : 0 ≤ y ∧ y < 18446744073709551616) (hg : 0 ≤ g ∧ g < 18446744073709551616) (hc : 0 ≤ cr ∧ cr < 18446744073709551616) (hb : 0 ≤ bw ∧ bw ≤ 1) :
    ∃ hi lo, bits_Mul64.f y g = some (hi, lo) ∧ ∃ s b' c' : Int, sub64s x (add64s lo cr 0) bw = s ∧ sub64c x (add64s lo cr 0) bw = b' ∧ IntKind.u64.wrap (hi + add64c lo cr 0) = c' ∧
      s.toNat + g.toNat * y.toNat + cr.toNat + bw.toNat = x.toNat + 18446744073709551616 * (b'.toNat + c'.toNat) ∧ (0 ≤ s ∧ s < 18446744073709551616) ∧ (0 ≤ b' ∧ b' ≤ 1) ∧ (0 ≤ c' ∧ c' < 18446744073709551616) ∧ (y = 0 → c' = 0) := by
  obtain ⟨a, rfl⟩ : ∃ a : Nat, y = a := ⟨y.toNat, by omega⟩
  obtain ⟨b, rfl⟩ : ∃ b : Nat, g = b := ⟨g.toNat, by omega⟩
  refine ⟨_, _, Mul64_is a b (by omega) (by omega), ?_⟩
  have hm : a * b ≤ 340282366920938463426481119284349108225 := Nat.mul_le_mul (show a ≤ 18446744073709551615 by omega) (show b ≤ 18446744073709551615 by omega)
  have hz : (a : Int) = 0 → a * b = 0 := fun h => by
    have : a = 0 := by omega
    rw [this, Nat.zero_mul]
  rw [Int.toNat_natCast, Int.toNat_natCast, Nat.mul_comm b a]
  generalize a * b = z at hm hz ⊢
  obtain ⟨lo, hlo⟩ : ∃ lo : Int, lo = ((z % 18446744073709551616 : Nat) : Int) := ⟨_, rfl⟩
  rw [← hlo]
  have s1 := add64_eq lo cr 0 (by omega) hc (by decide)
  generalize add64s lo cr 0 = t at *
  generalize add64c lo cr 0 = c1 at *
  have s2 := sub64_eq x t bw hx s1.2.1 hb
  generalize sub64s x t bw = s at *
  generalize sub64c x t bw = b2 at *
  rw [show ((0 : Int)).toNat = 0 from rfl] at s1
  refine ⟨s, b2, _, rfl, rfl, rfl, ?_, s2.2.1, s2.2.2, ?_, ?_⟩
  · rw [IntKind.wrap_u64]; clear hz; omega
  · rw [IntKind.wrap_u64]; omega
  · intro h
    have := hz h
    rw [IntKind.wrap_u64]; clear hz; omega
theorem dig_val (u v : List Int) (i : Nat) (W g bw cr b' c' : Nat) (s : Int) (hi : i < u.length) (hv : val u + g * val (v.take i) = W + 18446744073709551616 ^ i * (bw + cr))
    (hs : s.toNat + g * (v.getD i 0).toNat + cr + bw = (u.getD i 0).toNat + 18446744073709551616 * (b' + c')) :
    val (u.set i s) + g * val (v.take (i + 1)) = W + 18446744073709551616 ^ (i + 1) * (b' + c') := by
  have h := val_put u i s hi
  rw [take_getD, Nat.mul_add g, Nat.mul_left_comm g, Nat.pow_succ]
  have e4 := congrArg (fun z => 18446744073709551616 ^ i * z) hs
  simp only [Nat.mul_add] at e4
  rw [Nat.mul_add] at hv
  rw [← Nat.mul_assoc (18446744073709551616 ^ i) 18446744073709551616, ← Nat.mul_assoc (18446744073709551616 ^ i) 18446744073709551616] at e4
  rw [Nat.mul_add]
  generalize 18446744073709551616 ^ i * 18446744073709551616 = PB at *
  generalize 18446744073709551616 ^ i = P at *
  generalize g * val (v.take i) = gv at *
  omega
theorem dig_one (u v : List Int) (n i : Nat) (hn : v.length = n) (hi : i ≤ n) (hl : u.length = n + 1) (hb : n ≤ 17592186044416) (hu : Lim u) (hv : Lim v) (g bw cr : Int) (hg : 0 ≤ g ∧ g < 18446744073709551616) (hc : 0 ≤ cr ∧ cr < 18446744073709551616) (hw : 0 ≤ bw ∧ bw ≤ 1) (K : Nat) :
    ∃ s b' c' : Int, nat_digit.l0 (K + 1) u v (n : Int) g bw cr ((n + 1 : Nat) : Int) (i : Int) = nat_digit.l0 K (u.set i s) v (n : Int) g b' c' ((n + 1 : Nat) : Int) ((i + 1 : Nat) : Int) ∧
      s.toNat + g.toNat * (v.getD i 0).toNat + cr.toNat + bw.toNat = (u.getD i 0).toNat + 18446744073709551616 * (b'.toNat + c'.toNat) ∧ (0 ≤ s ∧ s < 18446744073709551616) ∧ (0 ≤ b' ∧ b' ≤ 1) ∧ (0 ≤ c' ∧ c' < 18446744073709551616) ∧ (i = n → c' = 0) := by
  have w2 : wrap64 ((i : Int) + 1) = ((i + 1 : Nat) : Int) := by unfold wrap64; omega
  have q1 : (i : Int) < ((n + 1 : Nat) : Int) := by omega
  have q2 : (0 : Int) ≤ (i : Int) := by omega
  have q3 : (i : Int) < (u.length : Int) := by omega
  have r1 : rd u (i : Int) = u.getD i 0 := rfl
  have hz : i = n → v.getD i 0 = 0 := fun h => by
    rw [List.getD_eq_getElem?_getD, List.getElem?_eq_none (by omega)]; rfl
  obtain ⟨hi', lo, eM, s, b', c', e1, e2, e3, e4, e5, e6, e7, e8⟩ := dig_limb (u.getD i 0) (v.getD i 0) g cr bw (hu.getD i) (hv.getD i) hg hc hw
  refine ⟨s, b', c', ?_, e4, e5, e6, e7, fun h => e8 (hz h)⟩
  simp only [nat_digit.l0]
  rw [if_pos q1, at_eq v _ q2, Option.bind_some, Int.toNat_natCast, eM, Option.bind_some, if_pos q2, if_pos q3, if_pos hw.2, r1, w2]
  simp only
  rw [e1, e2, e3]
theorem dig_off (v : List Int) (n : Nat) (hn : v.length = n) (hb : n ≤ 17592186044416) (hv : Lim v) (W : Nat) (g : Int) (hg : 0 ≤ g ∧ g < 18446744073709551616) (K : Nat) : ∀ (d i : Nat) (u : List Int) (bw cr : Int), i + d = n + 1 → u.length = n + 1 → Lim u →
    (0 ≤ bw ∧ bw ≤ 1) → (0 ≤ cr ∧ cr < 18446744073709551616) → (i = n + 1 → cr = 0) → val u + g.toNat * val (v.take i) = W + 18446744073709551616 ^ i * (bw.toNat + cr.toNat) →
    ∃ (u' : List Int) (b' : Int), nat_digit.l0 (K + d + 1) u v (n : Int) g bw cr ((n + 1 : Nat) : Int) (i : Int) = nat_digit.l1 K u' v (n : Int) g b' ∧ u'.length = n + 1 ∧ Lim u' ∧ (0 ≤ b' ∧ b' ≤ 1) ∧ val u' + g.toNat * val v = W + 18446744073709551616 ^ (n + 1) * b'.toNat := by
  intro d
  induction d with
  | zero =>
    intro i u bw cr hi hl hu hw hc hz hv2
    have hin : i = n + 1 := by clear hv2; omega
    have hcr := hz hin
    refine ⟨u, bw, ?_, hl, hu, hw, ?_⟩
    · simp only [nat_digit.l0]
      rw [if_neg (by clear hv2; omega)]
    · rw [hin, hcr, List.take_of_length_le (by clear hv2; omega)] at hv2
      exact hv2
  | succ d ih =>
    intro i u bw cr hi hl hu hw hc hz hv2
    have q1 : i ≤ n := by clear hv2 ih; omega
    have q2 : i < u.length := by clear hv2 ih; omega
    have q3 : i + 1 + d = n + 1 := by clear hv2 ih; omega
    obtain ⟨s, b', c', hrun, hst, hs, hb', hc', hlast⟩ := dig_one u v n i hn q1 hl hb hu hv g bw cr hg hc hw (K + d + 1)
    obtain ⟨u', b2, e1, e2⟩ := ih (i + 1) (u.set i s) b' c' q3 (by rw [List.length_set]; exact hl) (row_set hu i s hs) hb' hc' (fun h => hlast (by omega)) (dig_val u v i W g.toNat bw.toNat cr.toNat b'.toNat c'.toNat s q2 hv2 hst)
    exact ⟨u', b2, hrun.trans e1, e2⟩
theorem back_val (u v : List Int) (i U c c' : Nat) (s : Int) (hi : i < u.length) (hv : val u + 18446744073709551616 ^ i * c = U + val (v.take i))
    (hs : s.toNat + 18446744073709551616 * c' = (u.getD i 0).toNat + (v.getD i 0).toNat + c) :
    val (u.set i s) + 18446744073709551616 ^ (i + 1) * c' = U + val (v.take (i + 1)) := by
  have h := val_put u i s hi
  rw [take_getD, Nat.pow_succ]
  have e4 := congrArg (fun z => 18446744073709551616 ^ i * z) hs
  simp only [Nat.mul_add] at e4
  rw [← Nat.mul_assoc (18446744073709551616 ^ i) 18446744073709551616] at e4
  generalize 18446744073709551616 ^ i * 18446744073709551616 = PB at *
  generalize 18446744073709551616 ^ i = P at *
  omega
theorem back_one (u v : List Int) (n i : Nat) (hn : v.length = n) (hi : i ≤ n) (hl : u.length = n + 1) (hb : n ≤ 17592186044416) (hu : Lim u) (hv : Lim v) (g bw c : Int) (hc : 0 ≤ c ∧ c ≤ 1) (K : Nat) :
    ∃ s c' : Int, nat_digit.l2 (K + 1) u v (n : Int) g bw c ((n + 1 : Nat) : Int) (i : Int) = nat_digit.l2 K (u.set i s) v (n : Int) g bw c' ((n + 1 : Nat) : Int) ((i + 1 : Nat) : Int) ∧
      s.toNat + 18446744073709551616 * c'.toNat = (u.getD i 0).toNat + (v.getD i 0).toNat + c.toNat ∧ (0 ≤ s ∧ s < 18446744073709551616) ∧ (0 ≤ c' ∧ c' ≤ 1) := by
  have w2 : wrap64 ((i : Int) + 1) = ((i + 1 : Nat) : Int) := by unfold wrap64; omega
  have q1 : (i : Int) < ((n + 1 : Nat) : Int) := by omega
  have q2 : (0 : Int) ≤ (i : Int) := by omega
  have q3 : (i : Int) < (u.length : Int) := by omega
  have r1 : rd u (i : Int) = u.getD i 0 := rfl
  have e := add64_eq (u.getD i 0) (v.getD i 0) c (hu.getD i) (hv.getD i) hc
  refine ⟨_, _, ?_, e.1, e.2.1, e.2.2⟩
  simp only [nat_digit.l2]
  rw [if_pos q1, if_pos q2, if_pos q3, at_eq v _ q2, Option.bind_some, if_pos hc.2, r1, w2, Int.toNat_natCast]
theorem dig_back (v : List Int) (n : Nat) (hn : v.length = n) (hb : n ≤ 17592186044416) (hv : Lim v) (U : Nat) (g bw : Int) (K : Nat) : ∀ (d i : Nat) (u : List Int) (c : Int), i + d = n + 1 → u.length = n + 1 → Lim u →
    (0 ≤ c ∧ c ≤ 1) → val u + 18446744073709551616 ^ i * c.toNat = U + val (v.take i) →
    ∃ (u' : List Int) (c' : Int), nat_digit.l2 (K + d + 1) u v (n : Int) g bw c ((n + 1 : Nat) : Int) (i : Int) = nat_digit.l1 K u' v (n : Int) g (IntKind.u64.wrap (bw - c')) ∧ u'.length = n + 1 ∧ Lim u' ∧ (0 ≤ c' ∧ c' ≤ 1) ∧ val u' + 18446744073709551616 ^ (n + 1) * c'.toNat = U + val v := by
  intro d
  induction d with
  | zero =>
    intro i u c hi hl hu hc hv2
    have hin : i = n + 1 := by clear hv2; omega
    refine ⟨u, c, ?_, hl, hu, hc, ?_⟩
    · simp only [nat_digit.l2]
      rw [if_neg (by clear hv2; omega)]
    · rw [hin, List.take_of_length_le (by clear hv2; omega)] at hv2
      exact hv2
  | succ d ih =>
    intro i u c hi hl hu hc hv2
    have q1 : i ≤ n := by clear hv2 ih; omega
    have q2 : i < u.length := by clear hv2 ih; omega
    have q3 : i + 1 + d = n + 1 := by clear hv2 ih; omega
    obtain ⟨s, c', hrun, hst, hs, hc'⟩ := back_one u v n i hn q1 hl hb hu hv g bw c hc (K + d + 1)
    obtain ⟨u', c2, e1, e2⟩ := ih (i + 1) (u.set i s) c' q3 (by rw [List.length_set]; exact hl) (row_set hu i s hs) hc' (back_val u v i U c.toNat c'.toNat s q2 hv2 hst)
    exact ⟨u', c2, hrun.trans e1, e2⟩
theorem mend_end (V W Q P z bw : Nat) (e : V * Q + z = W) (h : bw = 0) (x : Nat) (hv : x + Q * V = W + P * bw) : x = z := by
  rw [h, Nat.mul_zero, Nat.add_zero, Nat.mul_comm] at hv
  generalize V * Q = y at *
  omega
theorem mend_zero (V W Q P z bw : Nat) (e : V * Q + z = W) (hz : z < V) (x : Nat) (hx : x < P) (hb : bw ≤ 1) (hv : x + Q * V = W + P * bw) : bw = 0 := by
  have h2 : bw = 0 ∨ bw = 1 := by omega
  rcases h2 with h2 | h2
  · exact h2
  · exfalso
    rw [h2, Nat.mul_one, Nat.mul_comm] at hv
    generalize V * Q = y at *
    omega
theorem mend_fit (V W P g x : Nat) (hV : 0 < V) (hv : x + g * V = W + P * 0) : g ≤ W / V := (Nat.le_div_iff_mul_le hV).2 (by generalize g * V = z at *; omega)
theorem mend_over (V W P g x : Nat) (hx : x < P) (hv : x + g * V = W + P * 1) : W / V < g := Nat.div_lt_of_lt_mul (by rw [Nat.mul_comm]; generalize g * V = z at *; omega)
theorem mend_step (V W P g x x' c : Nat) (hg : 1 ≤ g) (hc : c ≤ 1) (hv : x + g * V = W + P * 1) (hv' : x' + P * c = x + V) : x' + (g - 1) * V = W + P * (1 - c) := by
  obtain ⟨g', rfl⟩ : ∃ g', g = g' + 1 := ⟨g - 1, by omega⟩
  rw [Nat.add_mul, Nat.one_mul] at hv
  rw [Nat.add_sub_cancel]
  have h2 : c = 0 ∨ c = 1 := by omega
  generalize g' * V = z at *
  rcases h2 with h | h
  · subst h; omega
  · subst h; omega
/-- The guess is mended till it fits. -/
theorem dig_mend (v : List Int) (n : Nat) (hn : v.length = n) (hb : n ≤ 17592186044416) (hv : Lim v) (hV : 0 < val v) (W : Nat) (K : Nat) : ∀ (d g : Nat) (u : List Int) (bw : Int), g - W / val v ≤ d → W / val v ≤ g → g < 18446744073709551616 → u.length = n + 1 → Lim u →
    (0 ≤ bw ∧ bw ≤ 1) → val u + g * val v = W + 18446744073709551616 ^ (n + 1) * bw.toNat →
    ∃ u', nat_digit.l1 (K + d * (n + 4) + 1) u v (n : Int) (g : Int) bw = some (((W / val v : Nat) : Int), u') ∧ u'.length = n + 1 ∧ Lim u' ∧ val u' = W % val v := by
  have hdm := Nat.div_add_mod W (val v)
  have hmod := Nat.mod_lt W hV
  have wp : wrap64 ((n : Int) + 1) = ((n + 1 : Nat) : Int) := by clear hdm hmod; unfold wrap64; omega
  obtain ⟨P, hP⟩ : ∃ P, P = 18446744073709551616 ^ (n + 1) := ⟨_, rfl⟩
  have hlt : ∀ u, Lim u → u.length = n + 1 → val u < P := fun u h1 h2 => by rw [hP, ← h2]; exact val_lt u h1
  have hbk : ∀ (g bw : Int) (K : Nat) (u : List Int), u.length = n + 1 → Lim u → ∃ (u' : List Int) (c' : Int), nat_digit.l2 (K + (n + 1) + 1) u v (n : Int) g bw 0 ((n + 1 : Nat) : Int) ((0 : Nat) : Int) = nat_digit.l1 K u' v (n : Int) g (IntKind.u64.wrap (bw - c')) ∧ u'.length = n + 1 ∧ Lim u' ∧ (0 ≤ c' ∧ c' ≤ 1) ∧ val u' + P * c'.toNat = val u + val v := fun g bw K u h1 h2 => by
    rw [hP]
    exact dig_back v n hn hb hv (val u) g bw K (n + 1) 0 u 0 (Nat.zero_add _) h1 h2 (by decide) (by simp [val])
  have hfit := fun g x => mend_fit (val v) W P g x hV
  have hover := fun g x => mend_over (val v) W P g x
  rw [← hP]
  clear hP
  obtain ⟨Q, hQ⟩ : ∃ Q, Q = W / val v := ⟨_, rfl⟩
  obtain ⟨R, hR⟩ : ∃ R, R = W % val v := ⟨_, rfl⟩
  rw [← hQ, ← hR] at hdm
  rw [← hR] at hmod
  rw [← hQ, ← hR]
  rw [← hQ] at hfit hover
  clear hQ hR
  intro d
  induction d with
  | zero =>
    intro g u bw hd hge hg hl hu hw hv2
    obtain rfl : g = Q := by clear hv2 hdm hmod hfit hover; omega
    have hz := mend_zero (val v) W g P R bw.toNat hdm hmod (val u) (hlt u hu hl) (by clear hv2 hdm hmod hfit hover; omega) hv2
    have hb0 : bw = 0 := by clear hv2 hdm hmod hfit hover; omega
    refine ⟨u, ?_, hl, hu, mend_end (val v) W g P R bw.toNat hdm hz (val u) hv2⟩
    rw [hb0]
    simp only [nat_digit.l1]
    rw [if_neg (by decide)]
  | succ d ih =>
    intro g u bw hd hge hg hl hu hw hv2
    by_cases hb0 : bw = 0
    · have hz : bw.toNat = 0 := by rw [hb0]; rfl
      have h1 := hfit g (val u) (by rw [hz] at hv2; exact hv2)
      obtain rfl : g = Q := Nat.le_antisymm h1 hge
      refine ⟨u, ?_, hl, hu, mend_end (val v) W g P R bw.toNat hdm hz (val u) hv2⟩
      rw [hb0]
      simp only [nat_digit.l1]
      rw [if_neg (by decide)]
    · have hb1 : bw = 1 := by clear hv2 hdm hmod hfit hover; omega
      have hz : bw.toNat = 1 := by rw [hb1]; rfl
      rw [hz] at hv2
      have hgt := hover g (val u) (hlt u hu hl) hv2
      have e1 : IntKind.u64.wrap ((g : Int) - 1) = ((g - 1 : Nat) : Int) := by clear hv2 hdm hmod hfit hover; rw [wr64 ((g : Int) - 1) (by omega)]; omega
      obtain ⟨u', c', hrun, hl', hu', hc', hv'⟩ := hbk ((g - 1 : Nat) : Int) 1 (K + d * (n + 4) + 1) u hl hu
      have hw' : IntKind.u64.wrap ((1 : Int) - c') = 1 - c' := wr64 ((1 : Int) - c') (by clear hv2 hdm hmod hv' hfit hover; omega)
      have hst := mend_step (val v) W P g (val u) (val u') c'.toNat (by clear hv2 hdm hmod hv' hfit hover; omega) (by clear hv2 hdm hmod hv' hfit hover; omega) hv2 hv'
      have hcc : (1 - c').toNat = 1 - c'.toNat := by clear hv2 hdm hmod hv' hfit hover hst; omega
      obtain ⟨u2, h1, h2⟩ := ih (g - 1) u' (1 - c') (by clear hv2 hdm hmod hv' hfit hover hst; omega) (by clear hv2 hdm hmod hv' hfit hover hst; omega) (by clear hv2 hdm hmod hv' hfit hover hst; omega) hl' hu' (by clear hv2 hdm hmod hv' hfit hover hst; omega) (by rw [hcc]; exact hst)
      refine ⟨u2, ?_, h2⟩
      have hfu : K + (d + 1) * (n + 4) + 1 = (K + d * (n + 4) + 1 + (n + 1) + 1) + 1 + 1 := by rw [Nat.add_mul, Nat.one_mul]; clear hv2 hdm hmod hv' hfit hover hst; omega
      rw [hfu, hb1]
      refine (nat_digit.mono_l ((K + d * (n + 4) + 1 + (n + 1) + 1) + 1)).2.2.1 u v (n : Int) (g : Int) 1 _ ?_
      simp only [nat_digit.l1]
      rw [if_pos (by decide), e1, wp]
      rw [hw'] at hrun
      exact hrun.trans h1
theorem top_guess (P A um un vt Q V W D : Nat) (hA : A < P) (hW : W = A + P * (um + 18446744073709551616 * un)) (hV : V = D + P * vt) (hq : Q * V ≤ W) : Q * vt ≤ un * 18446744073709551616 + um := by
  have h1 : P * (Q * vt) ≤ Q * V := by rw [hV, Nat.mul_add, Nat.mul_left_comm Q P]; exact Nat.le_add_left _ _
  have h2 : P * (Q * vt) < P * (um + 18446744073709551616 * un + 1) := by
    rw [Nat.mul_add P (um + 18446744073709551616 * un) 1, Nat.mul_one]
    generalize P * (um + 18446744073709551616 * un) = z at *
    omega
  have h3 := Nat.lt_of_mul_lt_mul_left h2
  omega
theorem digit_run (win vs : List Int) (n : Nat) (hw : Lim win) (hv : Lim vs) (hn : vs.length = n) (hl : win.length = n + 1) (hb : n ≤ 17592186044416) (hV : 0 < val vs) (g : Nat) (hg : g < 18446744073709551616) (hge : val win / val vs ≤ g) (K2 : Nat) :
    ∃ u', nat_digit.j0 (K2 + (g - val win / val vs) * (n + 4) + 1 + (n + 1) + 1 + 1) win vs (n : Int) (g : Int) = some (((val win / val vs : Nat) : Int), u') ∧ u'.length = n + 1 ∧ Lim u' ∧ val u' = val win % val vs := by
  have wp : wrap64 ((n : Int) + 1) = ((n + 1 : Nat) : Int) := by unfold wrap64; omega
  obtain ⟨u1, b1, e1, l1, m1, w1, v1⟩ := dig_off vs n hn hb hv (val win) (g : Int) (by omega) (K2 + (g - val win / val vs) * (n + 4) + 1) (n + 1) 0 win 0 0 (Nat.zero_add _) hl hw (by decide) (by decide) (fun _ => rfl) (by simp [val])
  rw [Int.toNat_natCast] at v1
  obtain ⟨u2, e2, h2⟩ := dig_mend vs n hn hb hv hV (val win) K2 (g - val win / val vs) g u1 b1 (Nat.le_refl _) hge hg l1 m1 w1 v1
  refine ⟨u2, ?_, h2⟩
  simp only [nat_digit.j0]
  rw [wp]
  exact e1.trans e2
theorem digit_is (win vs : List Int) (hw : Lim win) (hv : Lim vs) (hl : win.length = vs.length + 1) (hm : 1 ≤ vs.length) (hb : vs.length ≤ 17592186044416) (hlt : val win < 18446744073709551616 * val vs) :
    ∃ (K : Nat) (qd : Int) (win' : List Int), nat_digit.f K win vs = some (qd, win') ∧ win'.length = win.length ∧ Lim win' ∧ qd = ((val win / val vs : Nat) : Int) ∧ val win' = val win % val vs := by
  have hV : 0 < val vs := by
    rcases Nat.eq_zero_or_pos (val vs) with h | h
    · rw [h] at hlt; exact absurd hlt (by simp)
    · exact h
  obtain ⟨n, hn⟩ : ∃ n, vs.length = n + 1 := ⟨vs.length - 1, by omega⟩
  have w1 : wrap64 ((vs.length : Int) - 1) = (n : Int) := by clear hlt hV; unfold wrap64; omega
  obtain ⟨un, hun⟩ : ∃ a : Nat, win.getD (n + 1) 0 = a := ⟨(win.getD (n + 1) 0).toNat, by have := (hw.getD (n + 1)).1; clear hlt; omega⟩
  obtain ⟨um, hum⟩ : ∃ a : Nat, win.getD n 0 = a := ⟨(win.getD n 0).toNat, by have := (hw.getD n).1; clear hlt; omega⟩
  obtain ⟨vt, hvt⟩ : ∃ a : Nat, vs.getD n 0 = a := ⟨(vs.getD n 0).toNat, by have := (hv.getD n).1; clear hlt; omega⟩
  have bun := (hw.getD (n + 1)).2
  have bum := (hw.getD n).2
  have bvt := (hv.getD n).2
  rw [hun] at bun
  rw [hum] at bum
  rw [hvt] at bvt
  have eW : val win = val (win.take n) + 18446744073709551616 ^ n * (um + 18446744073709551616 * un) := by
    have h1 := take_getD win (n + 1)
    have h2 := take_getD win n
    rw [List.take_of_length_le (by clear hlt h1 h2; omega), hun, Int.toNat_natCast] at h1
    rw [hum, Int.toNat_natCast] at h2
    rw [h1, h2, Nat.pow_succ, Nat.mul_add, Nat.mul_assoc]
    rw [Nat.add_assoc]
  have eV : val vs = val (vs.take n) + 18446744073709551616 ^ n * vt := by
    have h2 := take_getD vs n
    rw [List.take_of_length_le (by clear hlt h2 eW; omega), hvt, Int.toNat_natCast] at h2
    exact h2
  have hA : val (win.take n) < 18446744073709551616 ^ n := by
    have := val_lt (win.take n) (hw.take n)
    rw [List.length_take, Nat.min_eq_left (by clear hlt this eW eV; omega)] at this
    exact this
  have hQ := Nat.div_mul_le_self (val win) (val vs)
  have hfit := top_guess (18446744073709551616 ^ n) (val (win.take n)) um un vt (val win / val vs) (val vs) (val win) (val (vs.take n)) hA eW eV hQ
  have hQB : val win / val vs < 18446744073709551616 := Nat.div_lt_of_lt_mul (by rw [Nat.mul_comm]; exact hlt)
  clear eW eV hA hQ hlt
  have r1 : rd win (vs.length : Int) = (un : Int) := by rw [hn]; exact hun
  have r2 : rd win (n : Int) = (um : Int) := hum
  have r3 : rd vs (n : Int) = (vt : Int) := hvt
  have q1 : (0 : Int) ≤ (vs.length : Int) := by omega
  have q2 : (vs.length : Int) < (win.length : Int) := by clear hfit hQB; omega
  have q3 : (0 : Int) ≤ (n : Int) := by omega
  have q4 : (n : Int) < (vs.length : Int) := by clear hfit hQB; omega
  have q5 : (n : Int) < (win.length : Int) := by clear hfit hQB; omega
  by_cases c : (un : Int) < (vt : Int)
  · have hg : val win / val vs ≤ (un * 18446744073709551616 + um) / vt := (Nat.le_div_iff_mul_le (by clear hfit hQB; omega)).2 hfit
    have hgB : (un * 18446744073709551616 + um) / vt < 18446744073709551616 := Nat.div_lt_of_lt_mul (by clear hfit hQB hg; omega)
    obtain ⟨g, hge⟩ : ∃ g, g = (un * 18446744073709551616 + um) / vt := ⟨_, rfl⟩
    rw [← hge] at hg hgB
    obtain ⟨u', e, l, m, v⟩ := digit_run win vs vs.length hw hv rfl hl hb hV g hgB hg 50000000000
    refine ⟨50000000000 + (g - val win / val vs) * (vs.length + 4) + 1 + (vs.length + 1) + 1 + 1, _, u', ?_, by rw [l, hl], m, rfl, v⟩
    · unfold nat_digit.f
      have hk : 50000000000 ≤ 50000000000 + (g - val win / val vs) * (vs.length + 4) + 1 + (vs.length + 1) + 1 + 1 := by
        generalize (g - val win / val vs) * (vs.length + 4) = z
        clear hfit hQB hg hge
        omega
      rw [if_pos q1, if_pos q2, w1, if_pos q3, if_pos q4, r1, r3, if_pos c, if_pos q5, r2, Div64_eq un um vt (by clear hfit hQB hg hge hk; omega) (by clear hfit hQB hg hge hk; omega) (by clear hfit hQB hg hge hk; omega) _ hk, Option.bind_some]
      simp only
      rw [← hge]
      exact e
  · have hg : val win / val vs ≤ 18446744073709551615 := by clear hfit; omega
    obtain ⟨g, hge⟩ : ∃ g : Nat, g = 18446744073709551615 := ⟨_, rfl⟩
    rw [← hge] at hg
    obtain ⟨u', e, l, m, v⟩ := digit_run win vs vs.length hw hv rfl hl hb hV g (by clear hfit hQB hg; omega) hg 0
    refine ⟨0 + (g - val win / val vs) * (vs.length + 4) + 1 + (vs.length + 1) + 1 + 1, _, u', ?_, by rw [l, hl], m, rfl, v⟩
    · unfold nat_digit.f
      rw [if_pos q1, if_pos q2, w1, if_pos q3, if_pos q4, r1, r3, if_neg c]
      have : (18446744073709551615 : Int) = (g : Int) := by rw [hge]; rfl
      rw [this]
      exact e
theorem split3 (us : List Int) (j m : Nat) (h : j + m ≤ us.length) : ∃ pre win post, us = pre ++ win ++ post ∧ pre.length = j ∧ win.length = m := by
  refine ⟨us.take j, (us.drop j).take m, (us.drop j).drop m, ?_, by rw [List.length_take]; omega, by rw [List.length_take, List.length_drop]; omega⟩
  rw [List.append_assoc, List.take_append_drop, List.take_append_drop]
theorem val3 (pre win post : List Int) : val (pre ++ win ++ post) = val pre + 18446744073709551616 ^ pre.length * val win + 18446744073709551616 ^ (pre.length + win.length) * val post := by
  rw [val_app, val_app, List.length_append]
/-- The window's number is below B V. -/
theorem div_win (pre win post : List Int) (V m : Nat) (hwl : win.length = m + 1) (hV : V < 18446744073709551616 ^ m) (h2 : val (pre ++ win ++ post) < 18446744073709551616 ^ (pre.length + 1) * V) :
    val post = 0 ∧ val win < 18446744073709551616 * V := by
  rw [val3, hwl] at h2
  have hp : 0 < 18446744073709551616 ^ pre.length := Nat.pow_pos (by decide)
  have e1 : 18446744073709551616 ^ (pre.length + 1) * V = 18446744073709551616 ^ pre.length * (18446744073709551616 * V) := by rw [Nat.pow_succ, Nat.mul_assoc]
  have e2 : 18446744073709551616 ^ (pre.length + (m + 1)) = 18446744073709551616 ^ pre.length * (18446744073709551616 * 18446744073709551616 ^ m) := by
    rw [Nat.pow_add, Nat.pow_succ, Nat.mul_comm (18446744073709551616 ^ m)]
  have h3 : 18446744073709551616 * V < 18446744073709551616 * 18446744073709551616 ^ m := Nat.mul_lt_mul_of_pos_left hV (by decide)
  rw [e1, e2] at h2
  generalize 18446744073709551616 ^ pre.length = P at *
  have h4 : P * (18446744073709551616 * V) ≤ P * (18446744073709551616 * 18446744073709551616 ^ m) := Nat.mul_le_mul_left _ (Nat.le_of_lt h3)
  have hz : val post = 0 := by
    rcases Nat.eq_zero_or_pos (val post) with c | c
    · exact c
    · exfalso
      have h5 : P * (18446744073709551616 * 18446744073709551616 ^ m) * 1 ≤ P * (18446744073709551616 * 18446744073709551616 ^ m) * val post := Nat.mul_le_mul_left _ c
      rw [Nat.mul_one] at h5
      generalize P * (18446744073709551616 * 18446744073709551616 ^ m) * val post = z at *
      generalize P * (18446744073709551616 * 18446744073709551616 ^ m) = y at *
      generalize P * (18446744073709551616 * V) = x at *
      generalize P * val win = v at *
      omega
  refine ⟨hz, ?_⟩
  rw [hz, Nat.mul_zero] at h2
  have h6 : P * val win < P * (18446744073709551616 * V) := by
    generalize P * val win = x at *
    generalize P * (18446744073709551616 * V) = y at *
    omega
  exact Nat.lt_of_mul_lt_mul_left h6
theorem drop_set (qs : List Int) (p : Nat) (q : Int) (h : p < qs.length) : (qs.set p q).drop p = q :: qs.drop (p + 1) := by
  rw [List.drop_eq_getElem_cons (by rw [List.length_set]; exact h), List.getElem_set_self, List.drop_set_of_lt (by omega)]
theorem div_step (pre win post win' qs : List Int) (V U : Nat) (hpre : Lim pre) (hV : 0 < V) (hq : pre.length < qs.length) (hl : win'.length = win.length) (hpost : val post = 0)
    (hw : val win' = val win % V) (h1 : val (pre ++ win ++ post) + 18446744073709551616 ^ (pre.length + 1) * (val (qs.drop (pre.length + 1)) * V) = U) :
    val (pre ++ win' ++ post) + 18446744073709551616 ^ pre.length * (val ((qs.set pre.length ((val win / V : Nat) : Int)).drop pre.length) * V) = U ∧ val (pre ++ win' ++ post) < 18446744073709551616 ^ pre.length * V := by
  rw [val3, hpost, Nat.mul_zero, Nat.add_zero] at h1 ⊢
  have hp := val_lt pre hpre
  rw [drop_set _ _ _ hq]
  simp only [val, Int.toNat_natCast]
  rw [hw]
  have e1 : 18446744073709551616 ^ (pre.length + 1) * (val (qs.drop (pre.length + 1)) * V) = 18446744073709551616 ^ pre.length * (18446744073709551616 * val (qs.drop (pre.length + 1)) * V) := by
    rw [Nat.pow_succ, Nat.mul_assoc, Nat.mul_assoc]
  rw [e1] at h1
  have hmod : val win % V < V := Nat.mod_lt _ hV
  have hdm := Nat.div_add_mod (val win) V
  generalize 18446744073709551616 ^ pre.length = P at *
  generalize val (qs.drop (pre.length + 1)) = D at *
  generalize val win % V = r at *
  generalize val win / V = q at *
  constructor
  · rw [← h1, ← hdm, Nat.add_mul q, Nat.mul_add P, Nat.mul_add P (V * q), Nat.mul_comm V q]
    omega
  · have h2 : P * (r + 1) ≤ P * V := Nat.mul_le_mul_left _ hmod
    rw [Nat.mul_add] at h2
    generalize P * r = x at *
    generalize P * V = y at *
    omega
theorem div_end (x y q r un : Nat) (hy : 0 < y) (h : r + q * (y * 2 ^ un) = x * 2 ^ un) (hr : r < y * 2 ^ un) : q = x / y ∧ r / 2 ^ un = x % y := by
  have hp : 0 < 2 ^ un := Nat.two_pow_pos un
  have e1 : (x * 2 ^ un) / (y * 2 ^ un) = q := by
    rw [← h, Nat.add_mul_div_right _ _ (Nat.mul_pos hy hp), Nat.div_eq_of_lt hr, Nat.zero_add]
  have e2 : (x * 2 ^ un) % (y * 2 ^ un) = r := by
    rw [← h, Nat.add_mul_mod_self_right, Nat.mod_eq_of_lt hr]
  rw [Nat.mul_div_mul_right _ _ hp] at e1
  rw [Nat.mul_mod_mul_right] at e2
  refine ⟨e1.symm, ?_⟩
  rw [← e2, Nat.mul_div_cancel _ hp]
end Go.Proofs.Ytfaknblpkegekaa.Q
