import Derived.Lib.Mul64
import Derived.Test.YtfaknblpkegekaaC7
import Derived.Test.YtfaknblpkegekaaC9
import Derived.Test.YtfaknblpkegekaaC10
import Derived.Test.YtfaknblpkegekaaC11
section
namespace Go.Proofs.Ytfaknblpkegekaa.Q
open Go.RowKit Go.Proofs.YtfaknblpkegekaaW.PrintWords Go.Proofs.YtfaknblpkegekaaW.PrintLast Go.Proofs.YtfaknblpkegekaaW.PrintMore
set_option linter.unusedVariables false
theorem row_set {l : List Int} (h : Lim l) (j : Nat) (y : Int) (hy : 0 ≤ y ∧ y < 18446744073709551616) : Lim (l.set j y) := fun z hz => by
  rcases List.mem_or_eq_of_mem_set hz with h1 | h1
  · exact h z h1
  · rw [h1]; exact hy
theorem zrow_lim (n : Nat) : Lim (List.replicate n 0) := fun x hx => by
  rw [List.eq_of_mem_replicate hx]; decide
theorem val_put : ∀ (l : List Int) (j : Nat) (y : Int), j < l.length → val (l.set j y) + 18446744073709551616 ^ j * (l.getD j 0).toNat = val l + 18446744073709551616 ^ j * y.toNat
  | x :: l, 0, y, _ => by
    simp only [List.set_cons_zero, val, List.getD_cons_zero, Nat.pow_zero, Nat.one_mul]
    omega
  | x :: l, j + 1, y, h => by
    have ih := val_put l j y (by simpa using h)
    simp only [List.set_cons_succ, val, List.getD_cons_succ]
    rw [Nat.pow_succ, Nat.mul_comm (18446744073709551616 ^ j) 18446744073709551616, Nat.mul_assoc, Nat.mul_assoc]
    omega
theorem Mul64_is (x y : Nat) (hx : x < 18446744073709551616) (hy : y < 18446744073709551616) : bits_Mul64.f x y = some (((x * y / 18446744073709551616 : Nat) : Int), ((x * y % 18446744073709551616 : Nat) : Int)) := by
  unfold bits_Mul64.f
  have h := Lib.mul64_hi x y hx hy
  rw [and32 x hx, and32 y hy]
  have e0 : (x : Int) / 4294967296 = ((x / 4294967296 : Nat) : Int) := by omega
  have e1 : (y : Int) / 4294967296 = ((y / 4294967296 : Nat) : Int) := by omega
  rw [e0, e1]
  have hp : (x / 4294967296) * (y / 4294967296) ≤ 18446744065119617025 := Lib.half_mul_le (by omega) (by omega)
  have hq : (x / 4294967296) * (y % 4294967296) ≤ 18446744065119617025 := Lib.half_mul_le (by omega) (by omega)
  have hr : (x % 4294967296) * (y / 4294967296) ≤ 18446744065119617025 := Lib.half_mul_le (by omega) (by omega)
  simp only [← Int.natCast_mul]
  generalize (x / 4294967296) * (y / 4294967296) = p11 at *
  generalize (x / 4294967296) * (y % 4294967296) = p10 at *
  generalize (x % 4294967296) * (y / 4294967296) = p01 at *
  generalize (x % 4294967296) * (y % 4294967296) = p00 at *
  generalize x * y = z at *
  clear e0 e1
  obtain ⟨h0, h1, h2, h3⟩ := h
  rw [wr64 (p00 : Int) (by omega), wr64 (p01 : Int) (by omega), wr64 (p10 : Int) (by omega), wr64 (p11 : Int) (by omega)]
  have e4 : (p10 : Int) + (p00 : Int) / 4294967296 = ((p10 + p00 / 4294967296 : Nat) : Int) := by omega
  rw [e4, wr64 ((p10 + p00 / 4294967296 : Nat) : Int) (by omega), and32 (p10 + p00 / 4294967296) (by omega)]
  rw [wr64 (((p10 + p00 / 4294967296) % 4294967296 : Nat) + (p01 : Int)) (by omega)]
  rw [IntKind.wrap_u64, IntKind.wrap_u64, IntKind.wrap_u64]
  congr 1
  refine Prod.ext ?_ ?_
  · simp only; omega
  · simp only; omega
theorem dig_limb (x y g cr bw : Int) (hx : 0 ≤ x ∧ x < 18446744073709551616) (hy : 0 ≤ y ∧ y < 18446744073709551616) (hg : 0 ≤ g ∧ g < 18446744073709551616) (hc : 0 ≤ cr ∧ cr < 18446744073709551616) (hb : 0 ≤ bw ∧ bw ≤ 1) :
    ∃ hi lo, bits_Mul64.f y g = some (hi, lo) ∧ ∃ s b' c' : Int, sub64s x (add64s lo cr 0) bw = s ∧ sub64c x (add64s lo cr 0) bw = b' ∧ IntKind.u64.wrap (hi + add64c lo cr 0) = c' ∧
      s.toNat + g.toNat * y.toNat + cr.toNat + bw.toNat = x.toNat + 18446744073709551616 * (b'.toNat + c'.toNat) ∧ (0 ≤ s ∧ s < 18446744073709551616) ∧ (0 ≤ b' ∧ b' ≤ 1) ∧ (0 ≤ c' ∧ c' < 18446744073709551616) ∧ (y = 0 → c' = 0) := by
  obtain ⟨a, rfl⟩ : ∃ a : Nat, y = a := ⟨y.toNat, by omega⟩
  obtain ⟨b, rfl⟩ : ∃ b : Nat, g = b := ⟨g.toNat, by omega⟩
  refine ⟨_, _, Mul64_is a b (by omega) (by omega), ?_⟩
  have hm : a * b ≤ 340282366920938463426481119284349108225 := Nat.mul_le_mul (show a ≤ 18446744073709551615 by omega) (show b ≤ 18446744073709551615 by omega)
  have hz : (a : Int) = 0 → a * b = 0 := fun h => by
    have : a = 0 := by omega
    rw [this, Nat.zero_mul]
  rw [Int.toNat_natCast, Int.toNat_natCast, Nat.mul_comm b a]
  generalize a * b = z at hm hz ⊢
  obtain ⟨lo, hlo⟩ : ∃ lo : Int, lo = ((z % 18446744073709551616 : Nat) : Int) := ⟨_, rfl⟩
  rw [← hlo]
  have s1 := add64_eq lo cr 0 (by omega) hc (by decide)
  generalize add64s lo cr 0 = t at *
  generalize add64c lo cr 0 = c1 at *
  have s2 := sub64_eq x t bw hx s1.2.1 hb
  generalize sub64s x t bw = s at *
  generalize sub64c x t bw = b2 at *
  rw [show ((0 : Int)).toNat = 0 from rfl] at s1
  refine ⟨s, b2, _, rfl, rfl, rfl, ?_, s2.2.1, s2.2.2, ?_, ?_⟩
  · rw [IntKind.wrap_u64]; clear hz; omega
  · rw [IntKind.wrap_u64]; omega
  · intro h
    have := hz h
    rw [IntKind.wrap_u64]; clear hz; omega
theorem dig_val (u v : List Int) (i : Nat) (W g bw cr b' c' : Nat) (s : Int) (hi : i < u.length) (hv : val u + g * val (v.take i) = W + 18446744073709551616 ^ i * (bw + cr))
    (hs : s.toNat + g * (v.getD i 0).toNat + cr + bw = (u.getD i 0).toNat + 18446744073709551616 * (b' + c')) :
    val (u.set i s) + g * val (v.take (i + 1)) = W + 18446744073709551616 ^ (i + 1) * (b' + c') := by
  have h := val_put u i s hi
  rw [take_getD, Nat.mul_add g, Nat.mul_left_comm g, Nat.pow_succ]
  have e4 := congrArg (fun z => 18446744073709551616 ^ i * z) hs
  simp only [Nat.mul_add] at e4
  rw [Nat.mul_add] at hv
  rw [← Nat.mul_assoc (18446744073709551616 ^ i) 18446744073709551616, ← Nat.mul_assoc (18446744073709551616 ^ i) 18446744073709551616] at e4
  rw [Nat.mul_add]
  generalize 18446744073709551616 ^ i * 18446744073709551616 = PB at *
  generalize 18446744073709551616 ^ i = P at *
  generalize g * val (v.take i) = gv at *
  omega
theorem dig_one (u v : List Int) (n i : Nat) (hn : v.length = n) (hi : i ≤ n) (hl : u.length = n + 1) (hb : n ≤ 17592186044416) (hu : Lim u) (hv : Lim v) (g bw cr : Int) (hg : 0 ≤ g ∧ g < 18446744073709551616) (hc : 0 ≤ cr ∧ cr < 18446744073709551616) (hw : 0 ≤ bw ∧ bw ≤ 1) (K : Nat) :
    ∃ s b' c' : Int, nat_digit.l0 (K + 1) u v (n : Int) g bw cr ((n + 1 : Nat) : Int) (i : Int) = nat_digit.l0 K (u.set i s) v (n : Int) g b' c' ((n + 1 : Nat) : Int) ((i + 1 : Nat) : Int) ∧
      s.toNat + g.toNat * (v.getD i 0).toNat + cr.toNat + bw.toNat = (u.getD i 0).toNat + 18446744073709551616 * (b'.toNat + c'.toNat) ∧ (0 ≤ s ∧ s < 18446744073709551616) ∧ (0 ≤ b' ∧ b' ≤ 1) ∧ (0 ≤ c' ∧ c' < 18446744073709551616) ∧ (i = n → c' = 0) := by
  have w2 : wrap64 ((i : Int) + 1) = ((i + 1 : Nat) : Int) := by unfold wrap64; omega
  have q1 : (i : Int) < ((n + 1 : Nat) : Int) := by omega
  have q2 : (0 : Int) ≤ (i : Int) := by omega
  have q3 : (i : Int) < (u.length : Int) := by omega
  have r1 : rd u (i : Int) = u.getD i 0 := rfl
  have hz : i = n → v.getD i 0 = 0 := fun h => by
    rw [List.getD_eq_getElem?_getD, List.getElem?_eq_none (by omega)]; rfl
  obtain ⟨hi', lo, eM, s, b', c', e1, e2, e3, e4, e5, e6, e7, e8⟩ := dig_limb (u.getD i 0) (v.getD i 0) g cr bw (hu.getD i) (hv.getD i) hg hc hw
  refine ⟨s, b', c', ?_, e4, e5, e6, e7, fun h => e8 (hz h)⟩
  simp only [nat_digit.l0]
  rw [if_pos q1, at_eq v _ q2, Option.bind_some, Int.toNat_natCast, eM, Option.bind_some, if_pos q2, if_pos q3, if_pos hw.2, r1, w2]
  simp only
  rw [e1, e2, e3]
theorem dig_off (v : List Int) (n : Nat) (hn : v.length = n) (hb : n ≤ 17592186044416) (hv : Lim v) (W : Nat) (g : Int) (hg : 0 ≤ g ∧ g < 18446744073709551616) (K : Nat) : ∀ (d i : Nat) (u : List Int) (bw cr : Int), i + d = n + 1 → u.length = n + 1 → Lim u →
    (0 ≤ bw ∧ bw ≤ 1) → (0 ≤ cr ∧ cr < 18446744073709551616) → (i = n + 1 → cr = 0) → val u + g.toNat * val (v.take i) = W + 18446744073709551616 ^ i * (bw.toNat + cr.toNat) →
    ∃ (u' : List Int) (b' : Int), nat_digit.l0 (K + d + 1) u v (n : Int) g bw cr ((n + 1 : Nat) : Int) (i : Int) = nat_digit.l1 K u' v (n : Int) g b' ∧ u'.length = n + 1 ∧ Lim u' ∧ (0 ≤ b' ∧ b' ≤ 1) ∧ val u' + g.toNat * val v = W + 18446744073709551616 ^ (n + 1) * b'.toNat := by
  intro d
  induction d with
  | zero =>
    intro i u bw cr hi hl hu hw hc hz hv2
    have hin : i = n + 1 := by clear hv2; omega
    have hcr := hz hin
    refine ⟨u, bw, ?_, hl, hu, hw, ?_⟩
    · simp only [nat_digit.l0]
      rw [if_neg (by clear hv2; omega)]
    · rw [hin, hcr, List.take_of_length_le (by clear hv2; omega)] at hv2
      exact hv2
  | succ d ih =>
    intro i u bw cr hi hl hu hw hc hz hv2
    have q1 : i ≤ n := by clear hv2 ih; omega
    have q2 : i < u.length := by clear hv2 ih; omega
    have q3 : i + 1 + d = n + 1 := by clear hv2 ih; omega
    obtain ⟨s, b', c', hrun, hst, hs, hb', hc', hlast⟩ := dig_one u v n i hn q1 hl hb hu hv g bw cr hg hc hw (K + d + 1)
    obtain ⟨u', b2, e1, e2⟩ := ih (i + 1) (u.set i s) b' c' q3 (by rw [List.length_set]; exact hl) (row_set hu i s hs) hb' hc' (fun h => hlast (by omega)) (dig_val u v i W g.toNat bw.toNat cr.toNat b'.toNat c'.toNat s q2 hv2 hst)
    exact ⟨u', b2, hrun.trans e1, e2⟩
theorem back_val (u v : List Int) (i U c c' : Nat) (s : Int) (hi : i < u.length) (hv : val u + 18446744073709551616 ^ i * c = U + val (v.take i))
    (hs : s.toNat + 18446744073709551616 * c' = (u.getD i 0).toNat + (v.getD i 0).toNat + c) :
    val (u.set i s) + 18446744073709551616 ^ (i + 1) * c' = U + val (v.take (i + 1)) := by
  have h := val_put u i s hi
  rw [take_getD, Nat.pow_succ]
  have e4 := congrArg (fun z => 18446744073709551616 ^ i * z) hs
  simp only [Nat.mul_add] at e4
  rw [← Nat.mul_assoc (18446744073709551616 ^ i) 18446744073709551616] at e4
  generalize 18446744073709551616 ^ i * 18446744073709551616 = PB at *
  generalize 18446744073709551616 ^ i = P at *
  omega
theorem back_one (u v : List Int) (n i : Nat) (hn : v.length = n) (hi : i ≤ n) (hl : u.length = n + 1) (hb : n ≤ 17592186044416) (hu : Lim u) (hv : Lim v) (g bw c : Int) (hc : 0 ≤ c ∧ c ≤ 1) (K : Nat) :
    ∃ s c' : Int, nat_digit.l2 (K + 1) u v (n : Int) g bw c ((n + 1 : Nat) : Int) (i : Int) = nat_digit.l2 K (u.set i s) v (n : Int) g bw c' ((n + 1 : Nat) : Int) ((i + 1 : Nat) : Int) ∧
      s.toNat + 18446744073709551616 * c'.toNat = (u.getD i 0).toNat + (v.getD i 0).toNat + c.toNat ∧ (0 ≤ s ∧ s < 18446744073709551616) ∧ (0 ≤ c' ∧ c' ≤ 1) := by
  have w2 : wrap64 ((i : Int) + 1) = ((i + 1 : Nat) : Int) := by unfold wrap64; omega
  have q1 : (i : Int) < ((n + 1 : Nat) : Int) := by omega
  have q2 : (0 : Int) ≤ (i : Int) := by omega
  have q3 : (i : Int) < (u.length : Int) := by omega
  have r1 : rd u (i : Int) = u.getD i 0 := rfl
  have e := add64_eq (u.getD i 0) (v.getD i 0) c (hu.getD i) (hv.getD i) hc
  refine ⟨_, _, ?_, e.1, e.2.1, e.2.2⟩
  simp only [nat_digit.l2]
  rw [if_pos q1, if_pos q2, if_pos q3, at_eq v _ q2, Option.bind_some, if_pos hc.2, r1, w2, Int.toNat_natCast]
theorem dig_back (v : List Int) (n : Nat) (hn : v.length = n) (hb : n ≤ 17592186044416) (hv : Lim v) (U : Nat) (g bw : Int) (K : Nat) : ∀ (d i : Nat) (u : List Int) (c : Int), i + d = n + 1 → u.length = n + 1 → Lim u →
    (0 ≤ c ∧ c ≤ 1) → val u + 18446744073709551616 ^ i * c.toNat = U + val (v.take i) →
    ∃ (u' : List Int) (c' : Int), nat_digit.l2 (K + d + 1) u v (n : Int) g bw c ((n + 1 : Nat) : Int) (i : Int) = nat_digit.l1 K u' v (n : Int) g (IntKind.u64.wrap (bw - c')) ∧ u'.length = n + 1 ∧ Lim u' ∧ (0 ≤ c' ∧ c' ≤ 1) ∧ val u' + 18446744073709551616 ^ (n + 1) * c'.toNat = U + val v := by
  intro d
  induction d with
  | zero =>
    intro i u c hi hl hu hc hv2
    have hin : i = n + 1 := by clear hv2; omega
    refine ⟨u, c, ?_, hl, hu, hc, ?_⟩
    · simp only [nat_digit.l2]
      rw [if_neg (by clear hv2; omega)]
    · rw [hin, List.take_of_length_le (by clear hv2; omega)] at hv2
      exact hv2
  | succ d ih =>
    intro i u c hi hl hu hc hv2
    have q1 : i ≤ n := by clear hv2 ih; omega
    have q2 : i < u.length := by clear hv2 ih; omega
    have q3 : i + 1 + d = n + 1 := by clear hv2 ih; omega
    obtain ⟨s, c', hrun, hst, hs, hc'⟩ := back_one u v n i hn q1 hl hb hu hv g bw c hc (K + d + 1)
    obtain ⟨u', c2, e1, e2⟩ := ih (i + 1) (u.set i s) c' q3 (by rw [List.length_set]; exact hl) (row_set hu i s hs) hc' (back_val u v i U c.toNat c'.toNat s q2 hv2 hst)
    exact ⟨u', c2, hrun.trans e1, e2⟩
theorem mend_end (V W Q P z bw : Nat) (e : V * Q + z = W) (h : bw = 0) (x : Nat) (hv : x + Q * V = W + P * bw) : x = z := by
  rw [h, Nat.mul_zero, Nat.add_zero, Nat.mul_comm] at hv
  generalize V * Q = y at *
  omega
theorem mend_zero (V W Q P z bw : Nat) (e : V * Q + z = W) (hz : z < V) (x : Nat) (hx : x < P) (hb : bw ≤ 1) (hv : x + Q * V = W + P * bw) : bw = 0 := by
  have h2 : bw = 0 ∨ bw = 1 := by omega
  rcases h2 with h2 | h2
  · exact h2
  · exfalso
    rw [h2, Nat.mul_one, Nat.mul_comm] at hv
    generalize V * Q = y at *
    omega
theorem mend_fit (V W P g x : Nat) (hV : 0 < V) (hv : x + g * V = W + P * 0) : g ≤ W / V := (Nat.le_div_iff_mul_le hV).2 (by generalize g * V = z at *; omega)
theorem mend_over (V W P g x : Nat) (hx : x < P) (hv : x + g * V = W + P * 1) : W / V < g := Nat.div_lt_of_lt_mul (by rw [Nat.mul_comm]; generalize g * V = z at *; omega)
theorem mend_step (V W P g x x' c : Nat) (hg : 1 ≤ g) (hc : c ≤ 1) (hv : x + g * V = W + P * 1) (hv' : x' + P * c = x + V) : x' + (g - 1) * V = W + P * (1 - c) := by
  obtain ⟨g', rfl⟩ : ∃ g', g = g' + 1 := ⟨g - 1, by omega⟩
  rw [Nat.add_mul, Nat.one_mul] at hv
  rw [Nat.add_sub_cancel]
  have h2 : c = 0 ∨ c = 1 := by omega
  generalize g' * V = z at *
  rcases h2 with h | h
  · subst h; omega
  · subst h; omega
theorem dig_mend (v : List Int) (n : Nat) (hn : v.length = n) (hb : n ≤ 17592186044416) (hv : Lim v) (hV : 0 < val v) (W : Nat) (K : Nat) : ∀ (d g : Nat) (u : List Int) (bw : Int), g - W / val v ≤ d → W / val v ≤ g → g < 18446744073709551616 → u.length = n + 1 → Lim u →
    (0 ≤ bw ∧ bw ≤ 1) → val u + g * val v = W + 18446744073709551616 ^ (n + 1) * bw.toNat →
    ∃ u', nat_digit.l1 (K + d * (n + 4) + 1) u v (n : Int) (g : Int) bw = some (((W / val v : Nat) : Int), u') ∧ u'.length = n + 1 ∧ Lim u' ∧ val u' = W % val v := by
  have hdm := Nat.div_add_mod W (val v)
  have hmod := Nat.mod_lt W hV
  have wp : wrap64 ((n : Int) + 1) = ((n + 1 : Nat) : Int) := by clear hdm hmod; unfold wrap64; omega
  obtain ⟨P, hP⟩ : ∃ P, P = 18446744073709551616 ^ (n + 1) := ⟨_, rfl⟩
  have hlt : ∀ u, Lim u → u.length = n + 1 → val u < P := fun u h1 h2 => by rw [hP, ← h2]; exact val_lt u h1
  have hbk : ∀ (g bw : Int) (K : Nat) (u : List Int), u.length = n + 1 → Lim u → ∃ (u' : List Int) (c' : Int), nat_digit.l2 (K + (n + 1) + 1) u v (n : Int) g bw 0 ((n + 1 : Nat) : Int) ((0 : Nat) : Int) = nat_digit.l1 K u' v (n : Int) g (IntKind.u64.wrap (bw - c')) ∧ u'.length = n + 1 ∧ Lim u' ∧ (0 ≤ c' ∧ c' ≤ 1) ∧ val u' + P * c'.toNat = val u + val v := fun g bw K u h1 h2 => by
    rw [hP]
    exact dig_back v n hn hb hv (val u) g bw K (n + 1) 0 u 0 (Nat.zero_add _) h1 h2 (by decide) (by simp [val])
  have hfit := fun g x => mend_fit (val v) W P g x hV
  have hover := fun g x => mend_over (val v) W P g x
  rw [← hP]
  clear hP
  obtain ⟨Q, hQ⟩ : ∃ Q, Q = W / val v := ⟨_, rfl⟩
  obtain ⟨R, hR⟩ : ∃ R, R = W % val v := ⟨_, rfl⟩
  rw [← hQ, ← hR] at hdm
  rw [← hR] at hmod
  rw [← hQ, ← hR]
  rw [← hQ] at hfit hover
  clear hQ hR
  intro d
  induction d with
  | zero =>
    intro g u bw hd hge hg hl hu hw hv2
    obtain rfl : g = Q := by clear hv2 hdm hmod hfit hover; omega
    have hz := mend_zero (val v) W g P R bw.toNat hdm hmod (val u) (hlt u hu hl) (by clear hv2 hdm hmod hfit hover; omega) hv2
    have hb0 : bw = 0 := by clear hv2 hdm hmod hfit hover; omega
    refine ⟨u, ?_, hl, hu, mend_end (val v) W g P R bw.toNat hdm hz (val u) hv2⟩
    rw [hb0]
    simp only [nat_digit.l1]
    rw [if_neg (by decide)]
  | succ d ih =>
    intro g u bw hd hge hg hl hu hw hv2
    by_cases hb0 : bw = 0
    · have hz : bw.toNat = 0 := by rw [hb0]; rfl
      have h1 := hfit g (val u) (by rw [hz] at hv2; exact hv2)
      obtain rfl : g = Q := Nat.le_antisymm h1 hge
      refine ⟨u, ?_, hl, hu, mend_end (val v) W g P R bw.toNat hdm hz (val u) hv2⟩
      rw [hb0]
      simp only [nat_digit.l1]
      rw [if_neg (by decide)]
    · have hb1 : bw = 1 := by clear hv2 hdm hmod hfit hover; omega
      have hz : bw.toNat = 1 := by rw [hb1]; rfl
      rw [hz] at hv2
      have hgt := hover g (val u) (hlt u hu hl) hv2
      have e1 : IntKind.u64.wrap ((g : Int) - 1) = ((g - 1 : Nat) : Int) := by clear hv2 hdm hmod hfit hover; rw [wr64 ((g : Int) - 1) (by omega)]; omega
      obtain ⟨u', c', hrun, hl', hu', hc', hv'⟩ := hbk ((g - 1 : Nat) : Int) 1 (K + d * (n + 4) + 1) u hl hu
      have hw' : IntKind.u64.wrap ((1 : Int) - c') = 1 - c' := wr64 ((1 : Int) - c') (by clear hv2 hdm hmod hv' hfit hover; omega)
      have hst := mend_step (val v) W P g (val u) (val u') c'.toNat (by clear hv2 hdm hmod hv' hfit hover; omega) (by clear hv2 hdm hmod hv' hfit hover; omega) hv2 hv'
      have hcc : (1 - c').toNat = 1 - c'.toNat := by clear hv2 hdm hmod hv' hfit hover hst; omega
      obtain ⟨u2, h1, h2⟩ := ih (g - 1) u' (1 - c') (by clear hv2 hdm hmod hv' hfit hover hst; omega) (by clear hv2 hdm hmod hv' hfit hover hst; omega) (by clear hv2 hdm hmod hv' hfit hover hst; omega) hl' hu' (by clear hv2 hdm hmod hv' hfit hover hst; omega) (by rw [hcc]; exact hst)
      refine ⟨u2, ?_, h2⟩
      have hfu : K + (d + 1) * (n + 4) + 1 = (K + d * (n + 4) + 1 + (n + 1) + 1) + 1 + 1 := by rw [Nat.add_mul, Nat.one_mul]; clear hv2 hdm hmod hv' hfit hover hst; omega
      rw [hfu, hb1]
      refine (nat_digit.mono_l ((K + d * (n + 4) + 1 + (n + 1) + 1) + 1)).2.2.1 u v (n : Int) (g : Int) 1 _ ?_
      simp only [nat_digit.l1]
      rw [if_pos (by decide), e1, wp]
      rw [hw'] at hrun
      exact hrun.trans h1
theorem top_guess (P A um un vt Q V W D : Nat) (hA : A < P) (hW : W = A + P * (um + 18446744073709551616 * un)) (hV : V = D + P * vt) (hq : Q * V ≤ W) : Q * vt ≤ un * 18446744073709551616 + um := by
  have h1 : P * (Q * vt) ≤ Q * V := by rw [hV, Nat.mul_add, Nat.mul_left_comm Q P]; exact Nat.le_add_left _ _
  have h2 : P * (Q * vt) < P * (um + 18446744073709551616 * un + 1) := by
    rw [Nat.mul_add P (um + 18446744073709551616 * un) 1, Nat.mul_one]
    generalize P * (um + 18446744073709551616 * un) = z at *
    omega
  have h3 := Nat.lt_of_mul_lt_mul_left h2
  omega
theorem digit_run (win vs : List Int) (n : Nat) (hw : Lim win) (hv : Lim vs) (hn : vs.length = n) (hl : win.length = n + 1) (hb : n ≤ 17592186044416) (hV : 0 < val vs) (g : Nat) (hg : g < 18446744073709551616) (hge : val win / val vs ≤ g) (K2 : Nat) :
    ∃ u', nat_digit.j0 (K2 + (g - val win / val vs) * (n + 4) + 1 + (n + 1) + 1 + 1) win vs (n : Int) (g : Int) = some (((val win / val vs : Nat) : Int), u') ∧ u'.length = n + 1 ∧ Lim u' ∧ val u' = val win % val vs := by
  have wp : wrap64 ((n : Int) + 1) = ((n + 1 : Nat) : Int) := by unfold wrap64; omega
  obtain ⟨u1, b1, e1, l1, m1, w1, v1⟩ := dig_off vs n hn hb hv (val win) (g : Int) (by omega) (K2 + (g - val win / val vs) * (n + 4) + 1) (n + 1) 0 win 0 0 (Nat.zero_add _) hl hw (by decide) (by decide) (fun _ => rfl) (by simp [val])
  rw [Int.toNat_natCast] at v1
  obtain ⟨u2, e2, h2⟩ := dig_mend vs n hn hb hv hV (val win) K2 (g - val win / val vs) g u1 b1 (Nat.le_refl _) hge hg l1 m1 w1 v1
  refine ⟨u2, ?_, h2⟩
  simp only [nat_digit.j0]
  rw [wp]
  exact e1.trans e2
theorem digit_is (win vs : List Int) (hw : Lim win) (hv : Lim vs) (hl : win.length = vs.length + 1) (hm : 1 ≤ vs.length) (hb : vs.length ≤ 17592186044416) (hlt : val win < 18446744073709551616 * val vs) :
    ∃ (K : Nat) (qd : Int) (win' : List Int), nat_digit.f K win vs = some (qd, win') ∧ win'.length = win.length ∧ Lim win' ∧ qd = ((val win / val vs : Nat) : Int) ∧ val win' = val win % val vs := by
  have hV : 0 < val vs := by
    rcases Nat.eq_zero_or_pos (val vs) with h | h
    · rw [h] at hlt; exact absurd hlt (by simp)
    · exact h
  obtain ⟨n, hn⟩ : ∃ n, vs.length = n + 1 := ⟨vs.length - 1, by omega⟩
  have w1 : wrap64 ((vs.length : Int) - 1) = (n : Int) := by clear hlt hV; unfold wrap64; omega
  obtain ⟨un, hun⟩ : ∃ a : Nat, win.getD (n + 1) 0 = a := ⟨(win.getD (n + 1) 0).toNat, by have := (hw.getD (n + 1)).1; clear hlt; omega⟩
  obtain ⟨um, hum⟩ : ∃ a : Nat, win.getD n 0 = a := ⟨(win.getD n 0).toNat, by have := (hw.getD n).1; clear hlt; omega⟩
  obtain ⟨vt, hvt⟩ : ∃ a : Nat, vs.getD n 0 = a := ⟨(vs.getD n 0).toNat, by have := (hv.getD n).1; clear hlt; omega⟩
  have bun := (hw.getD (n + 1)).2
  have bum := (hw.getD n).2
  have bvt := (hv.getD n).2
  rw [hun] at bun
  rw [hum] at bum
  rw [hvt] at bvt
  have eW : val win = val (win.take n) + 18446744073709551616 ^ n * (um + 18446744073709551616 * un) := by
    have h1 := take_getD win (n + 1)
    have h2 := take_getD win n
    rw [List.take_of_length_le (by clear hlt h1 h2; omega), hun, Int.toNat_natCast] at h1
    rw [hum, Int.toNat_natCast] at h2
    rw [h1, h2, Nat.pow_succ, Nat.mul_add, Nat.mul_assoc]
    rw [Nat.add_assoc]
  have eV : val vs = val (vs.take n) + 18446744073709551616 ^ n * vt := by
    have h2 := take_getD vs n
    rw [List.take_of_length_le (by clear hlt h2 eW; omega), hvt, Int.toNat_natCast] at h2
    exact h2
  have hA : val (win.take n) < 18446744073709551616 ^ n := by
    have := val_lt (win.take n) (hw.take n)
    rw [List.length_take, Nat.min_eq_left (by clear hlt this eW eV; omega)] at this
    exact this
  have hQ := Nat.div_mul_le_self (val win) (val vs)
  have hfit := top_guess (18446744073709551616 ^ n) (val (win.take n)) um un vt (val win / val vs) (val vs) (val win) (val (vs.take n)) hA eW eV hQ
  have hQB : val win / val vs < 18446744073709551616 := Nat.div_lt_of_lt_mul (by rw [Nat.mul_comm]; exact hlt)
  clear eW eV hA hQ hlt
  have r1 : rd win (vs.length : Int) = (un : Int) := by rw [hn]; exact hun
  have r2 : rd win (n : Int) = (um : Int) := hum
  have r3 : rd vs (n : Int) = (vt : Int) := hvt
  have q1 : (0 : Int) ≤ (vs.length : Int) := by omega
  have q2 : (vs.length : Int) < (win.length : Int) := by clear hfit hQB; omega
  have q3 : (0 : Int) ≤ (n : Int) := by omega
  have q4 : (n : Int) < (vs.length : Int) := by clear hfit hQB; omega
  have q5 : (n : Int) < (win.length : Int) := by clear hfit hQB; omega
  by_cases c : (un : Int) < (vt : Int)
  · have hg : val win / val vs ≤ (un * 18446744073709551616 + um) / vt := (Nat.le_div_iff_mul_le (by clear hfit hQB; omega)).2 hfit
    have hgB : (un * 18446744073709551616 + um) / vt < 18446744073709551616 := Nat.div_lt_of_lt_mul (by clear hfit hQB hg; omega)
    obtain ⟨g, hge⟩ : ∃ g, g = (un * 18446744073709551616 + um) / vt := ⟨_, rfl⟩
    rw [← hge] at hg hgB
    obtain ⟨u', e, l, m, v⟩ := digit_run win vs vs.length hw hv rfl hl hb hV g hgB hg 50000000000
    refine ⟨50000000000 + (g - val win / val vs) * (vs.length + 4) + 1 + (vs.length + 1) + 1 + 1, _, u', ?_, by rw [l, hl], m, rfl, v⟩
    · unfold nat_digit.f
      have hk : 50000000000 ≤ 50000000000 + (g - val win / val vs) * (vs.length + 4) + 1 + (vs.length + 1) + 1 + 1 := by
        generalize (g - val win / val vs) * (vs.length + 4) = z
        clear hfit hQB hg hge
        omega
      rw [if_pos q1, if_pos q2, w1, if_pos q3, if_pos q4, r1, r3, if_pos c, if_pos q5, r2, Div64_eq un um vt (by clear hfit hQB hg hge hk; omega) (by clear hfit hQB hg hge hk; omega) (by clear hfit hQB hg hge hk; omega) _ hk, Option.bind_some]
      simp only
      rw [← hge]
      exact e
  · have hg : val win / val vs ≤ 18446744073709551615 := by clear hfit; omega
    obtain ⟨g, hge⟩ : ∃ g : Nat, g = 18446744073709551615 := ⟨_, rfl⟩
    rw [← hge] at hg
    obtain ⟨u', e, l, m, v⟩ := digit_run win vs vs.length hw hv rfl hl hb hV g (by clear hfit hQB hg; omega) hg 0
    refine ⟨0 + (g - val win / val vs) * (vs.length + 4) + 1 + (vs.length + 1) + 1 + 1, _, u', ?_, by rw [l, hl], m, rfl, v⟩
    · unfold nat_digit.f
      rw [if_pos q1, if_pos q2, w1, if_pos q3, if_pos q4, r1, r3, if_neg c]
      have : (18446744073709551615 : Int) = (g : Int) := by rw [hge]; rfl
      rw [this]
      exact e
theorem split3 (us : List Int) (j m : Nat) (h : j + m ≤ us.length) : ∃ pre win post, us = pre ++ win ++ post ∧ pre.length = j ∧ win.length = m := by
  refine ⟨us.take j, (us.drop j).take m, (us.drop j).drop m, ?_, by rw [List.length_take]; omega, by rw [List.length_take, List.length_drop]; omega⟩
  rw [List.append_assoc, List.take_append_drop, List.take_append_drop]
theorem val3 (pre win post : List Int) : val (pre ++ win ++ post) = val pre + 18446744073709551616 ^ pre.length * val win + 18446744073709551616 ^ (pre.length + win.length) * val post := by
  rw [val_app, val_app, List.length_append]
theorem div_win (pre win post : List Int) (V m : Nat) (hwl : win.length = m + 1) (hV : V < 18446744073709551616 ^ m) (h2 : val (pre ++ win ++ post) < 18446744073709551616 ^ (pre.length + 1) * V) :
    val post = 0 ∧ val win < 18446744073709551616 * V := by
  rw [val3, hwl] at h2
  have hp : 0 < 18446744073709551616 ^ pre.length := Nat.pow_pos (by decide)
  have e1 : 18446744073709551616 ^ (pre.length + 1) * V = 18446744073709551616 ^ pre.length * (18446744073709551616 * V) := by rw [Nat.pow_succ, Nat.mul_assoc]
  have e2 : 18446744073709551616 ^ (pre.length + (m + 1)) = 18446744073709551616 ^ pre.length * (18446744073709551616 * 18446744073709551616 ^ m) := by
    rw [Nat.pow_add, Nat.pow_succ, Nat.mul_comm (18446744073709551616 ^ m)]
  have h3 : 18446744073709551616 * V < 18446744073709551616 * 18446744073709551616 ^ m := Nat.mul_lt_mul_of_pos_left hV (by decide)
  rw [e1, e2] at h2
  generalize 18446744073709551616 ^ pre.length = P at *
  have h4 : P * (18446744073709551616 * V) ≤ P * (18446744073709551616 * 18446744073709551616 ^ m) := Nat.mul_le_mul_left _ (Nat.le_of_lt h3)
  have hz : val post = 0 := by
    rcases Nat.eq_zero_or_pos (val post) with c | c
    · exact c
    · exfalso
      have h5 : P * (18446744073709551616 * 18446744073709551616 ^ m) * 1 ≤ P * (18446744073709551616 * 18446744073709551616 ^ m) * val post := Nat.mul_le_mul_left _ c
      rw [Nat.mul_one] at h5
      generalize P * (18446744073709551616 * 18446744073709551616 ^ m) * val post = z at *
      generalize P * (18446744073709551616 * 18446744073709551616 ^ m) = y at *
      generalize P * (18446744073709551616 * V) = x at *
      generalize P * val win = v at *
      omega
  refine ⟨hz, ?_⟩
  rw [hz, Nat.mul_zero] at h2
  have h6 : P * val win < P * (18446744073709551616 * V) := by
    generalize P * val win = x at *
    generalize P * (18446744073709551616 * V) = y at *
    omega
  exact Nat.lt_of_mul_lt_mul_left h6
theorem drop_set (qs : List Int) (p : Nat) (q : Int) (h : p < qs.length) : (qs.set p q).drop p = q :: qs.drop (p + 1) := by
  rw [List.drop_eq_getElem_cons (by rw [List.length_set]; exact h), List.getElem_set_self, List.drop_set_of_lt (by omega)]
theorem div_step (pre win post win' qs : List Int) (V U : Nat) (hpre : Lim pre) (hV : 0 < V) (hq : pre.length < qs.length) (hl : win'.length = win.length) (hpost : val post = 0)
    (hw : val win' = val win % V) (h1 : val (pre ++ win ++ post) + 18446744073709551616 ^ (pre.length + 1) * (val (qs.drop (pre.length + 1)) * V) = U) :
    val (pre ++ win' ++ post) + 18446744073709551616 ^ pre.length * (val ((qs.set pre.length ((val win / V : Nat) : Int)).drop pre.length) * V) = U ∧ val (pre ++ win' ++ post) < 18446744073709551616 ^ pre.length * V := by
  rw [val3, hpost, Nat.mul_zero, Nat.add_zero] at h1 ⊢
  have hp := val_lt pre hpre
  rw [drop_set _ _ _ hq]
  simp only [val, Int.toNat_natCast]
  rw [hw]
  have e1 : 18446744073709551616 ^ (pre.length + 1) * (val (qs.drop (pre.length + 1)) * V) = 18446744073709551616 ^ pre.length * (18446744073709551616 * val (qs.drop (pre.length + 1)) * V) := by
    rw [Nat.pow_succ, Nat.mul_assoc, Nat.mul_assoc]
  rw [e1] at h1
  have hmod : val win % V < V := Nat.mod_lt _ hV
  have hdm := Nat.div_add_mod (val win) V
  generalize 18446744073709551616 ^ pre.length = P at *
  generalize val (qs.drop (pre.length + 1)) = D at *
  generalize val win % V = r at *
  generalize val win / V = q at *
  constructor
  · rw [← h1, ← hdm, Nat.add_mul q, Nat.mul_add P, Nat.mul_add P (V * q), Nat.mul_comm V q]
    omega
  · have h2 : P * (r + 1) ≤ P * V := Nat.mul_le_mul_left _ hmod
    rw [Nat.mul_add] at h2
    generalize P * r = x at *
    generalize P * V = y at *
    omega
theorem div_end (x y q r un : Nat) (hy : 0 < y) (h : r + q * (y * 2 ^ un) = x * 2 ^ un) (hr : r < y * 2 ^ un) : q = x / y ∧ r / 2 ^ un = x % y := by
  have hp : 0 < 2 ^ un := Nat.two_pow_pos un
  have e1 : (x * 2 ^ un) / (y * 2 ^ un) = q := by
    rw [← h, Nat.add_mul_div_right _ _ (Nat.mul_pos hy hp), Nat.div_eq_of_lt hr, Nat.zero_add]
  have e2 : (x * 2 ^ un) % (y * 2 ^ un) = r := by
    rw [← h, Nat.add_mul_mod_self_right, Nat.mod_eq_of_lt hr]
  rw [Nat.mul_div_mul_right _ _ hp] at e1
  rw [Nat.mul_mod_mul_right] at e2
  refine ⟨e1.symm, ?_⟩
  rw [← e2, Nat.mul_div_cancel _ hp]
theorem or_u64 (a b : Nat) (ha : a < 18446744073709551616) (hb : b < 18446744073709551616) (hab : a ||| b < 18446744073709551616) : Go.bits .or .u64 (a : Int) (b : Int) = ((a ||| b : Nat) : Int) := by
  have e2 : (2 : Nat) ^ 64 = 18446744073709551616 := by decide
  simp only [Go.bits]
  have hb64 : IntKind.u64.bits = 64 := rfl
  rw [BitVec.ofInt_natCast, BitVec.ofInt_natCast, BitVec.toNat_or, BitVec.toNat_ofNat, BitVec.toNat_ofNat, hb64, Nat.mod_eq_of_lt (by rw [e2]; exact ha), Nat.mod_eq_of_lt (by rw [e2]; exact hb), IntKind.wrap_u64]
  generalize a ||| b = z at hab ⊢
  omega
theorem or_add (a b i : Nat) (h : a < 2 ^ i) : a ||| (b * 2 ^ i) = a + b * 2 ^ i := by
  have := Nat.shiftLeft_add_eq_or_of_lt h b
  rw [Nat.shiftLeft_eq] at this
  rw [Nat.or_comm, ← this, Nat.add_comm]
def shrs (s : Nat) : List Int → List Int
  | [] => []
  | x :: r => ((x.toNat / 2 ^ s + (r.getD 0 0).toNat % 2 ^ s * 2 ^ (64 - s) : Nat) : Int) :: shrs s r
theorem shrs_len (s : Nat) : ∀ d : List Int, (shrs s d).length = d.length
  | [] => rfl
  | x :: r => by simp [shrs, shrs_len s r]
theorem split (s : Nat) (hs : s < 64) : 2 ^ s * 2 ^ (64 - s) = 18446744073709551616 := by
  rw [← Nat.pow_add, show s + (64 - s) = 64 by omega]
theorem limb_shr (x t s : Nat) (hs : s < 64) (hx : x < 18446744073709551616) : x / 2 ^ s < 2 ^ (64 - s) ∧ x / 2 ^ s + t % 2 ^ s * 2 ^ (64 - s) < 18446744073709551616 := by
  have hp := split s hs
  have h1 : x / 2 ^ s < 2 ^ (64 - s) := Nat.div_lt_of_lt_mul (by rw [hp]; exact hx)
  have h2 : t % 2 ^ s + 1 ≤ 2 ^ s := Nat.mod_lt _ (Nat.two_pow_pos s)
  have h3 := Nat.mul_le_mul_right (2 ^ (64 - s)) h2
  rw [hp, Nat.add_mul] at h3
  exact ⟨h1, by omega⟩
theorem head_mod (r : List Int) (s : Nat) (hs : s < 64) : val r % 2 ^ s = (r.getD 0 0).toNat % 2 ^ s := by
  cases r with
  | nil => rfl
  | cons y r =>
    simp only [val, List.getD_cons_zero]
    rw [← split s hs, Nat.mul_assoc, Nat.add_mul_mod_self_left]
theorem shrs_val (s : Nat) (hs : s < 64) : ∀ d : List Int, Lim d → val (shrs s d) = val d / 2 ^ s
  | [], _ => by simp [shrs, val]
  | x :: r, h => by
    have ih := shrs_val s hs r (fun z hz => h z (List.mem_cons_of_mem _ hz))
    have hm := head_mod r s hs
    have hp := split s hs
    simp only [shrs, val, Int.toNat_natCast]
    rw [ih, ← hm, ← hp, Nat.mul_assoc (2 ^ s) _ (val r / 2 ^ s), Nat.mul_assoc (2 ^ s) _ (val r), Nat.add_mul_div_left _ _ (Nat.two_pow_pos s)]
    have e := Nat.div_add_mod (val r) (2 ^ s)
    have e2 : 2 ^ (64 - s) * val r = 2 ^ s * (2 ^ (64 - s) * (val r / 2 ^ s)) + val r % 2 ^ s * 2 ^ (64 - s) := by
      rw [← e, Nat.mul_add, e, Nat.mul_left_comm, Nat.mul_comm (2 ^ (64 - s)) (val r % 2 ^ s)]
    omega
theorem shrs_lim (s : Nat) (hs : s < 64) : ∀ d : List Int, Lim d → Lim (shrs s d)
  | [], _ => fun x hx => absurd hx List.not_mem_nil
  | x :: r, h => by
    have ih := shrs_lim s hs r (fun z hz => h z (List.mem_cons_of_mem _ hz))
    have hx := h x List.mem_cons_self
    have hl := limb_shr x.toNat (r.getD 0 0).toNat s hs (by omega)
    intro z hz
    simp only [shrs] at hz
    rcases List.mem_cons.1 hz with h1 | h1
    · obtain ⟨m, hm⟩ : ∃ m : Nat, m = x.toNat / 2 ^ s + (r.getD 0 0).toNat % 2 ^ s * 2 ^ (64 - s) := ⟨_, rfl⟩
      have h2 := hl.2
      rw [← hm] at h1 h2
      omega
    · exact ih z h1
theorem drop_val (l : List Int) (q : Nat) (h : Lim l) : val (l.drop q) = val l / 18446744073709551616 ^ q := by
  by_cases c : q ≤ l.length
  · have e := val_app (l.take q) (l.drop q)
    rw [List.take_append_drop, List.length_take, Nat.min_eq_left c] at e
    have hlt := val_lt (l.take q) (fun z hz => h z (List.mem_of_mem_take hz))
    rw [List.length_take, Nat.min_eq_left c] at hlt
    rw [e, Nat.add_mul_div_left _ _ (Nat.pow_pos (by decide)), Nat.div_eq_of_lt hlt, Nat.zero_add]
  · rw [List.drop_eq_nil_of_le (by omega)]
    have hlt := val_lt l h
    have hp : 18446744073709551616 ^ l.length ≤ 18446744073709551616 ^ q := Nat.pow_le_pow_right (by decide) (by omega)
    rw [Nat.div_eq_of_lt (by omega)]
    rfl
theorem lpow_two (q s : Nat) : 18446744073709551616 ^ q * 2 ^ s = 2 ^ (64 * q + s) := by
  rw [Nat.pow_add, Nat.pow_mul]
theorem shrs_drop (l : List Int) (h : Lim l) (n : Nat) : val (shrs (n % 64) (l.drop (n / 64))) = val l / 2 ^ n := by
  rw [shrs_val _ (Nat.mod_lt _ (by decide)) _ (fun z hz => h z (List.mem_of_mem_drop hz)), drop_val l _ h, Nat.div_div_eq_div_mul, lpow_two, Nat.div_add_mod]
theorem shr_limb (x t s : Nat) (hs : s < 64) (hx : x < 18446744073709551616) (ht : t < 18446744073709551616) :
    Go.bits .or .u64 (shr .u64 (x : Int) (s : Int)) (shl .u64 (IntKind.u64.wrap ((t : Int) * 2)) (wrap64 (63 - (s : Int)))) = ((x / 2 ^ s + t % 2 ^ s * 2 ^ (64 - s) : Nat) : Int) := by
  have hp := split s hs
  have hl := limb_shr x t s hs hx
  have e1 : shr .u64 (x : Int) (s : Int) = ((x / 2 ^ s : Nat) : Int) := by
    unfold shr
    rw [Int.toNat_natCast, Nat.min_eq_left (show s ≤ IntKind.u64.bits by show s ≤ 64; omega), Int.natCast_ediv, Int.natCast_pow]
    rfl
  have w1 : wrap64 (63 - (s : Int)) = ((63 - s : Nat) : Int) := by unfold wrap64; omega
  have e2 : shl .u64 (IntKind.u64.wrap ((t : Int) * 2)) (wrap64 (63 - (s : Int))) = ((t % 2 ^ s * 2 ^ (64 - s) : Nat) : Int) := by
    rw [w1]
    unfold shl
    rw [Int.toNat_natCast, Nat.min_eq_left (show 63 - s ≤ IntKind.u64.bits by show 63 - s ≤ 64; omega), IntKind.wrap_u64, IntKind.wrap_u64]
    have a1 : (t : Int) * 2 % 18446744073709551616 = ((t * 2 % 18446744073709551616 : Nat) : Int) := by omega
    have a2 : ((2 : Int)) ^ (63 - s) = ((2 ^ (63 - s) : Nat) : Int) := by rw [Int.natCast_pow]; rfl
    rw [a1, a2, ← Int.natCast_mul]
    have a3 : (t * 2 % 18446744073709551616 * 2 ^ (63 - s)) % 18446744073709551616 = t % 2 ^ s * 2 ^ (64 - s) := by
      rw [Nat.mod_mul_mod, Nat.mul_assoc, ← Nat.pow_succ', show (63 - s).succ = 64 - s by omega, ← hp, Nat.mul_mod_mul_right]
    rw [← a3]
    generalize t * 2 % 18446744073709551616 * 2 ^ (63 - s) = z
    omega
  rw [e1, e2]
  have ho := or_add (x / 2 ^ s) (t % 2 ^ s) (64 - s) hl.1
  rw [or_u64 (x / 2 ^ s) (t % 2 ^ s * 2 ^ (64 - s)) (Nat.lt_of_le_of_lt (Nat.le_add_right _ _) hl.2) (Nat.lt_of_le_of_lt (Nat.le_add_left _ _) hl.2) (by rw [ho]; exact hl.2), ho]
theorem Shr_loop (l : List Int) (hl : Lim l) (hb : l.length ≤ 35184372088832) (n : Nat) (hn : n < 9223372036854775808) (K : Nat) : ∀ (d i : Nat) (x6 : List Int), i + d = l.length → x6.length + d ≤ 17592186044410 →
    nat_Shr.l0 (K + d + 1) l (n : Int) x6 (i : Int) = (nat_trim.f K (x6 ++ shrs (n % 64) (l.drop i))).bind fun t => some (t, 0) := by
  have hm : Int.tmod (n : Int) 64 = ((n % 64 : Nat) : Int) := by rw [Int.tmod_eq_emod_of_nonneg (by omega)]; omega
  intro d
  induction d with
  | zero =>
    intro i x6 hi hx
    simp only [nat_Shr.l0]
    rw [if_neg (by omega), List.drop_eq_nil_of_le (by omega)]
    simp [shrs]
  | succ d ih =>
    intro i x6 hi hx
    have w2 : wrap64 ((i : Int) + 1) = ((i + 1 : Nat) : Int) := by unfold wrap64; omega
    have w3 : (0 : Int) ≤ wrap64 (63 - ((n % 64 : Nat) : Int)) := by unfold wrap64; omega
    have r1 : rd l (i : Int) = l.getD i 0 := rfl
    have hx0 := hl.getD i
    have ht0 := hl.getD (i + 1)
    obtain ⟨K1, hK1⟩ : ∃ K1, K1 = K + d + 1 := ⟨_, rfl⟩
    rw [show K + (d + 1) + 1 = K1 + 1 by omega]
    simp only [nat_Shr.l0]
    rw [if_pos (by omega), if_pos (by omega), hm, if_pos (by omega), w2, at_eq l _ (by omega), Option.bind_some, if_pos w3, if_pos (by omega), r1, Int.toNat_natCast]
    have ed : l.drop i = l.getD i 0 :: l.drop (i + 1) := by
      rw [List.drop_eq_getElem_cons (by omega : i < l.length)]
      congr 1
      rw [List.getD_eq_getElem?_getD, List.getElem?_eq_getElem (by omega)]; rfl
    have eg : (l.drop (i + 1)).getD 0 0 = l.getD (i + 1) 0 := by
      rw [List.getD_eq_getElem?_getD, List.getD_eq_getElem?_getD, List.getElem?_drop, Nat.add_zero]
    obtain ⟨a, ha⟩ : ∃ a : Nat, l.getD i 0 = a := ⟨(l.getD i 0).toNat, by omega⟩
    obtain ⟨b, hb2⟩ : ∃ b : Nat, l.getD (i + 1) 0 = b := ⟨(l.getD (i + 1) 0).toNat, by omega⟩
    have es : shrs (n % 64) (l.drop i) = ((a / 2 ^ (n % 64) + b % 2 ^ (n % 64) * 2 ^ (64 - n % 64) : Nat) : Int) :: shrs (n % 64) (l.drop (i + 1)) := by
      rw [ed]
      simp only [shrs]
      rw [eg, ha, hb2, Int.toNat_natCast, Int.toNat_natCast]
    rw [ha, hb2, shr_limb a b (n % 64) (Nat.mod_lt _ (by decide)) (by omega) (by omega), hK1, ih (i + 1) _ (by omega) (by rw [List.length_append]; simp; omega), es, List.append_assoc]
    rfl
theorem Shr_off (l : List Int) (hl : Lim l) (hb : l.length ≤ 35184372088832) (n : Nat) (ho : l.length ≤ 17592186044410 + n / 64) (hn : n < 9223372036854775808) (K : Nat) (hK : 2 * l.length + 4 ≤ K) : nat_Shr.f K l (n : Int) = some (limbs (val l / 2 ^ n), 0) := by
  unfold nat_Shr.f
  have w1 : wrap64 (Int.tdiv (n : Int) 64) = ((n / 64 : Nat) : Int) := by
    rw [Int.tdiv_eq_ediv_of_nonneg (by omega)]; unfold wrap64; omega
  rw [if_neg (by omega), w1]
  have hv := shrs_drop l hl n
  have hL := shrs_lim (n % 64) (Nat.mod_lt _ (by decide)) (l.drop (n / 64)) (fun z hz => hl z (List.mem_of_mem_drop hz))
  have hlen := shrs_len (n % 64) (l.drop (n / 64))
  rw [List.length_drop] at hlen
  by_cases c : n / 64 ≤ l.length
  · have h := Shr_loop l hl hb n hn (K - (l.length - n / 64) - 1) (l.length - n / 64) (n / 64) [] (by omega) (by simp; omega)
    rw [show K - (l.length - n / 64) - 1 + (l.length - n / 64) + 1 = K by omega] at h
    rw [h, List.nil_append, trim_ge _ hL (by omega) _ (by omega), hv]
    rfl
  · obtain ⟨K', rfl⟩ : ∃ K', K = K' + 1 := ⟨K - 1, by omega⟩
    simp only [nat_Shr.l0]
    rw [if_neg (by omega)]
    rw [List.drop_eq_nil_of_le (by omega)] at hv
    have h0 : val l / 2 ^ n = 0 := hv.symm
    rw [h0, trim_ge [] Lim.nil (by simp) _ (by simp; omega)]
    rfl
theorem Shr_ge (l : List Int) (hl : Lim l) (hb : l.length ≤ 17592186044410) (n : Nat) (hn : n < 9223372036854775808) (K : Nat) (hK : 2 * l.length + 4 ≤ K) : nat_Shr.f K l (n : Int) = some (limbs (val l / 2 ^ n), 0) :=
  Shr_off l hl (by omega) n (by omega) hn K hK
end Go.Proofs.Ytfaknblpkegekaa.Q
end
section
namespace Go.Proofs.Ytfaknblpkegekaa.Q
open Go.RowKit Go.Proofs.YtfaknblpkegekaaW.PrintWords Go.Proofs.YtfaknblpkegekaaW.PrintLast Go.Proofs.YtfaknblpkegekaaW.PrintMore
attribute [local go_sem] max2_int min2_int max_two min_two max_three min_three max_four min_four   -- for this text's walks alone
set_option linter.unusedVariables false
set_option linter.unusedSimpArgs false
set_option maxHeartbeats 8000000 in
set_option maxRecDepth 100000 in
theorem DivMod_long (A0 : Option Addr) (c0 : Nat) (l0 : List Int) (A1 : Option Addr) (c1 : Nat) (l1 : List Int) (w : World) (hr0 : Kd.C (Kd.int .u64) w A0 l0.length l0) (hc0 : l0.length ≤ c0) (hr1 : Kd.C (Kd.int .u64) w A1 l1.length l1) (hc1 : l1.length ≤ c1)
    (hL0 : Lim l0) (hL1 : Lim l1) (hn0 : l0.length ≤ 17592186043904) (hn1 : l1.length ≤ 17592186043904) (hm : 2 ≤ (limbs (val l1)).length) (hge : val l1 ≤ val l0) :
    Calls Try.prog 25 #[.slice A0 l0.length c0, .slice A1 l1.length c1] w fun e w' => ∃ v0_ v1_ : Value, e = .returned (.tuple #[v0_, v1_, .int .i64 0]) ∧ Kd.V (Kd.int .u64) 46 w' w.heap.size (fun k_ => (w.heap.size ≤ k_)) v0_ (limbs (val l0 / val l1)) ∧ Kd.V (Kd.int .u64) 46 w' w.heap.size (fun k_ => (w.heap.size ≤ k_)) v1_ (limbs (val l0 % val l1)) ∧ Below w.heap.size w w' := by
  have HT0 := Aside0.mk (trim_eq l0.length l0 rfl hL0 (by omega) 0)
  have HT1 := Aside0.mk (trim_eq l1.length l1 rfl hL1 (by omega) 0)
  have hq0 := limbs_prefix l0 hL0
  have hq1 := limbs_prefix l1 hL1
  have hle0 := limbs_le l0 hL0
  have hle1 := limbs_le l1 hL1
  have hcm := cmp_ge (limbs (val l0)) (limbs (val l1)) (limbs_lim _) (limbs_lim _) (by omega) (by omega) _ (Nat.le_refl _)
  rw [limbs_val, limbs_val] at hcm
  have HCMP := Aside0.mk hcm
  have hcn : decide (cmpN (val l0) (val l1) < 0) = false := decide_eq_false (by unfold cmpN; rw [if_neg (by omega)]; split <;> omega)
  obtain ⟨n, un, tp, vs, us, P⟩ := div_prep (val l0) (val l1) (limbs (val l0)).length (limbs (val l1)).length (by omega) (by omega) rfl rfl hm hge
  obtain ⟨a, ha⟩ : ∃ a, limbs (val l0) = a := ⟨_, rfl⟩
  obtain ⟨b, hb⟩ : ∃ b, limbs (val l1) = b := ⟨_, rfl⟩
  rw [ha] at HT0 hq0 hle0 HCMP P
  rw [hb] at HT1 hq1 hle1 HCMP P hm
  have HA := Aside0.mk (show Kd.C (Kd.int .u64) w A0 a.length a by have h := Kd.C_take (m := a.length) hr0 hle0; rw [← hq0] at h; exact h)
  have HD := Aside0.mk (show Kd.C (Kd.int .u64) w A1 b.length b by have h := Kd.C_take (m := b.length) hr1 hle1; rw [← hq1] at h; exact h)
  have HCA := Aside0.mk (show a.length ≤ c0 by omega)
  have HCD := Aside0.mk (show b.length ≤ c1 by omega)
  have HR0 := Aside0.mk hr0
  have HR1 := Aside0.mk hr1
  have HC0 := Aside0.mk hc0
  have HC1 := Aside0.mk hc1
  have HM := Aside0.mk (show 2 ≤ b.length ∧ b.length ≤ 17592186043904 ∧ a.length ≤ 17592186043904 from ⟨hm, by omega, by omega⟩)
  have HP := Aside0.mk P
  have HLZ := Aside0.mk P.lz
  have HSV := Aside0.mk P.shv
  have HSU := Aside0.mk P.shu
  have hlm : wrap64 ((b.length : Int) - 1) = ((b.length - 1 : Nat) : Int) := by unfold wrap64; omega
  have hbl0 : ((b.length : Int) == 0) = false := beq_eq_false_iff_ne.mpr (by omega)
  have hbl1 : ((b.length : Int) == 1) = false := beq_eq_false_iff_ne.mpr (by omega)
  have hbl2 : ¬ b = [] := fun h_ => by rw [h_] at hm; simp at hm
  have p1 : (0 : Int) ≤ ((b.length - 1 : Nat) : Int) := by omega
  have q1 : ((b.length - 1 : Nat) : Int) < (b.length : Int) := by omega
  obtain ⟨ad1, e1, hx1⟩ := Kd.at_int HD.out ((b.length - 1 : Nat) : Int) p1 q1
  cases e1
  rw [Int.toNat_natCast, P.top] at hx1
  have HX1 := Aside0.mk hx1
  replace p1 := eq_true p1
  replace q1 := eq_true q1
  clear hr0 hc0 hr1 hc1 hL0 hL1 hn0 hn1 hcm hq0 hq1 hle0 hle1 hge P hx1
  have HB := Aside0.mk (Below.refl w.heap.size w)
  go_enter Try.func25, Try.ntmps25
  go_wp2_with (first | ((with_reducible refine gate_callee (f := 43) rfl ?_); refine goesL_ (some 20) rfl rfl Try.func43 (by kernel_rfl) rfl #[.slice A0 l0.length c0] rfl (by (try simp only [List.map_toArray, List.map_cons, List.map_nil]); first | done | rfl) ?_; (with_reducible refine (trim_exact _ (fun k_ => k_ < w.heap.size) _ _ l0 _ _ ?side1 HT0.out).mono ?_); (case side1 => exact Kd.V_mk HC0.out (Kd.F_below (Kd.C_F (Kd.heap_int .u64) HR0.out) (by repeat (first | (with_reducible first | exact HB.out | apply below_alloc | apply pw_below_drewN | apply below_drew1) | exact HB.out)))); rintro e w1 ⟨rfl, hp, hb⟩; refine ⟨_, rfl, ?_⟩; have n2_ := Aside0.mk (below_step (by repeat (first | (with_reducible first | exact HB.out | apply below_alloc | apply pw_below_drewN | apply below_drew1) | exact HB.out)) hb); clear HB; have HB := n2_; clear n2_; clear hb hp) | ((with_reducible refine gate_callee (f := 43) rfl ?_); refine goesL_ (some 22) rfl rfl Try.func43 (by kernel_rfl) rfl #[.slice (some ad1) l1.length c1] rfl (by (try simp only [List.map_toArray, List.map_cons, List.map_nil]); first | done | rfl) ?_; (with_reducible refine (trim_exact _ (fun k_ => k_ < w.heap.size) _ _ l1 _ _ ?side1 HT1.out).mono ?_); (case side1 => exact Kd.V_mk HC1.out (Kd.F_below (Kd.C_F (Kd.heap_int .u64) HR1.out) (by repeat (first | (with_reducible first | exact HB.out | apply below_alloc | apply pw_below_drewN | apply below_drew1) | exact HB.out)))); rintro e w1 ⟨rfl, hp, hb⟩; refine ⟨_, rfl, ?_⟩; have n2_ := Aside0.mk (below_step (by repeat (first | (with_reducible first | exact HB.out | apply below_alloc | apply pw_below_drewN | apply below_drew1) | exact HB.out)) hb); clear HB; have HB := n2_; clear n2_; clear hb hp) | ((with_reducible refine gate_callee (f := 19) rfl ?_); refine goesL_ (some 60) rfl rfl Try.func19 (by kernel_rfl) rfl #[.slice A0 a.length c0, .slice (some ad1) b.length c1] rfl (by (try simp only [List.map_toArray, List.map_cons, List.map_nil]); first | done | rfl) ?_; (with_reducible refine (nat_Cmp.calls _ _ _ a _ _ b _ _ (Kd.C_below HA.out (by repeat (first | (with_reducible first | exact HB.out | apply below_alloc | apply pw_below_drewN | apply below_drew1) | exact HB.out))) HCA.out (Kd.C_below HD.out (by repeat (first | (with_reducible first | exact HB.out | apply below_alloc | apply pw_below_drewN | apply below_drew1) | exact HB.out))) HCD.out HCMP.out).mono ?_); rintro e w1 ⟨rfl, hb⟩; refine ⟨_, rfl, ?_⟩; have n2_ := Aside0.mk (below_step (by repeat (first | (with_reducible first | exact HB.out | apply below_alloc | apply pw_below_drewN | apply below_drew1) | exact HB.out)) hb); clear HB; have HB := n2_; clear n2_; clear hb; have hx2 := (HB.out.cell (World.block_lt_of_cell? w _ HX1.out)).trans HX1.out) | ((with_reducible refine gate_callee (f := 48) rfl ?_); refine goesL_ (some 70) rfl rfl Try.func48 (by kernel_rfl) rfl #[.int .u64 tp] rfl (by (try simp only [List.map_toArray, List.map_cons, List.map_nil]); first | done | rfl) ?_; (with_reducible refine (bits_LeadingZeros64.calls tp n _ HLZ.out).mono ?_); rintro e w1 ⟨rfl, ⟨nd, rfl⟩⟩; refine ⟨_, rfl, ?_⟩) | ((with_reducible refine gate_callee (f := 27) rfl ?_); refine goesL_ (some 74) rfl rfl Try.func27 (by kernel_rfl) rfl #[.slice (some ad1) b.length c1, .int .i64 n] rfl (by (try simp only [List.map_toArray, List.map_cons, List.map_nil]); first | done | rfl) ?_; (with_reducible refine (shl_own _ _ b n vs 0 _ (Kd.C_below HD.out (by repeat (first | (with_reducible first | exact HB.out | apply below_alloc | apply pw_below_drewN | apply below_drew1) | exact HB.out))) HCD.out HSV.out).mono ?_); rintro e wv ⟨vv, rfl, ho0, hb⟩; refine ⟨_, rfl, ?_⟩; have hz_ := below_size (by repeat (first | (with_reducible first | exact HB.out | apply below_alloc | apply pw_below_drewN | apply below_drew1) | exact HB.out)); have n2_ := Aside0.mk (below_step (by repeat (first | (with_reducible first | exact HB.out | apply below_alloc | apply pw_below_drewN | apply below_drew1) | exact HB.out)) hb); clear HB; have HB := n2_; clear n2_; have HZvv := Aside0.mk hz_; have Hvv := Aside0.mk ho0; clear hb ho0 hz_) | ((with_reducible refine gate_callee (f := 27) rfl ?_); refine goesL_ (some 80) rfl rfl Try.func27 (by kernel_rfl) rfl #[.slice A0 a.length c0, .int .i64 n] rfl (by (try simp only [List.map_toArray, List.map_cons, List.map_nil]); first | done | rfl) ?_; (with_reducible refine (shl_own _ _ a n us 0 _ (Kd.C_below HA.out (by repeat (first | (with_reducible first | exact HB.out | apply below_alloc | apply pw_below_drewN | apply below_drew1) | exact HB.out))) HCA.out HSU.out).mono ?_); rintro e wu ⟨vu, rfl, ho0, hb⟩; refine ⟨_, rfl, ?_⟩; obtain ⟨gv, cv, ev, hbv, hlv, _⟩ := Kd.R_form Hvv.out (by have := HP.out.lenv; have := HM.out; omega); subst ev; have Hvw := Aside0.mk (Kd.R_reok (ok := fun k_ => k_ = gv) rfl (Kd.R_lower Hvv.out HZvv.out) (fun k hk => by injection hk with hk; exact hk.symm)); clear Hvv; have Hvv := Hvw; clear Hvw; have HGV := Aside0.mk (And.intro hbv hlv); clear hbv hlv; have HSZ := Aside0.mk hb.size; have hz_ := below_size (by repeat (first | (with_reducible first | exact HB.out | apply below_alloc | apply pw_below_drewN | apply below_drew1) | exact HB.out)); have n_Hvv := Aside0.mk (Kd.R_below (by (with_reducible repeat (first | apply Kd.R_alloc | apply Kd.R_drewN | apply Kd.R_drew)); exact Hvv.out) hb); clear Hvv; have Hvv := n_Hvv; clear n_Hvv; have n2_ := Aside0.mk (below_step (by repeat (first | (with_reducible first | exact HB.out | apply below_alloc | apply pw_below_drewN | apply below_drew1) | exact HB.out)) hb); clear HB; have HB := n2_; clear n2_; have HZvu := Aside0.mk hz_; have Hvu := Aside0.mk ho0; clear hb ho0 hz_))
  go_loopg [13] (a.length + 1 - us.length) (fun gk v13 wr => ∃ xs : List Int, Aside0 (xs.length + gk = a.length + 1) ∧ Aside0 (Lim xs) ∧ Aside0 (val xs = val us) ∧ Aside0 (Kd.R (Kd.int .u64) 46 wr w.heap.size (fun k_ => (wv.heap.size ≤ k_)) v13 xs) ∧ Aside0 (Kd.R (Kd.int .u64) 46 wr w.heap.size (fun k_ => (k_ = gv)) (.slice (some ⟨gv, 0, none⟩) vs.length cv) vs) ∧ Aside0 (wv.heap.size ≤ wr.heap.size) ∧ Aside0 (Below w.heap.size w wr))
  case atStart => exact ⟨us, ⟨by have := HP.out.lenu; omega⟩, ⟨HP.out.limu⟩, ⟨rfl⟩, ⟨Kd.R_lower Hvu.out HZvu.out⟩, Hvv, HSZ, ⟨(by repeat (first | (with_reducible first | exact HB.out | apply below_alloc | apply pw_below_drewN | apply below_drew1) | exact HB.out))⟩⟩
  case round =>
    clear Hvu Hvv HSZ HB
    obtain ⟨xs, HI, HX, HV, HU, Hvv, HSZ, HB⟩ := hrel
    obtain ⟨Au, cu, eu⟩ := Kd.R_slice HU.out
    subst eu
    cases gk with
    | succ gk' =>
      have hd : decide ((xs.length : Int) ≤ (a.length : Int)) = true := decide_eq_true (by have := HI.out; omega)
      have hd2 : decide (xs.length ≤ a.length) = true := decide_eq_true (by have := HI.out; omega)
      go_wp2_with (first | ((with_reducible refine gate_builtin (b := .append) (xs := #[.tmp 88, .tmp 89]) rfl ?_); at_builtin; refine Kd.R_append (Kd.int .u64) (w0 := w) w.heap.size rfl (.tmp 88) (.tmp 89) 22 46 (.int .u64 0) 8 rfl Try.underlying22 info46 rfl (by decide) (by omega) (.slice Au xs.length cu) xs (0) [.int .u64 (0)] (fun k_ => (wv.heap.size ≤ k_)) (fun _ => False) rfl rfl ?aP (fun _ hk => hk.elim) ?aF ?aO ?aB ?aS ?aL ?_; (case aP => exact rfl); (case aB => exact (by repeat (first | (with_reducible first | exact HB.out | apply below_alloc | apply pw_below_drewN | apply below_drew1) | exact HB.out))); (case aF => exact (fun k_ hk => (Nat.le_trans (Nat.le_trans HSZ.out (by simp [World.alloc])) hk))); (case aO => exact (by (with_reducible repeat (first | apply Kd.R_alloc | apply Kd.R_drewN | apply Kd.R_drew)); exact HU.out)); (case aS => exact (below_size (by repeat (first | (with_reducible first | exact HB.out | apply below_alloc | apply pw_below_drewN | apply below_drew1) | exact HB.out)))); (case aL => have := HI.out; have := HM.out; omega); intro v120 w12 ho hb hg hat; have n2_ := Aside0.mk (Kd.R_grown (by (with_reducible repeat (first | apply Kd.R_alloc | apply Kd.R_drewN | apply Kd.R_drew)); exact Hvv.out) hg (fun k_ hk_ he_ => by have h1_ := HU.out.1 k_ he_.symm; have h2_ := HGV.out.2; omega)); have n3_ := Aside0.mk (Nat.le_trans (Nat.le_trans HSZ.out (by simp [World.alloc])) hg.size); have n0_ := Aside0.mk (hb); have n1_ := Aside0.mk (ho); clear HB HU Hvv HSZ; have HB := n0_; have HU := n1_; have Hvv := n2_; have HSZ := n3_; clear n0_ n1_ n2_ n3_; clear ho hb hg hat))
      go_roundg gk'
      case measure => omega
      case rel => exact ⟨xs ++ [0], ⟨by rw [List.length_append]; have := HI.out; simp; omega⟩, ⟨HX.out.app (Lim.one (by decide) (by decide))⟩, ⟨by rw [val_snoc0]; exact HV.out⟩, HU, Hvv, HSZ, ⟨(by repeat (first | (with_reducible first | exact HB.out | apply below_alloc | apply pw_below_drewN | apply below_drew1) | exact HB.out))⟩⟩
    | zero =>
      have hxl : xs.length = a.length + 1 := by have := HI.out; omega
      have hd : decide ((xs.length : Int) ≤ (a.length : Int)) = false := decide_eq_false (by omega)
      have hd2 : decide (xs.length ≤ a.length) = false := decide_eq_false (by omega)
      obtain ⟨gu, cu', eu, hbu, hlu, _⟩ := Kd.R_form HU.out (by omega)
      injection eu with ea_ eb_ ec_
      subst ea_
      subst ec_
      clear eb_
      have HGU := Aside0.mk (show wv.heap.size ≤ gu ∧ gu < wr.heap.size from ⟨HU.out.1 gu rfl, hlu⟩)
      have HU2 := Aside0.mk (Kd.R_reok (ok := fun k_ => k_ = gu) rfl HU.out (fun k hk => by injection hk with hk; exact hk.symm))
      clear HU hbu hlu
      obtain ⟨nq, hnq⟩ : ∃ nq : Nat, nq = a.length + 1 - b.length := ⟨_, rfl⟩
      have hla := HP.out.lenab
      have hlv := HP.out.lenv
      have hmb := HM.out
      have hm1 : wrap64 ((xs.length : Int) - (vs.length : Int)) = ((nq : Nat) : Int) := by unfold wrap64; omega
      have hm2 : wrap64 (((nq : Nat) : Int) - 1) = ((nq : Nat) : Int) - 1 := by unfold wrap64; omega
      have hmk := fun u => make_cap u nq nq (Nat.le_refl _) (by omega)
      have hnq1 : 1 ≤ nq := by omega
      have HN := Aside0.mk (show nq = a.length + 1 - b.length ∧ 1 ≤ nq ∧ b.length ≤ a.length ∧ vs.length = b.length ∧ xs.length = a.length + 1 from ⟨hnq, hnq1, hla, hlv, hxl⟩)
      have HQ := Aside0.mk (Kd.R_reok (ok := fun k_ => k_ = wr.heap.size) rfl (make_cap_R wr w.heap.size nq nq (Nat.le_refl _) (by omega) (below_size HB.out)) (fun k hk => by injection hk with hk; exact hk.symm))
      have hvpos : 0 < val vs := by
        rw [HP.out.valv]
        exact Nat.mul_pos HP.out.pos (Nat.two_pow_pos _)
      have HVP := Aside0.mk hvpos
      have HVL := Aside0.mk (show val vs < 18446744073709551616 ^ b.length by have := val_lt vs HP.out.limv; rw [hlv] at this; exact this)
      have HBIG := Aside0.mk (show val xs < 18446744073709551616 ^ nq * val vs by rw [HV.out, HP.out.valu, HP.out.valv, hnq]; exact HP.out.big)
      clear hla hlv hmb hnq hnq1 hxl hvpos
      go_wp2
      obtain ⟨gq, hgq⟩ : ∃ g : Nat, wr.heap.size = g := ⟨_, rfl⟩
      rw [hgq] at HQ HGU
      rw [hgq]
      simp only [hm1, hm2]
      have HGB := Aside0.mk (show w.heap.size ≤ gq from hgq ▸ below_size HB.out)
      have HNE1 := Aside0.mk (show gq ≠ gu by have := HGU.out; omega)
      have HNE2 := Aside0.mk (show gv ≠ gu by have := HGU.out; have := HGV.out; omega)
      have HNE3 := Aside0.mk (show gv ≠ gq by have := HGU.out; have := HGV.out; omega)
      go_loopg [16] nq (fun gk v16 w2 => ∃ (u2 qs : List Int) (i : Int), v16 = .int .i64 i ∧ Aside0 (i + 1 = gk ∧ gk ≤ nq ∧ u2.length = xs.length ∧ qs.length = nq) ∧ Aside0 (Lim u2) ∧ Aside0 (Lim qs) ∧ Aside0 (val u2 + 18446744073709551616 ^ gk * (val (qs.drop gk) * val vs) = val xs ∧ val u2 < 18446744073709551616 ^ gk * val vs) ∧ Aside0 (Kd.R (Kd.int .u64) 46 w2 w.heap.size (fun k_ => (k_ = gu)) (.slice (some ⟨gu, 0, none⟩) xs.length cu) u2) ∧ Aside0 (Kd.R (Kd.int .u64) 46 w2 w.heap.size (fun k_ => (k_ = gq)) (.slice (some ⟨gq, 0, none⟩) nq nq) qs) ∧ Aside0 (Kd.R (Kd.int .u64) 46 w2 w.heap.size (fun k_ => (k_ = gv)) (.slice (some ⟨gv, 0, none⟩) vs.length cv) vs) ∧ Aside0 (Below w.heap.size w w2))
      case atStart => exact ⟨xs, List.replicate nq 0, (nq : Int) - 1, rfl, ⟨by have := HN.out; refine ⟨by omega, Nat.le_refl _, rfl, by simp⟩⟩, HX, ⟨zrow_lim nq⟩, ⟨by rw [List.drop_eq_nil_of_le (by simp)]; simp [val], HBIG.out⟩, ⟨(by (with_reducible repeat (first | apply Kd.R_alloc | apply Kd.R_drewN | apply Kd.R_drew)); exact HU2.out)⟩, ⟨by first | exact HQ.out | exact (by (with_reducible repeat (first | apply Kd.R_alloc | apply Kd.R_drewN | apply Kd.R_drew)); exact HQ.out)⟩, ⟨(by (with_reducible repeat (first | apply Kd.R_alloc | apply Kd.R_drewN | apply Kd.R_drew)); exact Hvv.out)⟩, ⟨(by repeat (first | (with_reducible first | exact HB.out | apply below_alloc | apply pw_below_drewN | apply below_drew1) | exact HB.out))⟩⟩
      case round =>
        clear HU2 HQ Hvv HB
        obtain ⟨u2, qs, i, rfl, HJ, HX2, HXQ, HINV, HU, HQ, Hvv, HB⟩ := hrel
        cases gk with
        | zero =>
          have hi : i = -1 := by have := HJ.out; omega
          have hd : decide (0 ≤ i) = false := decide_eq_false (by omega)
          have hulen : u2.length = xs.length := HJ.out.2.2.1
          have hqlen : qs.length = nq := HJ.out.2.2.2
          have hv := HINV.out
          rw [List.drop_zero, Nat.pow_zero, Nat.one_mul, Nat.one_mul, HV.out, HP.out.valu, HP.out.valv] at hv
          obtain ⟨hqv, hrv⟩ := div_end (val l0) (val l1) (val qs) (val u2) un HP.out.pos hv.1 hv.2
          have hsh := Shr_ge u2 HX2.out (by have := HN.out; have := HM.out; omega) un (by have := HP.out.hn.2; omega) (2 * u2.length + 4) (Nat.le_refl _)
          have htq := trim_eq qs.length qs rfl HXQ.out (by have := HN.out; have := HM.out; omega) 0
          rw [hrv, ← HP.out.hn.1] at hsh
          rw [hqv] at htq
          have HTQ := Aside0.mk htq
          have HQ2 := Aside0.mk (show Kd.R (Kd.int .u64) 46 wr w.heap.size (fun k_ => (k_ = gq)) (.slice (some ⟨gq, 0, none⟩) qs.length nq) qs by rw [hqlen]; exact HQ.out)
          have hsc := nat_Shr.calls (2 * u2.length + 4) (some ⟨gu, 0, none⟩) cu u2 n _ 0 wr (Kd.R_reads' HU.out).2.2 (by rw [hulen]; exact (Kd.R_reads' HU.out).2.1) hsh
          rw [hulen] at hsc
          have HSC := Aside0.mk hsc
          clear hv hqv hrv hsh htq hsc HQ hi
          go_wp2_with (first | ((with_reducible refine gate_callee (f := 28) rfl ?_); refine goesL_ (some 123) rfl rfl Try.func28 (by kernel_rfl) rfl #[.slice (some ⟨gu, 0, none⟩) xs.length cu, .int .i64 n] rfl (by (try simp only [List.map_toArray, List.map_cons, List.map_nil]); first | done | rfl) ?_; (with_reducible refine HSC.out.mono ?_); rintro e w5 ⟨vr, rfl, ho0, hb⟩; refine ⟨_, rfl, ?_⟩; have n0_ := Aside0.mk (Kd.V_lower (Kd.V_mono (ok' := fun k_ => (w.heap.size ≤ k_)) ho0 (fun k_ hk_ => Nat.le_trans (below_size (by repeat (first | (with_reducible first | exact HB.out | apply below_alloc | apply pw_below_drewN | apply below_drew1) | exact HB.out))) hk_)) (below_size (by repeat (first | (with_reducible first | exact HB.out | apply below_alloc | apply pw_below_drewN | apply below_drew1) | exact HB.out)))); have n1_ := Aside0.mk (Kd.R_below HQ2.out hb); have n2_ := Aside0.mk (below_step (by repeat (first | (with_reducible first | exact HB.out | apply below_alloc | apply pw_below_drewN | apply below_drew1) | exact HB.out)) hb); clear HB; have HB := n2_; clear n2_; clear HQ2; have HVR := n0_; have HQ2 := n1_; clear n0_ n1_ hb ho0) | ((with_reducible refine gate_callee (f := 43) rfl ?_); refine goesL_ (some 127) rfl rfl Try.func43 (by kernel_rfl) rfl #[.slice (some ⟨gq, 0, none⟩) nq nq] rfl (by (try simp only [List.map_toArray, List.map_cons, List.map_nil]); first | done | rfl) ?_; have h_ := nat_trim.calls (0 + qs.length + 1) (fun k_ => k_ = gq) (some ⟨gq, 0, none⟩) nq qs _ _ (Kd.R_V HQ2.out) HTQ.out; rw [hqlen] at h_; (with_reducible refine h_.mono ?_); clear h_; rintro e w6 ⟨vq, rfl, ho0, hb⟩; refine ⟨_, rfl, ?_⟩; have n0_ := Aside0.mk (Kd.V_lower (Kd.V_mono (ok' := fun k_ => (w.heap.size ≤ k_)) ho0 (fun k_ hk_ => Or.elim hk_ (fun hs_ => by rw [hs_]; exact HGB.out) (fun hn_ => Nat.le_trans (below_size (by repeat (first | (with_reducible first | exact HB.out | apply below_alloc | apply pw_below_drewN | apply below_drew1) | exact HB.out))) hn_))) (below_size (by repeat (first | (with_reducible first | exact HB.out | apply below_alloc | apply pw_below_drewN | apply below_drew1) | exact HB.out)))); have n1_ := Aside0.mk (Kd.V_below HVR.out hb); have n2_ := Aside0.mk (below_step (by repeat (first | (with_reducible first | exact HB.out | apply below_alloc | apply pw_below_drewN | apply below_drew1) | exact HB.out)) hb); clear HB; have HB := n2_; clear n2_; clear HVR; have HVQ := n0_; have HVR := n1_; clear n0_ n1_ hb ho0))
          go_ret3
          exact ⟨_, _, by first | rfl | (simp [errW_none, errW_some] <;> rfl) | (simp [*, errW_none, errW_some] <;> rfl), HVQ.out, HVR.out, HB.out⟩
        | succ j =>
          obtain ⟨pre, win, post, hsp, hpl, hwl⟩ := split3 u2 j (b.length + 1) (by have := HJ.out; have := HN.out; omega)
          subst hsp
          subst hpl
          obtain rfl : i = (pre.length : Int) := by have := HJ.out; omega
          have hd : decide ((0 : Int) ≤ (pre.length : Int)) = true := decide_eq_true (by omega)
          obtain ⟨hpost, hwlt⟩ := div_win pre win post (val vs) b.length hwl HVL.out HINV.out.2
          have limw : Lim win := fun z hz => HX2.out z (List.mem_append_left _ (List.mem_append_right _ hz))
          have limp : Lim pre := fun z hz => HX2.out z (List.mem_append_left _ (List.mem_append_left _ hz))
          have limq : Lim post := fun z hz => HX2.out z (List.mem_append_right _ hz)
          obtain ⟨K, qd, win', hdig, hwl2, limw2, hqd, hwv⟩ := digit_is win vs limw HP.out.limv (by have := HN.out; omega) (by have := HN.out; have := HM.out; omega) (by have := HN.out; have := HM.out; omega) hwlt
          have hst := div_step pre win post win' qs (val vs) (val xs) limp HVP.out (by have := HJ.out; omega) hwl2 hpost hwv HINV.out.1
          rw [← hqd] at hst
          have hqb : 0 ≤ qd ∧ qd < 18446744073709551616 := by
            have h1 : val win / val vs < 18446744073709551616 := Nat.div_lt_of_lt_mul (by rw [Nat.mul_comm]; exact hwlt)
            rw [hqd]
            generalize val win / val vs = z at h1
            omega
          have HDG := Aside0.mk hdig
          have HST := Aside0.mk hst
          have HL2 := Aside0.mk (show (pre ++ win' ++ post).length = xs.length ∧ (pre ++ win ++ post).length = xs.length ∧ win.length = b.length + 1 ∧ win'.length = win.length by have := HJ.out; simp only [List.length_append] at this ⊢; refine ⟨by omega, by omega, hwl, hwl2⟩)
          have HX3 := Aside0.mk (show Lim (pre ++ win' ++ post) from (limp.app limw2).app limq)
          have HXQ2 := Aside0.mk (row_set HXQ.out pre.length qd hqb)
          clear hst hqd hwv hdig limw limp limq limw2 hwlt hpost hqb hwl hwl2
          obtain ⟨h1n, hh1⟩ : ∃ z : Nat, z = pre.length + vs.length := ⟨_, rfl⟩
          obtain ⟨h2n, hh2⟩ : ∃ z : Nat, z = pre.length + vs.length + 1 := ⟨_, rfl⟩
          have hcut := win_cut gu xs.length cu pre.length h2n (by omega) (by have := HJ.out; have := HN.out; omega) (Kd.R_reads' HU.out).2.1
          have hwn : h2n - pre.length = win.length := by have := HL2.out; have := HN.out; omega
          rw [hwn] at hcut
          have p2 := eq_true (show (0 : Int) ≤ (pre.length : Int) by omega)
          have q2 := eq_true (show (pre.length : Int) < (nq : Int) by have := HJ.out; omega)
          have q3 := eq_true (show pre.length < nq by have := HJ.out; omega)
          have ha1 : wrap64 ((pre.length : Int) + (vs.length : Int)) = (h1n : Int) := by have := HJ.out; have := HN.out; have := HM.out; unfold wrap64; omega
          have ha2 : wrap64 ((h1n : Int) + 1) = (h2n : Int) := by clear ha1; have := HJ.out; have := HN.out; have := HM.out; unfold wrap64; omega
          have ha3 : wrap64 ((pre.length : Int) - 1) = (pre.length : Int) - 1 := by clear ha1 ha2; have := HJ.out; have := HN.out; have := HM.out; unfold wrap64; omega
          clear hwn hh1 hh2
          have HCALL := Aside0.mk (digit_win K pre post cu (fun k_ => k_ = gu) _ win _ cv vs qd win' w _ HB.out (Wn_of HU.out) (Kd.C_kept_own Hvv.out (fun k_ hk_ he_ => HNE2.out (hk_.symm.trans he_))) (Kd.R_reads' Hvv.out).2.1 HDG.out)
          go_wp2_with (first | ((with_reducible refine gate_callee (f := 49) rfl ?_); refine goesL_ (some 118) rfl rfl Try.func49 (by kernel_rfl) rfl #[.slice (some ⟨gu, pre.length, none⟩) win.length (cu - pre.length), .slice (some ⟨gv, 0, none⟩) vs.length cv] rfl (by (try simp only [List.map_toArray, List.map_cons, List.map_nil]); first | done | rfl) ?_; (with_reducible refine HCALL.out.mono ?_); rintro e w3 ⟨rfl, hW, hb, hk⟩; refine ⟨_, rfl, ?_⟩; have n0_ := Aside0.mk (show Kd.R (Kd.int .u64) 46 w3 w.heap.size (fun k_ => (k_ = gu)) (.slice (some ⟨gu, 0, none⟩) xs.length cu) (pre ++ win' ++ post) from by have h_ := Wn_row hW; rw [HL2.out.1] at h_; exact h_); have n1_ := Aside0.mk (Kd.R_kept (by (with_reducible repeat (first | apply Kd.R_alloc | apply Kd.R_drewN | apply Kd.R_drew)); exact HQ.out) hk (fun k_ (hk_ : k_ = gq) (he_ : k_ = gu) => HNE1.out (hk_.symm.trans he_))); have n2_ := Aside0.mk (Kd.R_kept (by (with_reducible repeat (first | apply Kd.R_alloc | apply Kd.R_drewN | apply Kd.R_drew)); exact Hvv.out) hk (fun k_ (hk_ : k_ = gv) (he_ : k_ = gu) => HNE2.out (hk_.symm.trans he_))); have n3_ := Aside0.mk hb; clear HU HQ Hvv HB; have HU := n0_; have HQ := n1_; have Hvv := n2_; have HB := n3_; clear n0_ n1_ n2_ n3_ hW hb hk; obtain ⟨hx2, hf2⟩ := Kd.R_celln (0 : Int) HQ.out ((pre.length : Nat) : Int) (of_eq_true p2) (of_eq_true q2); have HPQ := Kd.R_putg HQ.out ((pre.length : Nat) : Int) qd; rw [Int.toNat_natCast] at hx2 hf2 HPQ) | ((with_reducible refine gate_store (t := 46) (p := 119) rfl ?_); refine store_event (t := 46) (p := 119) (v := ?vo_) (w1 := (w3.setCell ⟨gq, pre.length, none⟩ (.int .u64 qd))) ?hg ?ho ?hn ?hr ?_; (case ho => rfl); (case hg => rfl); (case hn => rfl); (case hr => first | (go_simp; done) | (go_simp; rfl)); intro w23 hw; have hg : w3.grownBy w23 (some gq) := (by rw [hw]; exact HPQ.2); have n0_ : Aside0 (Kd.R (Kd.int .u64) 46 w23 w.heap.size (fun k_ => (k_ = gq)) (.slice (some ⟨gq, 0, none⟩) nq nq) (qs.set pre.length qd)) := ⟨by rw [hw]; exact HPQ.1⟩; have n1_ := Aside0.mk (Kd.R_grown HU.out hg (fun k_ (hk_ : k_ = gu) he_ => HNE1.out (by injection he_ with he_; exact he_.symm.trans hk_))); have n2_ := Aside0.mk (Kd.R_grown Hvv.out hg (fun k_ (hk_ : k_ = gv) he_ => HNE3.out (by injection he_ with he_; exact hk_.symm.trans he_))); have n3_ := Aside0.mk (by rw [hw]; exact below_set HB.out HGB.out : Below w.heap.size w w23); clear HU HQ Hvv HB HPQ hg hw hx2 hf2; have HQ := n0_; have HU := n1_; have Hvv := n2_; have HB := n3_; clear n0_ n1_ n2_ n3_))
          go_roundg pre.length
          case measure => first | exact Nat.lt_succ_self _ | omega
          case rel => exact ⟨pre ++ win' ++ post, qs.set pre.length qd, wrap64 ((pre.length : Int) - 1), (by first | rfl | (simp; done) | (simp [*]; done)), ⟨by have := HJ.out; rw [ha3]; clear ha1 ha2 ha3; refine ⟨by omega, by omega, HL2.out.1, by rw [List.length_set]; exact this.2.2.2⟩⟩, HX3, HXQ2, HST, HU, HQ, Hvv, HB⟩
def nat_DivModS.l0 : Nat → List Int → List Int → List Int → Int → Int → Option (List Int × List Int × Int)
  | 0, _, _, _, _, _ => none
  | k + 1, x0, x1, x7, x8, x9 => if x9 ≥ 0 then (if 0 ≤ x9 then (if x9 < (x0.length : Int) then (if 0 < (x1.length : Int) then ((bits_Div64.f k x8 (rd x0 x9) (rd x1 0)).bind fun bt211 => (if x9 < (x7.length : Int) then (nat_DivModS.l0 k x0 x1 (x7.set (x9 : Int).toNat bt211.1) bt211.2 (wrap64 (x9 - 1))) else (none))) else (none)) else (none)) else (none)) else ((nat_trim.f k x7).bind fun t214 => ((nat_Of.f k x8).bind fun t217 => (some (t214, t217, 0))))
def nat_DivModS.f (k : Nat) (l0 : List Int) (l1 : List Int) : Option (List Int × List Int × Int) := (nat_trim.f k l0).bind fun t200 => ((nat_trim.f k l1).bind fun t203 => (if (t203.length : Int) = 0 then (some (([] : List Int), ([] : List Int), 11)) else (if (t203.length : Int) = 1 then (if 0 ≤ (t200.length : Int) then (if ((t200.length : Int) : Int).toNat ≤ 35184372088832 then (nat_DivModS.l0 k t200 t203 (List.replicate ((t200.length : Int) : Int).toNat 0) 0 (wrap64 ((t200.length : Int) - 1))) else (none)) else (none)) else ((nat_Cmp.f k t200 t203).bind fun t220 => (if t220 < 0 then ((nat_Norm.f k t200).bind fun t221 => (some (([] : List Int), t221, 0))) else (if 0 ≤ (wrap64 ((t203.length : Int) - 1)) then (if (wrap64 ((t203.length : Int) - 1)) < (t203.length : Int) then (none) else (none)) else (none)))))))
def nat_DivModS.T10 : Bool × List (List Nat × List Nat) := (true, [([], []), ([], []), ([], []), ([], []), ([], []), ([3, 4], [3, 4]), ([5], [5]), ([], []), ([7], [7]), ([8], [8]), ([2, 6, 9], [2, 6, 9]), ([10], [10]), ([11], [11]), ([11], [11]), ([0, 1, 0, 1, 2, 3, 4, 5, 6, 7, 8, 9, 10, 11, 12], [0, 1]), ([14, 12, 10, 0, 1, 2, 3, 4, 5, 6, 7, 8, 9, 10, 11, 12], [12, 14]), ([13, 15, 0, 1, 2, 3, 4, 5, 6, 7, 8, 9, 10, 11, 12, 13, 14, 15], [2, 13])])
def nat_DivModS.B10 : List Nat := [0, 0, 0, 0, 0, 24, 56, 0, 128, 384, 1020, 2044, 4092, 4092, 8191, 24575, 65535]
theorem nat_DivModS.tab10 : rtab .any (opsOf Try.f25 10) = nat_DivModS.T10 := by kernel_rfl
theorem nat_DivModS.bits10 : waitsOk nat_DivModS.T10.2 nat_DivModS.B10 = true := by kernel_rfl
set_option maxHeartbeats 8000000 in
set_option maxRecDepth 100000 in
theorem nat_DivModS.calls (k : Nat) (P0_ : Nat → Prop) (A0 : Option Addr) (c0 : Nat) (l0 : List Int) (P1_ : Nat → Prop) (A1 : Option Addr) (c1 : Nat) (l1 : List Int) (r1 : List Int) (r2 : List Int) (r3 : Int) (w : World) (hs0 : Kd.V (Kd.int .u64) 46 w w.heap.size (fun k_ => P0_ k_) (.slice A0 l0.length c0) l0) (hs1 : Kd.V (Kd.int .u64) 46 w w.heap.size (fun k_ => P1_ k_) (.slice A1 l1.length c1) l1) (h : nat_DivModS.f k l0 l1 = some (r1, r2, r3)) :
    Calls Try.prog 25 #[.slice A0 l0.length c0, .slice A1 l1.length c1] w fun e w' => ∃ v0_ v1_ : Value, e = .returned (.tuple #[v0_, v1_, .int .i64 r3]) ∧ Kd.V (Kd.int .u64) 46 w' w.heap.size (fun k_ => (w.heap.size ≤ k_) ∧ some k_ ≠ (v1_ : Value).ownBlock) v0_ r1 ∧ Kd.R (Kd.int .u64) 46 w' w.heap.size (fun k_ => (w.heap.size ≤ k_)) v1_ r2 ∧ Below w.heap.size w w' := by
  have HO0 := Aside0.mk (show Kd.V (Kd.int .u64) 46 w w.heap.size (fun k_ => ((P0_ k_ ∨ P1_ k_) ∨ w.heap.size ≤ k_)) (.slice A0 l0.length c0) l0 from Kd.V_mono hs0 (fun k_ hk => .inl (.inl hk)))
  have HO1 := Aside0.mk (show Kd.V (Kd.int .u64) 46 w w.heap.size (fun k_ => ((P0_ k_ ∨ P1_ k_) ∨ w.heap.size ≤ k_)) (.slice A1 l1.length c1) l1 from Kd.V_mono hs1 (fun k_ hk => .inl (.inr hk)))
  have HB := Aside0.mk (Below.refl w.heap.size w)
  have H : ((nat_trim.f k l0).bind fun t200 => ((nat_trim.f k l1).bind fun t203 => (if (t203.length : Int) = 0 then (some (([] : List Int), ([] : List Int), 11)) else (if (t203.length : Int) = 1 then (if 0 ≤ (t200.length : Int) then (if ((t200.length : Int) : Int).toNat ≤ 35184372088832 then (nat_DivModS.l0 k t200 t203 (List.replicate ((t200.length : Int) : Int).toNat 0) 0 (wrap64 ((t200.length : Int) - 1))) else (none)) else (none)) else ((nat_Cmp.f k t200 t203).bind fun t220 => (if t220 < 0 then ((nat_Norm.f k t200).bind fun t221 => (some (([] : List Int), t221, 0))) else (if 0 ≤ (wrap64 ((t203.length : Int) - 1)) then (if (wrap64 ((t203.length : Int) - 1)) < (t203.length : Int) then (none) else (none)) else (none)))))))) = some (r1, r2, r3) := h
  clear h
  replace H := Option.bind_eq_some_iff.mp H
  obtain ⟨t200, A30, H⟩ := H
  replace H : ((nat_trim.f k l1).bind fun t203 => (if (t203.length : Int) = 0 then (some (([] : List Int), ([] : List Int), 11)) else (if (t203.length : Int) = 1 then (if 0 ≤ (t200.length : Int) then (if ((t200.length : Int) : Int).toNat ≤ 35184372088832 then (nat_DivModS.l0 k t200 t203 (List.replicate ((t200.length : Int) : Int).toNat 0) 0 (wrap64 ((t200.length : Int) - 1))) else (none)) else (none)) else ((nat_Cmp.f k t200 t203).bind fun t220 => (if t220 < 0 then ((nat_Norm.f k t200).bind fun t221 => (some (([] : List Int), t221, 0))) else (if 0 ≤ (wrap64 ((t203.length : Int) - 1)) then (if (wrap64 ((t203.length : Int) - 1)) < (t203.length : Int) then (none) else (none)) else (none))))))) = some (r1, r2, r3) := H
  have A3 := Aside0.mk A30
  clear A30
  replace H := Option.bind_eq_some_iff.mp H
  obtain ⟨t203, A40, H⟩ := H
  replace H : (if (t203.length : Int) = 0 then (some (([] : List Int), ([] : List Int), 11)) else (if (t203.length : Int) = 1 then (if 0 ≤ (t200.length : Int) then (if ((t200.length : Int) : Int).toNat ≤ 35184372088832 then (nat_DivModS.l0 k t200 t203 (List.replicate ((t200.length : Int) : Int).toNat 0) 0 (wrap64 ((t200.length : Int) - 1))) else (none)) else (none)) else ((nat_Cmp.f k t200 t203).bind fun t220 => (if t220 < 0 then ((nat_Norm.f k t200).bind fun t221 => (some (([] : List Int), t221, 0))) else (if 0 ≤ (wrap64 ((t203.length : Int) - 1)) then (if (wrap64 ((t203.length : Int) - 1)) < (t203.length : Int) then (none) else (none)) else (none)))))) = some (r1, r2, r3) := H
  have A4 := Aside0.mk A40
  clear A40
  by_cases c5 : (t203.length : Int) = 0
  · rw [if_pos c5] at H
    have c5b0 : ((t203.length : Int) == 0) = true := beq_iff_eq.mpr c5
    have c5b1 : ((t203.length : Int) != 0) = false := bne_eq_false_iff_eq.mpr c5
    clear c5
    simp only [Option.some.injEq, Prod.mk.injEq] at H
    obtain ⟨rfl, rfl, rfl⟩ := H
    go_enter Try.func25, Try.ntmps25
    go_wp2_with (first | ((with_reducible refine gate_callee (f := 43) rfl ?_); refine goesL_ (some 20) rfl rfl Try.func43 (by kernel_rfl) rfl #[.slice A0 l0.length c0] rfl (by (try simp only [List.map_toArray, List.map_cons, List.map_nil]); first | done | rfl | (simp only [List.length_drop, List.length_take]; rfl)) ?_; (with_reducible refine (nat_trim.calls k (fun k_ => ((P0_ k_ ∨ P1_ k_) ∨ w.heap.size ≤ k_)) _ _ l0 t200 _ ?side1 A3.out).mono ?_); (case side1 => exact HO0.out); rintro e w6 ⟨v201, rfl, ho0, hb⟩; refine ⟨_, rfl, ?_⟩; have n0_ := Aside0.mk (Kd.V_below (by (with_reducible repeat (first | apply Kd.V_alloc | apply Kd.V_drewN | apply Kd.V_drew)); exact HO0.out) hb); have n1_ := Aside0.mk (Kd.V_below (by (with_reducible repeat (first | apply Kd.V_alloc | apply Kd.V_drewN | apply Kd.V_drew)); exact HO1.out) hb); have n2_ := Aside0.mk (Kd.V_lower (Kd.V_mono (ok' := fun k_ => ((P0_ k_ ∨ P1_ k_) ∨ w.heap.size ≤ k_)) ho0 (fun k_ hk_ => Or.elim hk_ (fun hs_ => hs_) (fun hn_ => (.inr (Nat.le_trans (below_size (by repeat (first | (with_reducible first | exact HB.out | apply below_alloc | apply pw_below_drewN | apply below_drew1) | exact HB.out))) hn_))))) (below_size (by repeat (first | (with_reducible first | exact HB.out | apply below_alloc | apply pw_below_drewN | apply below_drew1) | exact HB.out)))); have n3_ := Aside0.mk (below_step (by repeat (first | (with_reducible first | exact HB.out | apply below_alloc | apply pw_below_drewN | apply below_drew1) | exact HB.out)) hb); clear HO0; clear HO1; clear HB; have HO0 := n0_; have HO1 := n1_; have HO202 := n2_; have HB := n3_; clear n0_ n1_ n2_ n3_; (try clear hb); (try clear hb2); (try clear hk); (try clear hi); (try clear ho0)) | ((with_reducible refine gate_callee (f := 43) rfl ?_); refine goesL_ (some 22) rfl rfl Try.func43 (by kernel_rfl) rfl #[.slice A1 l1.length c1] rfl (by (try simp only [List.map_toArray, List.map_cons, List.map_nil]); first | done | rfl | (simp only [List.length_drop, List.length_take]; rfl)) ?_; (with_reducible refine (nat_trim.calls k (fun k_ => ((P0_ k_ ∨ P1_ k_) ∨ w.heap.size ≤ k_)) _ _ l1 t203 _ ?side1 A4.out).mono ?_); (case side1 => exact HO1.out); rintro e w7 ⟨v204, rfl, ho0, hb⟩; refine ⟨_, rfl, ?_⟩; have n0_ := Aside0.mk (Kd.V_below (by (with_reducible repeat (first | apply Kd.V_alloc | apply Kd.V_drewN | apply Kd.V_drew)); exact HO0.out) hb); have n1_ := Aside0.mk (Kd.V_below (by (with_reducible repeat (first | apply Kd.V_alloc | apply Kd.V_drewN | apply Kd.V_drew)); exact HO1.out) hb); have n2_ := Aside0.mk (Kd.V_below (by (with_reducible repeat (first | apply Kd.V_alloc | apply Kd.V_drewN | apply Kd.V_drew)); exact HO202.out) hb); have n3_ := Aside0.mk (Kd.V_lower (Kd.V_mono (ok' := fun k_ => ((P0_ k_ ∨ P1_ k_) ∨ w.heap.size ≤ k_)) ho0 (fun k_ hk_ => Or.elim hk_ (fun hs_ => hs_) (fun hn_ => (.inr (Nat.le_trans (below_size (by repeat (first | (with_reducible first | exact HB.out | apply below_alloc | apply pw_below_drewN | apply below_drew1) | exact HB.out))) hn_))))) (below_size (by repeat (first | (with_reducible first | exact HB.out | apply below_alloc | apply pw_below_drewN | apply below_drew1) | exact HB.out)))); have n4_ := Aside0.mk (below_step (by repeat (first | (with_reducible first | exact HB.out | apply below_alloc | apply pw_below_drewN | apply below_drew1) | exact HB.out)) hb); clear HO0; clear HO1; clear HO202; clear HB; have HO0 := n0_; have HO1 := n1_; have HO202 := n2_; have HO205 := n3_; have HB := n4_; clear n0_ n1_ n2_ n3_ n4_; (try clear hb); (try clear hb2); (try clear hk); (try clear hi); (try clear ho0); obtain ⟨Ao8, co8, eo8⟩ := Kd.V_slice HO205.out; subst eo8))
    go_ret3
    exact ⟨_, _, by first | rfl | (simp [errW_none, errW_some] <;> rfl) | (simp [*, errW_none, errW_some] <;> rfl), Kd.V_nil _ _ _ _ _, by first | exact Kd.R_nil _ _ _ _ _ | exact Kd.N_nil _ _ _ _ _ | exact Kd.V_nil _ _ _ _ _ | exact Kd.Q_nil _ _ _ _ _ | exact Kd.S_nil _ _ _ _ _, by repeat (first | (with_reducible first | exact HB.out | apply below_alloc | apply pw_below_drewN | apply below_drew1) | exact HB.out)⟩
  · rw [if_neg c5] at H
    have c5b0 : ((t203.length : Int) == 0) = false := beq_eq_false_iff_ne.mpr c5
    have c5b1 : ((t203.length : Int) != 0) = true := bne_iff_ne.mpr c5
    have c5b2 : ¬ (t203 = []) := fun h_ => c5 (by rw [h_]; rfl)
    by_cases c9 : (t203.length : Int) = 1
    · rw [if_pos c9] at H
      have c9b0 : ((t203.length : Int) == 1) = true := beq_iff_eq.mpr c9
      have c9b1 : ((t203.length : Int) != 1) = false := bne_eq_false_iff_eq.mpr c9
      clear c9
      by_cases c10 : 0 ≤ (t200.length : Int)
      · rw [if_pos c10] at H
        have c10b0 := eq_true c10
        have c10b1 : decide (0 ≤ (t200.length : Int)) = true := decide_eq_true c10
        clear c10
        by_cases c11 : ((t200.length : Int) : Int).toNat ≤ 35184372088832
        · rw [if_pos c11] at H
          have c11b0 := eq_true c11
          have c11b1 : decide (((t200.length : Int) : Int).toNat ≤ 35184372088832) = true := decide_eq_true c11
          clear c11
          obtain ⟨y206, hy206⟩ : ∃ y_ : List Int, y_ = (List.replicate ((t200.length : Int) : Int).toNat 0) := ⟨_, rfl⟩
          replace H : (nat_DivModS.l0 k t200 t203 y206 0 (wrap64 ((t200.length : Int) - 1))) = some (r1, r2, r3) := by first | (rw [hy206]; with_reducible exact H) | (have H2_ := (Option.bind_some _ _).symm.trans H; rw [hy206]; with_reducible exact H2_) | (have H2_ := (Option.bind_some _ _).symm.trans H; with_reducible exact H2_) | with_reducible exact H | (rw [hy206]; exact H) | exact H
          have Ny206 := Aside0.mk hy206
          clear hy206
          have H' := Aside0.mk H
          clear H
          go_enter Try.func25, Try.ntmps25
          go_wp2_with (first | ((with_reducible refine gate_callee (f := 43) rfl ?_); refine goesL_ (some 20) rfl rfl Try.func43 (by kernel_rfl) rfl #[.slice A0 l0.length c0] rfl (by (try simp only [List.map_toArray, List.map_cons, List.map_nil]); first | done | rfl | (simp only [List.length_drop, List.length_take]; rfl)) ?_; (with_reducible refine (nat_trim.calls k (fun k_ => ((P0_ k_ ∨ P1_ k_) ∨ w.heap.size ≤ k_)) _ _ l0 t200 _ ?side1 A3.out).mono ?_); (case side1 => exact HO0.out); rintro e w12 ⟨v201, rfl, ho0, hb⟩; refine ⟨_, rfl, ?_⟩; have n0_ := Aside0.mk (Kd.V_below (by (with_reducible repeat (first | apply Kd.V_alloc | apply Kd.V_drewN | apply Kd.V_drew)); exact HO0.out) hb); have n1_ := Aside0.mk (Kd.V_below (by (with_reducible repeat (first | apply Kd.V_alloc | apply Kd.V_drewN | apply Kd.V_drew)); exact HO1.out) hb); have n2_ := Aside0.mk (Kd.V_lower (Kd.V_mono (ok' := fun k_ => ((P0_ k_ ∨ P1_ k_) ∨ w.heap.size ≤ k_)) ho0 (fun k_ hk_ => Or.elim hk_ (fun hs_ => hs_) (fun hn_ => (.inr (Nat.le_trans (below_size (by repeat (first | (with_reducible first | exact HB.out | apply below_alloc | apply pw_below_drewN | apply below_drew1) | exact HB.out))) hn_))))) (below_size (by repeat (first | (with_reducible first | exact HB.out | apply below_alloc | apply pw_below_drewN | apply below_drew1) | exact HB.out)))); have n3_ := Aside0.mk (below_step (by repeat (first | (with_reducible first | exact HB.out | apply below_alloc | apply pw_below_drewN | apply below_drew1) | exact HB.out)) hb); clear HO0; clear HO1; clear HB; have HO0 := n0_; have HO1 := n1_; have HO202 := n2_; have HB := n3_; clear n0_ n1_ n2_ n3_; (try clear hb); (try clear hb2); (try clear hk); (try clear hi); (try clear ho0)) | ((with_reducible refine gate_callee (f := 43) rfl ?_); refine goesL_ (some 22) rfl rfl Try.func43 (by kernel_rfl) rfl #[.slice A1 l1.length c1] rfl (by (try simp only [List.map_toArray, List.map_cons, List.map_nil]); first | done | rfl | (simp only [List.length_drop, List.length_take]; rfl)) ?_; (with_reducible refine (nat_trim.calls k (fun k_ => ((P0_ k_ ∨ P1_ k_) ∨ w.heap.size ≤ k_)) _ _ l1 t203 _ ?side1 A4.out).mono ?_); (case side1 => exact HO1.out); rintro e w13 ⟨v204, rfl, ho0, hb⟩; refine ⟨_, rfl, ?_⟩; have n0_ := Aside0.mk (Kd.V_below (by (with_reducible repeat (first | apply Kd.V_alloc | apply Kd.V_drewN | apply Kd.V_drew)); exact HO0.out) hb); have n1_ := Aside0.mk (Kd.V_below (by (with_reducible repeat (first | apply Kd.V_alloc | apply Kd.V_drewN | apply Kd.V_drew)); exact HO1.out) hb); have n2_ := Aside0.mk (Kd.V_below (by (with_reducible repeat (first | apply Kd.V_alloc | apply Kd.V_drewN | apply Kd.V_drew)); exact HO202.out) hb); have n3_ := Aside0.mk (Kd.V_lower (Kd.V_mono (ok' := fun k_ => ((P0_ k_ ∨ P1_ k_) ∨ w.heap.size ≤ k_)) ho0 (fun k_ hk_ => Or.elim hk_ (fun hs_ => hs_) (fun hn_ => (.inr (Nat.le_trans (below_size (by repeat (first | (with_reducible first | exact HB.out | apply below_alloc | apply pw_below_drewN | apply below_drew1) | exact HB.out))) hn_))))) (below_size (by repeat (first | (with_reducible first | exact HB.out | apply below_alloc | apply pw_below_drewN | apply below_drew1) | exact HB.out)))); have n4_ := Aside0.mk (below_step (by repeat (first | (with_reducible first | exact HB.out | apply below_alloc | apply pw_below_drewN | apply below_drew1) | exact HB.out)) hb); clear HO0; clear HO1; clear HO202; clear HB; have HO0 := n0_; have HO1 := n1_; have HO202 := n2_; have HO205 := n3_; have HB := n4_; clear n0_ n1_ n2_ n3_ n4_; (try clear hb); (try clear hb2); (try clear hk); (try clear hi); (try clear ho0); obtain ⟨Ao14, co14, eo14⟩ := Kd.V_slice HO205.out; subst eo14; obtain ⟨Ao15, co15, eo15⟩ := Kd.V_slice HO202.out; subst eo15) | ((with_reducible refine gate_dst (N := 31) rfl ?_); refine Kd.R_make (Kd.int .u64) _ 46 rfl (N := 31) rfl 22 _ _ rfl (t200.length : Int) rfl rfl Try.underlying22 (.int .u64 0) 8 info46 rfl (by decide) (by omega) 0 (ok := fun _ => True) (okp := fun _ => True) rfl (fun _ hk => hk) trivial (of_decide_eq_true (by first | (with_reducible assumption) | assumption)) (Nat.le_trans (Nat.mul_le_mul_right _ (of_decide_eq_true (by first | (with_reducible assumption) | assumption) : (t200.length : Int).toNat ≤ 35184372088832)) (by omega)) (Below.refl _ _) (Nat.le_refl _) ?_; intro v207 w16 ho17 hb hg_ hnew_; clear hg_ hnew_; (first | rw [← Ny206.out] at ho17 | (simp only [Int.reduceToNat] at ho17; rw [← Ny206.out] at ho17)); have n0_ := Aside0.mk (Kd.V_elder' (by (with_reducible repeat (first | apply Kd.V_alloc | apply Kd.V_drewN | apply Kd.V_drew)); exact HO0.out) (Kd.R_base ho17) hb); have n1_ := Aside0.mk (Kd.V_elder' (by (with_reducible repeat (first | apply Kd.V_alloc | apply Kd.V_drewN | apply Kd.V_drew)); exact HO1.out) (Kd.R_base ho17) hb); have n2_ := Aside0.mk (Kd.V_elder' (by (with_reducible repeat (first | apply Kd.V_alloc | apply Kd.V_drewN | apply Kd.V_drew)); exact HO202.out) (Kd.R_base ho17) hb); have n3_ := Aside0.mk (Kd.V_elder' (by (with_reducible repeat (first | apply Kd.V_alloc | apply Kd.V_drewN | apply Kd.V_drew)); exact HO205.out) (Kd.R_base ho17) hb); have n4_ := Aside0.mk (Kd.R_lower (Kd.R_newM (M := fun k_ => (w.heap.size ≤ k_)) ho17 (below_size (by repeat (first | (with_reducible first | exact HB.out | apply below_alloc | apply pw_below_drewN | apply below_drew1) | exact HB.out))) (fun k_ h_ => h_)) (below_size (by repeat (first | (with_reducible first | exact HB.out | apply below_alloc | apply pw_below_drewN | apply below_drew1) | exact HB.out)))); have n5_ := Aside0.mk (below_step (by repeat (first | (with_reducible first | exact HB.out | apply below_alloc | apply pw_below_drewN | apply below_drew1) | exact HB.out)) hb); clear HO0; clear HO1; clear HO202; clear HO205; clear HB; have HO0 := n0_; have HO1 := n1_; have HO202 := n2_; have HO205 := n3_; have HO208 := n4_; have HB := n5_; clear n0_ n1_ n2_ n3_ n4_ n5_; clear hb ho17))
          go_loopg [8, 9] k (fun kq v8 v9 w' => ∃ (x7_1 : List Int) (x8_1 : Int) (x9_1 : Int), v8 = .int .u64 x8_1 ∧ v9 = .int .i64 x9_1 ∧ Aside0 (nat_DivModS.l0 kq t200 t203 x7_1 x8_1 x9_1 = some (r1, r2, r3)) ∧ Aside0 (kq ≤ k) ∧ Aside0 (Kd.V (Kd.int .u64) 46 w' w.heap.size (fun k_ => ((P0_ k_ ∨ P1_ k_) ∨ w.heap.size ≤ k_) ∧ some k_ ≠ (v207 : Value).ownBlock) (.slice Ao15 t200.length co15) t200) ∧ Aside0 (Kd.V (Kd.int .u64) 46 w' w.heap.size (fun k_ => ((P0_ k_ ∨ P1_ k_) ∨ w.heap.size ≤ k_) ∧ some k_ ≠ (v207 : Value).ownBlock) (.slice Ao14 t203.length co14) t203) ∧ Aside0 (Kd.R (Kd.int .u64) 46 w' w.heap.size (fun k_ => (w.heap.size ≤ k_)) v207 x7_1) ∧ Aside0 (Below w.heap.size w w'))
          case atStart => exact ⟨(y206), (0), (wrap64 ((t200.length : Int) - 1)), (by first | rfl | (simp; done) | (simp [*]; done)), (by first | rfl | (simp; done) | (simp [*]; done)), H', ⟨Nat.le_refl _⟩, ⟨by (with_reducible repeat (first | apply Kd.V_alloc | apply Kd.V_drewN | apply Kd.V_drew)); exact HO202.out⟩, ⟨by (with_reducible repeat (first | apply Kd.V_alloc | apply Kd.V_drewN | apply Kd.V_drew)); exact HO205.out⟩, ⟨by (with_reducible repeat (first | apply Kd.R_alloc | apply Kd.R_drewN | apply Kd.R_drew)); exact Kd.R_mono HO208.out (fun _ hk => hk.1)⟩, ⟨by repeat (first | (with_reducible first | exact HB.out | apply below_alloc | apply pw_below_drewN | apply below_drew1) | exact HB.out)⟩⟩
          case round =>
            clear H'
            try clear c1
            try clear c2
            try clear p2
            try clear c4
            try clear c5
            try clear c5b0
            try clear c5b1
            try clear c5b2
            try clear p6
            try clear c9
            try clear c9b0
            try clear c9b1
            try clear c10
            try clear c10b0
            try clear c10b1
            try clear c11
            try clear c11b0
            try clear c11b1
            obtain ⟨x7_1, x8_1, x9_1, rfl, rfl, HA, HK1, HO_0, HO_1, HO_7, HB⟩ := hrel
            cases gk with
            | zero => exact absurd HA.out (by simp [nat_DivModS.l0])
            | succ k1 =>
              have H := HA.out
              clear HA
              simp only [nat_DivModS.l0] at H
              by_cases c18 : x9_1 ≥ 0
              · rw [if_pos c18] at H
                have c18b0 : decide (0 ≤ x9_1) = true := decide_eq_true c18
                clear c18
                by_cases c19 : 0 ≤ x9_1
                · rw [if_pos c19] at H
                  have c19b0 : decide (0 ≤ x9_1) = true := decide_eq_true c19
                  clear c19
                  by_cases c20 : x9_1 < (t200.length : Int)
                  · rw [if_pos c20] at H
                    have c20b0 : decide (x9_1 < (t200.length : Int)) = true := decide_eq_true c20
                    clear c20
                    by_cases c21 : 0 < (t203.length : Int)
                    · rw [if_pos c21] at H
                      have c21b0 : decide (0 < (t203.length : Int)) = true := decide_eq_true c21
                      have c21b1 : decide (0 < t203.length) = true := decide_eq_true (by omega)
                      clear c21
                      replace H := Option.bind_eq_some_iff.mp H
                      obtain ⟨⟨t211, t212⟩, A220, H⟩ := H
                      replace H : (if x9_1 < (x7_1.length : Int) then (nat_DivModS.l0 k1 t200 t203 (x7_1.set (x9_1 : Int).toNat t211) t212 (wrap64 (x9_1 - 1))) else (none)) = some (r1, r2, r3) := H
                      have A22 := Aside0.mk A220
                      clear A220
                      by_cases c23 : x9_1 < (x7_1.length : Int)
                      · rw [if_pos c23] at H
                        have c23b0 : decide (x9_1 < (x7_1.length : Int)) = true := decide_eq_true c23
                        clear c23
                        obtain ⟨y213, hy213⟩ : ∃ y_ : List Int, y_ = (x7_1.set (x9_1 : Int).toNat t211) := ⟨_, rfl⟩
                        replace H : (nat_DivModS.l0 k1 t200 t203 y213 t212 (wrap64 (x9_1 - 1))) = some (r1, r2, r3) := by first | (rw [hy213]; with_reducible exact H) | (have H2_ := (Option.bind_some _ _).symm.trans H; rw [hy213]; with_reducible exact H2_) | (have H2_ := (Option.bind_some _ _).symm.trans H; with_reducible exact H2_) | with_reducible exact H | (rw [hy213]; exact H) | exact H
                        have Ny213 := Aside0.mk hy213
                        clear hy213
                        have H' := Aside0.mk H
                        clear H
                        try go_wp2
                        have n0_ := Aside0.mk (Kd.V_drew HO_0.out)
                        have n1_ := Aside0.mk (Kd.V_drew HO_1.out)
                        have n2_ := Aside0.mk (Kd.R_drew HO_7.out)
                        have n3_ := Aside0.mk (below_drew1 HB.out)
                        clear HO_0
                        clear HO_1
                        clear HO_7
                        clear HB
                        have HO_0 := n0_
                        have HO_1 := n1_
                        have HO_7 := n2_
                        have HB := n3_
                        clear n0_ n1_ n2_ n3_
                        have p209 : 0 ≤ (x9_1 : Int) := of_decide_eq_true (by first | (with_reducible assumption) | assumption)
                        have q209 : x9_1 < (t200.length : Int) := of_decide_eq_true (by first | (with_reducible assumption) | assumption)
                        obtain ⟨ad209, e209, hx209_0⟩ := Kd.at_int (Kd.V_reads' HO_0.out).2.2 x9_1 p209 q209
                        cases e209
                        replace p209 := eq_true p209
                        replace q209 := eq_true q209
                        have p210 : 0 ≤ (0 : Int) := (by omega)
                        have q210 : 0 < (t203.length : Int) := of_decide_eq_true (by first | (with_reducible assumption) | assumption)
                        obtain ⟨ad210, e210, hx210_0⟩ := Kd.at_int (Kd.V_reads' HO_1.out).2.2 0 p210 q210
                        cases e210
                        have qi210 : (0 < t203.length) = True := eq_true (by omega)
                        (try rw [show ((0 : Int)).toNat = 0 from rfl] at hx210_0)
                        (try rw [Addr.add_zero'] at hx210_0)
                        replace p210 := eq_true p210
                        replace q210 := eq_true q210
                        refine start_ (n := 17) (S := fun w' => w'.cell? (ad209.add (x9_1).toNat) = some (.int .u64 (rd t200 x9_1)) ∧ w'.cell? ad210 = some (.int .u64 (rd t203 0))) (ds := [15]) #[false, false, false, false, false, false, false, false, false, false, false, false, false, false, false, false, false] (by kernel_rfl) rfl rfl ⟨hx209_0, hx210_0⟩ (fun hHeld => ?_); refine with_tabW nat_DivModS.tab10 nat_DivModS.bits10 (fun HT_ HW_ => ?_)
                        generalize wr.drew = w25 at HO_0 HO_1 HO_7 HB hx209_0 hx210_0 hHeld ⊢
                        refine pure_ (i := 0) (N := some 40) (v := ?_) (a' := ?_) #[true, false, false, false, false, false, false, false, false, false, false, false, false, false, false, false, false] rfl rfl (any_of HT_.out (by kernel_rfl)) (fun _ _ _ h => h) (Or.inl ⟨by rfl, ?_⟩) ?_ ?_
                        rotate_left
                        · intro w'
                          go_simp
                          with_reducible rfl
                        rotate_left
                        · simp only [Act.put, List.setIfInBounds_toArray, List.set_cons_zero, List.set_cons_succ, i64_w, i32_w]
                          rfl
                        refine pure_ (i := 1) (N := some 41) (v := ?_) (a' := ?_) #[true, true, false, false, false, false, false, false, false, false, false, false, false, false, false, false, false] rfl rfl (any_of HT_.out (by kernel_rfl)) (fun _ _ _ h => h) (Or.inl ⟨by rfl, ?_⟩) ?_ ?_
                        rotate_left
                        · intro w'
                          go_simp
                          with_reducible rfl
                        rotate_left
                        · simp only [Act.put, List.setIfInBounds_toArray, List.set_cons_zero, List.set_cons_succ, i64_w, i32_w]
                          rfl
                        refine pure_ (i := 2) (N := some 42) (v := ?_) (a' := ?_) #[true, true, true, false, false, false, false, false, false, false, false, false, false, false, false, false, false] rfl rfl (any_of HT_.out (by kernel_rfl)) (fun _ _ _ h => h) (Or.inl ⟨by rfl, ?_⟩) ?_ ?_
                        rotate_left
                        · intro w'
                          go_simp
                          with_reducible rfl
                        rotate_left
                        · simp only [Act.put, List.setIfInBounds_toArray, List.set_cons_zero, List.set_cons_succ, i64_w, i32_w]
                          rfl
                        refine pure_ (i := 3) (N := some 43) (v := ?_) (a' := ?_) #[true, true, true, true, false, false, false, false, false, false, false, false, false, false, false, false, false] rfl rfl (any_of HT_.out (by kernel_rfl)) (fun _ _ _ h => h) (Or.inl ⟨by rfl, ?_⟩) ?_ ?_
                        rotate_left
                        · intro w'
                          go_simp
                          with_reducible rfl
                        rotate_left
                        · simp only [Act.put, List.setIfInBounds_toArray, List.set_cons_zero, List.set_cons_succ, i64_w, i32_w]
                          rfl
                        refine pure_ (i := 4) (N := some 44) (v := ?_) (a' := ?_) #[true, true, true, true, true, false, false, false, false, false, false, false, false, false, false, false, false] rfl rfl (any_of HT_.out (by kernel_rfl)) (fun _ _ _ h => h) (Or.inl ⟨by rfl, ?_⟩) ?_ ?_
                        rotate_left
                        · intro w'
                          go_simp
                          with_reducible rfl
                        rotate_left
                        · simp only [Act.put, List.setIfInBounds_toArray, List.set_cons_zero, List.set_cons_succ, i64_w, i32_w]
                          rfl
                        refine pure_ (i := 5) (N := some 45) (v := ?_) (a' := ?_) #[true, true, true, true, true, true, false, false, false, false, false, false, false, false, false, false, false] rfl rfl (any_of HT_.out (by kernel_rfl)) (fun _ _ _ h => h) (Or.inl ⟨by rfl, ?_⟩) ?_ ?_
                        rotate_left
                        · intro w'
                          go_simp
                          with_reducible rfl
                        rotate_left
                        · simp only [Act.put, List.setIfInBounds_toArray, List.set_cons_zero, List.set_cons_succ, i64_w, i32_w]
                          rfl
                        refine pure_ (i := 7) (N := some 47) (v := ?_) (a' := ?_) #[true, true, true, true, true, true, false, true, false, false, false, false, false, false, false, false, false] rfl rfl (any_of HT_.out (by kernel_rfl)) (fun _ _ _ h => h) (Or.inl ⟨by rfl, ?_⟩) ?_ ?_
                        rotate_left
                        · intro w'
                          go_simp
                          with_reducible rfl
                        rotate_left
                        · simp only [Act.put, List.setIfInBounds_toArray, List.set_cons_zero, List.set_cons_succ, i64_w, i32_w]
                          rfl
                        refine pure_ (i := 8) (N := some 48) (v := ?_) (a' := ?_) #[true, true, true, true, true, true, false, true, true, false, false, false, false, false, false, false, false] rfl rfl (any_of HT_.out (by kernel_rfl)) (fun _ _ _ h => h) (Or.inl ⟨by rfl, ?_⟩) ?_ ?_
                        rotate_left
                        · intro w'
                          go_simp
                          with_reducible rfl
                        rotate_left
                        · simp only [Act.put, List.setIfInBounds_toArray, List.set_cons_zero, List.set_cons_succ, i64_w, i32_w]
                          rfl
                        refine take_ (i := 6) (N := some 46) (v := ?_) (a' := ?_) #[true, true, true, true, true, true, true, true, true, false, false, false, false, false, false, false, false] rfl rfl (take_ofW HT_.out HW_.out (by kernel_rfl)) (fun _ _ _ h => h) (Or.inl ⟨by rfl, ?_⟩) hHeld ?_ ?_
                        rotate_left
                        · rintro w' ⟨s0, s1⟩
                          go_simp
                          with_reducible rfl
                        rotate_left
                        · simp only [Act.put, List.setIfInBounds_toArray, List.set_cons_zero, List.set_cons_succ, i64_w, i32_w]
                          rfl
                        refine take_ (i := 9) (N := some 49) (v := ?_) (a' := ?_) #[true, true, true, true, true, true, true, true, true, true, false, false, false, false, false, false, false] rfl rfl (take_ofW HT_.out HW_.out (by kernel_rfl)) (fun _ _ _ h => h) (Or.inl ⟨by rfl, ?_⟩) hHeld ?_ ?_
                        rotate_left
                        · rintro w' ⟨s0, s1⟩
                          go_simp
                          with_reducible rfl
                        rotate_left
                        · simp only [Act.put, List.setIfInBounds_toArray, List.set_cons_zero, List.set_cons_succ, i64_w, i32_w]
                          rfl
                        refine one_ (i := 10) (N := some 50) #[true, true, true, true, true, true, true, true, true, true, true, false, false, false, false, false, false] rfl rfl (one_of HT_.out (by kernel_rfl)) (by decide) (fun K hK => ?_)
                        refine goes_ Try.func47 (by kernel_rfl) rfl #[.int .u64 x8_1, .int .u64 (rd t200 x9_1), .int .u64 (rd t203 0)] (by rfl) rfl rfl (by (try simp only [List.map_toArray, List.map_cons, List.map_nil]); first | done | rfl | (simp only [List.length_drop, List.length_take]; rfl)) ?_
                        with_reducible refine (bits_Div64.calls k1 x8_1 (rd t200 x9_1) (rd t203 0) t211 t212 _ A22.out).mono ?_
                        rintro e w' ⟨rfl, ⟨nd, rfl⟩⟩
                        refine ⟨_, rfl, ?_⟩
                        have p24 : 0 ≤ (x9_1 : Int) := of_decide_eq_true (by first | (with_reducible assumption) | assumption)
                        have q24 : (x9_1 : Int) < ((x7_1.length : Int) : Int) := of_decide_eq_true (by first | (with_reducible assumption) | assumption)
                        obtain ⟨go24, co24, eo24, gb24, gl24, cl24, HG24⟩ := Kd.R_form HO_7.out (by omega)
                        (first | cases eo24 | (injection eo24 with ea_ en_ ec_; (first | subst ea_ | (injection ea_ with ea_; subst ea_)); subst ec_; clear en_))
                        have GB24 := Aside0.mk gb24
                        have GG24 := Aside0.mk HG24
                        clear gb24 gl24 HG24
                        obtain ⟨hx24_0, hf24_0⟩ := Kd.R_celln 0 HO_7.out (x9_1 : Int) p24 q24
                        replace p24 := eq_true p24
                        replace q24 := eq_true q24
                        have HP26 := Kd.R_putn HO_7.out (x9_1 : Int) t211
                        rw [← Ny213.out] at HP26
                        have HQ26 := Aside0.mk HP26
                        clear HP26
                        refine hK.out _ _ ⟨hHeld.1, hHeld.2⟩ (fun hHeld => ?_)
                        clear hK K
                        refine norm_ (a' := ?_) ?_ ?_
                        rotate_left
                        · show Act.put _ (some 50) _ = _
                          simp only [Act.put, List.setIfInBounds_toArray, List.set_cons_zero, List.set_cons_succ, i64_w, i32_w]
                          rfl
                        refine pure_ (i := 11) (N := some 39) (v := ?_) (a' := ?_) #[true, true, true, true, true, true, true, true, true, true, true, true, false, false, false, false, false] rfl rfl (any_of HT_.out (by kernel_rfl)) (fun _ _ _ h => h) (Or.inl ⟨by rfl, ?_⟩) ?_ ?_
                        rotate_left
                        · intro w'
                          go_simp
                          with_reducible rfl
                        rotate_left
                        · simp only [Act.put, List.setIfInBounds_toArray, List.set_cons_zero, List.set_cons_succ, i64_w, i32_w]
                          rfl
                        refine pure_ (i := 12) (N := some 51) (v := ?_) (a' := ?_) #[true, true, true, true, true, true, true, true, true, true, true, true, true, false, false, false, false] rfl rfl (any_of HT_.out (by kernel_rfl)) (fun _ _ _ h => h) (Or.inl ⟨by rfl, ?_⟩) ?_ ?_
                        rotate_left
                        · intro w'
                          go_simp
                          with_reducible rfl
                        rotate_left
                        · simp only [Act.put, List.setIfInBounds_toArray, List.set_cons_zero, List.set_cons_succ, i64_w, i32_w]
                          rfl
                        refine pure_ (i := 13) (N := some 52) (v := ?_) (a' := ?_) #[true, true, true, true, true, true, true, true, true, true, true, true, true, true, false, false, false] rfl rfl (any_of HT_.out (by kernel_rfl)) (fun _ _ _ h => h) (Or.inl ⟨by rfl, ?_⟩) ?_ ?_
                        rotate_left
                        · intro w'
                          go_simp
                          with_reducible rfl
                        rotate_left
                        · simp only [Act.put, List.setIfInBounds_toArray, List.set_cons_zero, List.set_cons_succ, i64_w, i32_w]
                          rfl
                        refine pure_ (i := 14) (N := some 53) (v := ?_) (a' := ?_) #[true, true, true, true, true, true, true, true, true, true, true, true, true, true, true, false, false] rfl rfl (any_of HT_.out (by kernel_rfl)) (fun _ _ _ h => h) (Or.inl ⟨by rfl, ?_⟩) ?_ ?_
                        rotate_left
                        · intro w'
                          go_simp
                          with_reducible rfl
                        rotate_left
                        · simp only [Act.put, List.setIfInBounds_toArray, List.set_cons_zero, List.set_cons_succ, i64_w, i32_w]
                          rfl
                        refine last_ (i := 15) (N := none) #[true, true, true, true, true, true, true, true, true, true, true, true, true, true, true, true, false] rfl rfl (one_of HT_.out (by kernel_rfl)) (by decide) (fun K hK => ?_)
                        refine skip_ (w1 := ?_) (by rfl) rfl ?_ ?_
                        rotate_left
                        · go_simp
                          rfl
                        refine hK.out _ _ ?_
                        clear hK K
                        refine pure_ (i := 16) (N := some 8) (v := ?_) (a' := ?_) #[true, true, true, true, true, true, true, true, true, true, true, true, true, true, true, true, true] rfl rfl (any_of HT_.out (by kernel_rfl)) (fun _ _ _ h => h) (Or.inl ⟨by rfl, ?_⟩) ?_ ?_
                        rotate_left
                        · intro w'
                          go_simp
                          with_reducible rfl
                        rotate_left
                        · simp only [Act.put, List.setIfInBounds_toArray, List.set_cons_zero, List.set_cons_succ, i64_w, i32_w]
                          rfl
                        refine done_ (done_of HT_.out (by kernel_rfl)) ?_
                        try go_wp2
                        go_roundg k1
                        case measure => have := HK1.out; omega
                        case rel => exact ⟨(y213), (t212), (wrap64 (x9_1 - 1)), (by first | rfl | (simp; done) | (simp [*]; done)), (by first | rfl | (simp; done) | (simp [*]; done)), H', ⟨by have := HK1.out; omega⟩, ⟨by (with_reducible repeat (first | apply Kd.V_alloc | apply Kd.V_drewN | apply Kd.V_drew)); exact Kd.V_mono (Kd.V_far (p := ⟨go24, (x9_1 : Int).toNat, none⟩) (Kd.V_mono HO_0.out (fun k_ hk => (⟨hk, fun e_ => hk.2 (by rw [e_]; rfl)⟩ : _ ∧ k_ ≠ go24))) (fun _ hk => hk.2) (.int .u64 t211)) (fun _ hk => ⟨hk.1.1, hk.1.2⟩)⟩, ⟨by (with_reducible repeat (first | apply Kd.V_alloc | apply Kd.V_drewN | apply Kd.V_drew)); exact Kd.V_mono (Kd.V_far (p := ⟨go24, (x9_1 : Int).toNat, none⟩) (Kd.V_mono HO_1.out (fun k_ hk => (⟨hk, fun e_ => hk.2 (by rw [e_]; rfl)⟩ : _ ∧ k_ ≠ go24))) (fun _ hk => hk.2) (.int .u64 t211)) (fun _ hk => ⟨hk.1.1, hk.1.2⟩)⟩, ⟨by (with_reducible repeat (first | apply Kd.R_alloc | apply Kd.R_drewN | apply Kd.R_drew)); exact HQ26.out⟩, ⟨by repeat (first | (with_reducible first | exact HB.out | apply below_alloc | apply pw_below_drewN | apply below_drew1 | refine below_set ?_ GB24.out) | exact HB.out)⟩⟩
                      · rw [if_neg c23] at H
                        exact absurd H (by simp)
                    · rw [if_neg c21] at H
                      exact absurd H (by simp)
                  · rw [if_neg c20] at H
                    exact absurd H (by simp)
                · rw [if_neg c19] at H
                  exact absurd H (by simp)
              · rw [if_neg c18] at H
                have c18b0 : decide (0 ≤ x9_1) = false := decide_eq_false c18
                clear c18
                replace H := Option.bind_eq_some_iff.mp H
                obtain ⟨t214, A270, H⟩ := H
                replace H : ((nat_Of.f k1 x8_1).bind fun t217 => (some (t214, t217, 0))) = some (r1, r2, r3) := H
                have A27 := Aside0.mk A270
                clear A270
                replace H := Option.bind_eq_some_iff.mp H
                obtain ⟨t217, A280, H⟩ := H
                replace H : (some (t214, t217, 0)) = some (r1, r2, r3) := H
                have A28 := Aside0.mk A280
                clear A280
                simp only [Option.some.injEq, Prod.mk.injEq] at H
                obtain ⟨rfl, rfl, rfl⟩ := H
                obtain ⟨Ao29, co29, eo29⟩ := Kd.R_slice HO_7.out
                subst eo29
                go_wp2_with (first | ((with_reducible refine gate_callee (f := 43) rfl ?_); refine goesL_ (some 55) rfl rfl Try.func43 (by kernel_rfl) rfl #[.slice Ao29 x7_1.length co29] rfl (by (try simp only [List.map_toArray, List.map_cons, List.map_nil]); first | done | rfl | (simp only [List.length_drop, List.length_take]; rfl)) ?_; (with_reducible refine (nat_trim.calls k1 (fun k_ => some k_ = (.slice Ao29 x7_1.length co29 : Value).ownBlock) _ _ x7_1 t214 _ ?side1 A27.out).mono ?_); (case side1 => exact Kd.R_V (Kd.R_tight rfl (HO_7.out))); rintro e w30 ⟨v215, rfl, ho0, hb⟩; refine ⟨_, rfl, ?_⟩; have n0_ := Aside0.mk (Kd.V_below (by (with_reducible repeat (first | apply Kd.V_alloc | apply Kd.V_drewN | apply Kd.V_drew)); exact HO_0.out) hb); have n1_ := Aside0.mk (Kd.V_below (by (with_reducible repeat (first | apply Kd.V_alloc | apply Kd.V_drewN | apply Kd.V_drew)); exact HO_1.out) hb); have n2_ := Aside0.mk (Kd.R_below (by (with_reducible repeat (first | apply Kd.R_alloc | apply Kd.R_drewN | apply Kd.R_drew)); exact HO_7.out) hb); have n3_ := Aside0.mk (Kd.V_lower (Kd.V_mono (ok' := fun k_ => (w.heap.size ≤ k_)) ho0 (fun k_ hk_ => Or.elim hk_ (fun hs_ => (((HO_7.out).1 k_ hs_.symm))) (fun hn_ => (Nat.le_trans (below_size (by repeat (first | (with_reducible first | exact HB.out | apply below_alloc | apply pw_below_drewN | apply below_drew1) | exact HB.out))) hn_)))) (below_size (by repeat (first | (with_reducible first | exact HB.out | apply below_alloc | apply pw_below_drewN | apply below_drew1) | exact HB.out)))); have n4_ := Aside0.mk (below_step (by repeat (first | (with_reducible first | exact HB.out | apply below_alloc | apply pw_below_drewN | apply below_drew1) | exact HB.out)) hb); clear HO_0; clear HO_1; clear HO_7; clear HB; have HO_0 := n0_; have HO_1 := n1_; have HO_7 := n2_; have HO216 := n3_; have HB := n4_; clear n0_ n1_ n2_ n3_ n4_; (try clear hb); (try clear hb2); (try clear hk); (try clear hi); (try clear ho0)) | ((with_reducible refine gate_callee (f := 37) rfl ?_); refine goesL_ (some 57) rfl rfl Try.func37 (by kernel_rfl) rfl #[.int .u64 x8_1] rfl (by (try simp only [List.map_toArray, List.map_cons, List.map_nil]); first | done | rfl | (simp only [List.length_drop, List.length_take]; rfl)) ?_; (with_reducible refine (nat_Of.calls k1 x8_1 t217 _ A28.out).mono ?_); rintro e w31 ⟨v218, rfl, ho0, hb⟩; refine ⟨_, rfl, ?_⟩; have n0_ := Aside0.mk (Kd.V_elder' (by (with_reducible repeat (first | apply Kd.V_alloc | apply Kd.V_drewN | apply Kd.V_drew)); exact HO_0.out) (Kd.R_base ho0) hb); have n1_ := Aside0.mk (Kd.V_elder' (by (with_reducible repeat (first | apply Kd.V_alloc | apply Kd.V_drewN | apply Kd.V_drew)); exact HO_1.out) (Kd.R_base ho0) hb); have n2_ := Aside0.mk (Kd.R_elder' (by (with_reducible repeat (first | apply Kd.R_alloc | apply Kd.R_drewN | apply Kd.R_drew)); exact HO_7.out) (Kd.R_base ho0) hb); have n3_ := Aside0.mk (Kd.V_elder' (by (with_reducible repeat (first | apply Kd.V_alloc | apply Kd.V_drewN | apply Kd.V_drew)); exact HO216.out) (Kd.R_base ho0) hb); have n4_ := Aside0.mk (Kd.R_lower (Kd.R_new' (Kd.R_newM (M := fun k_ => (w.heap.size ≤ k_)) ho0 (below_size (by repeat (first | (with_reducible first | exact HB.out | apply below_alloc | apply pw_below_drewN | apply below_drew1) | exact HB.out))) (fun k_ h_ => h_)) (Kd.R_lt (by (with_reducible repeat (first | apply Kd.R_alloc | apply Kd.R_drewN | apply Kd.R_drew)); exact HO_7.out))) (below_size (by repeat (first | (with_reducible first | exact HB.out | apply below_alloc | apply pw_below_drewN | apply below_drew1) | exact HB.out)))); have n5_ := Aside0.mk (below_step (by repeat (first | (with_reducible first | exact HB.out | apply below_alloc | apply pw_below_drewN | apply below_drew1) | exact HB.out)) hb); clear HO_0; clear HO_1; clear HO_7; clear HO216; clear HB; have HO_0 := n0_; have HO_1 := n1_; have HO_7 := n2_; have HO216 := n3_; have HO219 := n4_; have HB := n5_; clear n0_ n1_ n2_ n3_ n4_ n5_; (try clear hb); (try clear hb2); (try clear hk); (try clear hi); (try clear ho0)))
                go_ret3
                exact ⟨_, _, by first | rfl | (simp [errW_none, errW_some] <;> rfl) | (simp [*, errW_none, errW_some] <;> rfl), by (with_reducible repeat (first | apply Kd.V_alloc | apply Kd.V_drewN | apply Kd.V_drew)); exact HO216.out, by (with_reducible repeat (first | apply Kd.R_alloc | apply Kd.R_drewN | apply Kd.R_drew)); exact Kd.R_mono HO219.out (fun _ hk => hk.1.1), by repeat (first | (with_reducible first | exact HB.out | apply below_alloc | apply pw_below_drewN | apply below_drew1) | exact HB.out)⟩
        · rw [if_neg c11] at H
          exact absurd H (by simp)
      · rw [if_neg c10] at H
        exact absurd H (by simp)
    · rw [if_neg c9] at H
      have c9b0 : ((t203.length : Int) == 1) = false := beq_eq_false_iff_ne.mpr c9
      have c9b1 : ((t203.length : Int) != 1) = true := bne_iff_ne.mpr c9
      replace H := Option.bind_eq_some_iff.mp H
      obtain ⟨t220, A320, H⟩ := H
      replace H : (if t220 < 0 then ((nat_Norm.f k t200).bind fun t221 => (some (([] : List Int), t221, 0))) else (if 0 ≤ (wrap64 ((t203.length : Int) - 1)) then (if (wrap64 ((t203.length : Int) - 1)) < (t203.length : Int) then (none) else (none)) else (none))) = some (r1, r2, r3) := H
      have A32 := Aside0.mk A320
      clear A320
      by_cases c33 : t220 < 0
      · rw [if_pos c33] at H
        have c33b0 : decide (t220 < 0) = true := decide_eq_true c33
        clear c33
        replace H := Option.bind_eq_some_iff.mp H
        obtain ⟨t221, A340, H⟩ := H
        replace H : (some (([] : List Int), t221, 0)) = some (r1, r2, r3) := H
        have A34 := Aside0.mk A340
        clear A340
        simp only [Option.some.injEq, Prod.mk.injEq] at H
        obtain ⟨rfl, rfl, rfl⟩ := H
        go_enter Try.func25, Try.ntmps25
        go_wp2_with (first | ((with_reducible refine gate_callee (f := 43) rfl ?_); refine goesL_ (some 20) rfl rfl Try.func43 (by kernel_rfl) rfl #[.slice A0 l0.length c0] rfl (by (try simp only [List.map_toArray, List.map_cons, List.map_nil]); first | done | rfl | (simp only [List.length_drop, List.length_take]; rfl)) ?_; (with_reducible refine (nat_trim.calls k (fun k_ => ((P0_ k_ ∨ P1_ k_) ∨ w.heap.size ≤ k_)) _ _ l0 t200 _ ?side1 A3.out).mono ?_); (case side1 => exact HO0.out); rintro e w35 ⟨v201, rfl, ho0, hb⟩; refine ⟨_, rfl, ?_⟩; have n0_ := Aside0.mk (Kd.V_below (by (with_reducible repeat (first | apply Kd.V_alloc | apply Kd.V_drewN | apply Kd.V_drew)); exact HO0.out) hb); have n1_ := Aside0.mk (Kd.V_below (by (with_reducible repeat (first | apply Kd.V_alloc | apply Kd.V_drewN | apply Kd.V_drew)); exact HO1.out) hb); have n2_ := Aside0.mk (Kd.V_lower (Kd.V_mono (ok' := fun k_ => ((P0_ k_ ∨ P1_ k_) ∨ w.heap.size ≤ k_)) ho0 (fun k_ hk_ => Or.elim hk_ (fun hs_ => hs_) (fun hn_ => (.inr (Nat.le_trans (below_size (by repeat (first | (with_reducible first | exact HB.out | apply below_alloc | apply pw_below_drewN | apply below_drew1) | exact HB.out))) hn_))))) (below_size (by repeat (first | (with_reducible first | exact HB.out | apply below_alloc | apply pw_below_drewN | apply below_drew1) | exact HB.out)))); have n3_ := Aside0.mk (below_step (by repeat (first | (with_reducible first | exact HB.out | apply below_alloc | apply pw_below_drewN | apply below_drew1) | exact HB.out)) hb); clear HO0; clear HO1; clear HB; have HO0 := n0_; have HO1 := n1_; have HO202 := n2_; have HB := n3_; clear n0_ n1_ n2_ n3_; (try clear hb); (try clear hb2); (try clear hk); (try clear hi); (try clear ho0)) | ((with_reducible refine gate_callee (f := 43) rfl ?_); refine goesL_ (some 22) rfl rfl Try.func43 (by kernel_rfl) rfl #[.slice A1 l1.length c1] rfl (by (try simp only [List.map_toArray, List.map_cons, List.map_nil]); first | done | rfl | (simp only [List.length_drop, List.length_take]; rfl)) ?_; (with_reducible refine (nat_trim.calls k (fun k_ => ((P0_ k_ ∨ P1_ k_) ∨ w.heap.size ≤ k_)) _ _ l1 t203 _ ?side1 A4.out).mono ?_); (case side1 => exact HO1.out); rintro e w36 ⟨v204, rfl, ho0, hb⟩; refine ⟨_, rfl, ?_⟩; have n0_ := Aside0.mk (Kd.V_below (by (with_reducible repeat (first | apply Kd.V_alloc | apply Kd.V_drewN | apply Kd.V_drew)); exact HO0.out) hb); have n1_ := Aside0.mk (Kd.V_below (by (with_reducible repeat (first | apply Kd.V_alloc | apply Kd.V_drewN | apply Kd.V_drew)); exact HO1.out) hb); have n2_ := Aside0.mk (Kd.V_below (by (with_reducible repeat (first | apply Kd.V_alloc | apply Kd.V_drewN | apply Kd.V_drew)); exact HO202.out) hb); have n3_ := Aside0.mk (Kd.V_lower (Kd.V_mono (ok' := fun k_ => ((P0_ k_ ∨ P1_ k_) ∨ w.heap.size ≤ k_)) ho0 (fun k_ hk_ => Or.elim hk_ (fun hs_ => hs_) (fun hn_ => (.inr (Nat.le_trans (below_size (by repeat (first | (with_reducible first | exact HB.out | apply below_alloc | apply pw_below_drewN | apply below_drew1) | exact HB.out))) hn_))))) (below_size (by repeat (first | (with_reducible first | exact HB.out | apply below_alloc | apply pw_below_drewN | apply below_drew1) | exact HB.out)))); have n4_ := Aside0.mk (below_step (by repeat (first | (with_reducible first | exact HB.out | apply below_alloc | apply pw_below_drewN | apply below_drew1) | exact HB.out)) hb); clear HO0; clear HO1; clear HO202; clear HB; have HO0 := n0_; have HO1 := n1_; have HO202 := n2_; have HO205 := n3_; have HB := n4_; clear n0_ n1_ n2_ n3_ n4_; (try clear hb); (try clear hb2); (try clear hk); (try clear hi); (try clear ho0); obtain ⟨Ao37, co37, eo37⟩ := Kd.V_slice HO205.out; subst eo37; obtain ⟨Ao38, co38, eo38⟩ := Kd.V_slice HO202.out; subst eo38) | ((with_reducible refine gate_callee (f := 19) rfl ?_); refine goesL_ (some 60) rfl rfl Try.func19 (by kernel_rfl) rfl #[.slice Ao38 t200.length co38, .slice Ao37 t203.length co37] rfl (by (try simp only [List.map_toArray, List.map_cons, List.map_nil]); first | done | rfl | (simp only [List.length_drop, List.length_take]; rfl)) ?_; (with_reducible refine (nat_Cmp.calls k _ _ t200 _ _ t203 t220 _ ?side1 ?side2 ?side3 ?side4 A32.out).mono ?_); (case side1 => repeat (first | exact (Kd.V_reads' HO202.out).2.2 | (with_reducible refine Kd.C_alloc ?_ _) | (with_reducible refine Kd.C_drewN ?_ _) | (with_reducible refine Kd.C_drew ?_))); (case side2 => exact (Kd.V_reads' HO202.out).2.1); (case side3 => repeat (first | exact (Kd.V_reads' HO205.out).2.2 | (with_reducible refine Kd.C_alloc ?_ _) | (with_reducible refine Kd.C_drewN ?_ _) | (with_reducible refine Kd.C_drew ?_))); (case side4 => exact (Kd.V_reads' HO205.out).2.1); rintro e w39 ⟨rfl, hb⟩; refine ⟨_, rfl, ?_⟩; have n0_ := Aside0.mk (Kd.V_below (by (with_reducible repeat (first | apply Kd.V_alloc | apply Kd.V_drewN | apply Kd.V_drew)); exact HO0.out) hb); have n1_ := Aside0.mk (Kd.V_below (by (with_reducible repeat (first | apply Kd.V_alloc | apply Kd.V_drewN | apply Kd.V_drew)); exact HO1.out) hb); have n2_ := Aside0.mk (Kd.V_below (by (with_reducible repeat (first | apply Kd.V_alloc | apply Kd.V_drewN | apply Kd.V_drew)); exact HO202.out) hb); have n3_ := Aside0.mk (Kd.V_below (by (with_reducible repeat (first | apply Kd.V_alloc | apply Kd.V_drewN | apply Kd.V_drew)); exact HO205.out) hb); have n4_ := Aside0.mk (below_step (by repeat (first | (with_reducible first | exact HB.out | apply below_alloc | apply pw_below_drewN | apply below_drew1) | exact HB.out)) hb); clear HO0; clear HO1; clear HO202; clear HO205; clear HB; have HO0 := n0_; have HO1 := n1_; have HO202 := n2_; have HO205 := n3_; have HB := n4_; clear n0_ n1_ n2_ n3_ n4_; (try clear hb); (try clear hb2); (try clear hk); (try clear hi)) | ((with_reducible refine gate_callee (f := 31) rfl ?_); refine goesL_ (some 63) rfl rfl Try.func31 (by kernel_rfl) rfl #[.slice Ao38 t200.length co38] rfl (by (try simp only [List.map_toArray, List.map_cons, List.map_nil]); first | done | rfl | (simp only [List.length_drop, List.length_take]; rfl)) ?_; (with_reducible refine (nat_Norm.calls k _ _ t200 t221 _ ?side1 ?side2 A34.out).mono ?_); (case side1 => repeat (first | exact (Kd.V_reads' HO202.out).2.2 | (with_reducible refine Kd.C_alloc ?_ _) | (with_reducible refine Kd.C_drewN ?_ _) | (with_reducible refine Kd.C_drew ?_))); (case side2 => exact (Kd.V_reads' HO202.out).2.1); rintro e w40 ⟨v222, rfl, ho0, hb⟩; refine ⟨_, rfl, ?_⟩; have n0_ := Aside0.mk (Kd.V_elder' (by (with_reducible repeat (first | apply Kd.V_alloc | apply Kd.V_drewN | apply Kd.V_drew)); exact HO0.out) (Kd.R_base ho0) hb); have n1_ := Aside0.mk (Kd.V_elder' (by (with_reducible repeat (first | apply Kd.V_alloc | apply Kd.V_drewN | apply Kd.V_drew)); exact HO1.out) (Kd.R_base ho0) hb); have n2_ := Aside0.mk (Kd.V_elder' (by (with_reducible repeat (first | apply Kd.V_alloc | apply Kd.V_drewN | apply Kd.V_drew)); exact HO202.out) (Kd.R_base ho0) hb); have n3_ := Aside0.mk (Kd.V_elder' (by (with_reducible repeat (first | apply Kd.V_alloc | apply Kd.V_drewN | apply Kd.V_drew)); exact HO205.out) (Kd.R_base ho0) hb); have n4_ := Aside0.mk (Kd.R_lower (Kd.R_newM (M := fun k_ => (w.heap.size ≤ k_)) ho0 (below_size (by repeat (first | (with_reducible first | exact HB.out | apply below_alloc | apply pw_below_drewN | apply below_drew1) | exact HB.out))) (fun k_ h_ => h_)) (below_size (by repeat (first | (with_reducible first | exact HB.out | apply below_alloc | apply pw_below_drewN | apply below_drew1) | exact HB.out)))); have n5_ := Aside0.mk (below_step (by repeat (first | (with_reducible first | exact HB.out | apply below_alloc | apply pw_below_drewN | apply below_drew1) | exact HB.out)) hb); clear HO0; clear HO1; clear HO202; clear HO205; clear HB; have HO0 := n0_; have HO1 := n1_; have HO202 := n2_; have HO205 := n3_; have HO223 := n4_; have HB := n5_; clear n0_ n1_ n2_ n3_ n4_ n5_; (try clear hb); (try clear hb2); (try clear hk); (try clear hi); (try clear ho0)))
        go_ret3
        exact ⟨_, _, by first | rfl | (simp [errW_none, errW_some] <;> rfl) | (simp [*, errW_none, errW_some] <;> rfl), Kd.V_nil _ _ _ _ _, by (with_reducible repeat (first | apply Kd.R_alloc | apply Kd.R_drewN | apply Kd.R_drew)); exact Kd.R_mono HO223.out (fun _ hk => hk.1), by repeat (first | (with_reducible first | exact HB.out | apply below_alloc | apply pw_below_drewN | apply below_drew1) | exact HB.out)⟩
      · rw [if_neg c33] at H
        have c33b0 : decide (t220 < 0) = false := decide_eq_false c33
        clear c33
        obtain ⟨ji41, hji41⟩ : ∃ j_ : Int, (wrap64 ((t203.length : Int) - 1)) = j_ := ⟨_, rfl⟩
        replace H : (if 0 ≤ (ji41) then (if (ji41) < (t203.length : Int) then (none) else (none)) else (none)) = some (r1, r2, r3) := by first | (rw [hji41] at H; exact H) | (simp only [hji41] at H ⊢; exact H)
        (try rw [hji41] at A3)
        (try rw [hji41] at A4)
        (try rw [hji41] at A32)
        have hji41w : (IntKind.i64.wrap ((t203.length : Int) - 1)) = ji41 := (i64_w _).trans hji41
        by_cases c42 : 0 ≤ (ji41)
        · rw [if_pos c42] at H
          have c42b0 : decide (0 ≤ (ji41)) = true := decide_eq_true c42
          clear c42
          by_cases c43 : (ji41) < (t203.length : Int)
          · rw [if_pos c43] at H
            have c43b0 : decide ((ji41) < (t203.length : Int)) = true := decide_eq_true c43
            clear c43
            exact absurd H (by simp)
          · rw [if_neg c43] at H
            exact absurd H (by simp)
        · rw [if_neg c42] at H
          exact absurd H (by simp)

theorem short_val (q : List Int) (i b0 r a r' : Nat) (Q A : Nat) (hi : i < q.length) (hA : val (q.drop (i + 1)) * b0 + r = A) (hq : q.length ≤ q.length) (e : r * 18446744073709551616 + a = b0 * Q + r') :
    val ((q.set i (Q : Int)).drop i) * b0 + r' = a + 18446744073709551616 * A := by
  rw [drop_set _ _ _ hi]
  simp only [val, Int.toNat_natCast]
  rw [← hA, Nat.add_mul, Nat.mul_add 18446744073709551616, Nat.mul_assoc, Nat.mul_comm Q b0]
  generalize b0 * Q = z at *
  generalize val (q.drop (i + 1)) * b0 = y at *
  omega
theorem short_loop (a b : List Int) (ha : Lim a) (b0 : Nat) (hb : b.length = 1) (hb0 : rd b 0 = (b0 : Int)) (hpos : 0 < b0) (hB : b0 < 18446744073709551616) (hl : a.length ≤ 17592186044416) (K : Nat) (hK : 60000000000 + a.length ≤ K) : ∀ (j : Nat) (q : List Int) (r : Nat), j ≤ a.length → q.length = a.length → Lim q → r < b0 →
    val (q.drop j) * b0 + r = val (a.drop j) → nat_DivModS.l0 (K + j + 1) a b q (r : Int) ((j : Int) - 1) = some (limbs (val a / b0), limbs (val a % b0), 0)
  | 0, q, r, hj, hq, hlq, hr, hv => by
    rw [List.drop_zero, List.drop_zero] at hv
    have h1 : val a / b0 = val q := by rw [← hv, Nat.mul_comm, Nat.mul_add_div hpos, Nat.div_eq_of_lt hr, Nat.add_zero]
    have h2 : val a % b0 = r := by rw [← hv, Nat.mul_comm, Nat.mul_add_mod, Nat.mod_eq_of_lt hr]
    have hof : nat_Of.f K (r : Int) = some (limbs r) := by
      unfold nat_Of.f
      rw [Norm_ge [(r : Int)] (Lim.one (by omega) (by omega)) (by simp) K (by simp; omega), Option.bind_some, val_one, Int.toNat_natCast]
    simp only [nat_DivModS.l0]
    rw [if_neg (by omega)]
    rw [trim_ge q hlq (by omega) K (by omega), Option.bind_some, hof, Option.bind_some, h1, h2]
  | i + 1, q, r, hj, hq, hlq, hr, hv => by
    have hx := ha.getD i
    obtain ⟨x, hxe⟩ : ∃ x : Nat, a.getD i 0 = x := ⟨(a.getD i 0).toNat, by clear hv; omega⟩
    rw [hxe] at hx
    have e0 : ((i + 1 : Nat) : Int) - 1 = (i : Int) := by omega
    have w1 : wrap64 ((i : Int) - 1) = (i : Int) - 1 := by clear hv; unfold wrap64; omega
    have r1 : rd a (i : Int) = (x : Int) := hxe
    have q1 : (i : Int) ≥ 0 := by omega
    have q2 : (0 : Int) ≤ (i : Int) := by omega
    have q3 : (i : Int) < (a.length : Int) := by clear hv; omega
    have q4 : (0 : Int) < (b.length : Int) := by omega
    have q5 : (i : Int) < (q.length : Int) := by clear hv; omega
    have hD := Div64_eq r x b0 hr (by clear hv; omega) hB (K + i + 1) (by clear hv; omega)
    have ed : val (a.drop i) = x + 18446744073709551616 * val (a.drop (i + 1)) := by
      rw [List.drop_eq_getElem_cons (by clear hv; omega : i < a.length)]
      simp only [val]
      have : a[i]'(by clear hv; omega) = a.getD i 0 := by rw [List.getD_eq_getElem?_getD, List.getElem?_eq_getElem (by clear hv; omega)]; rfl
      rw [this, hxe, Int.toNat_natCast]
    have hdm := Nat.div_add_mod (r * 18446744073709551616 + x) b0
    have hmod := Nat.mod_lt (r * 18446744073709551616 + x) hpos
    have hqb : (r * 18446744073709551616 + x) / b0 < 18446744073709551616 := Nat.div_lt_of_lt_mul (by clear hv ed hdm hmod hD; omega)
    obtain ⟨Q, hQ⟩ : ∃ Q, Q = (r * 18446744073709551616 + x) / b0 := ⟨_, rfl⟩
    obtain ⟨r', hr'⟩ : ∃ r', r' = (r * 18446744073709551616 + x) % b0 := ⟨_, rfl⟩
    rw [← hQ, ← hr'] at hD hdm
    rw [← hQ] at hqb
    rw [← hr'] at hmod
    have hst := short_val q i b0 r x r' Q (val (a.drop (i + 1))) (by clear hv ed hdm hD; omega) hv (Nat.le_refl _) hdm.symm
    rw [← ed] at hst
    have ih := short_loop a b ha b0 hb hb0 hpos hB hl K hK i (q.set i (Q : Int)) r' (by clear hv ed hdm hst hD; omega) (by rw [List.length_set]; exact hq) (row_set hlq i (Q : Int) (by clear hv ed hdm hst hD; omega)) hmod hst
    obtain ⟨K1, hK1⟩ : ∃ K1, K1 = K + i + 1 := ⟨_, rfl⟩
    rw [← hK1] at ih hD
    rw [show K + (i + 1) + 1 = K1 + 1 by clear hv ed hdm hst hD ih; omega]
    simp only [nat_DivModS.l0]
    rw [e0, if_pos q1, if_pos q2, if_pos q3, if_pos q4, r1, hb0, hD, Option.bind_some, if_pos q5, w1, Int.toNat_natCast]
    exact ih
theorem short_ge (l0 l1 : List Int) (h0 : Lim l0) (h1 : Lim l1) (n0 : l0.length ≤ 17592186044400) (n1 : l1.length ≤ 17592186044400) (hs : (limbs (val l1)).length < 2 ∨ val l0 < val l1) :
    ∃ K, nat_DivModS.f K l0 l1 = some (if val l1 = 0 then ([], [], 11) else (limbs (val l0 / val l1), limbs (val l0 % val l1), 0)) := by
  obtain ⟨K, hK⟩ : ∃ K : Nat, K = 1000000000000000 := ⟨_, rfl⟩
  have hl0 := limbs_le l0 h0
  have hl1 := limbs_le l1 h1
  have hv1 : (limbs (val l1)).length = 0 → val l1 = 0 := fun h => by
    have := limbs_val (val l1)
    rw [List.eq_nil_of_length_eq_zero h] at this
    exact this.symm
  have hnz : val l1 = 0 → (limbs (val l1)).length = 0 := fun h => by rw [h, limbs_zero]; rfl
  refine ⟨K + (limbs (val l0)).length + 1, ?_⟩
  unfold nat_DivModS.f
  rw [trim_ge l0 h0 (by omega) _ (by omega), Option.bind_some, trim_ge l1 h1 (by omega) _ (by omega), Option.bind_some]
  by_cases c0 : (limbs (val l1)).length = 0
  · rw [if_pos (by omega), if_pos (hv1 c0)]
  · rw [if_neg (by omega), if_neg (fun h => c0 (hnz h))]
    by_cases c1 : (limbs (val l1)).length = 1
    · have hmk : ((limbs (val l0)).length : Int).toNat ≤ 35184372088832 := by rw [Int.toNat_natCast]; omega
      rw [if_pos (by omega), if_pos (by omega), if_pos hmk, Int.toNat_natCast]
      have w1 : wrap64 (((limbs (val l0)).length : Int) - 1) = ((limbs (val l0)).length : Int) - 1 := by unfold wrap64; omega
      rw [w1]
      obtain ⟨m, t, et, hlm, ht0, ht1, hyv⟩ := limbs_top (val l1) (fun h => c0 (hnz h))
      have hm : m = [] := by
        have : m.length = 0 := by rw [et] at c1; simpa using c1
        exact List.eq_nil_of_length_eq_zero this
      subst hm
      obtain ⟨b0, rfl⟩ : ∃ b0 : Nat, t = b0 := ⟨t.toNat, by omega⟩
      have hb0 : val l1 = b0 := by rw [hyv]; simp [val]
      have hb1 : rd (limbs (val l1)) 0 = (b0 : Int) := by rw [et]; rfl
      have h := short_loop (limbs (val l0)) (limbs (val l1)) (limbs_lim _) b0 c1 hb1 (by omega) (by omega) (by omega) K (by omega) (limbs (val l0)).length (List.replicate (limbs (val l0)).length 0) 0 (Nat.le_refl _) (by simp) (zrow_lim _) (by omega) (by
        rw [List.drop_eq_nil_of_le (by simp), List.drop_eq_nil_of_le (Nat.le_refl _)]
        simp [val])
      rw [limbs_val, ← hb0] at h
      exact h
    · have hlt : val l0 < val l1 := hs.resolve_left (by omega)
      rw [if_neg (by omega), cmp_ge (limbs (val l0)) (limbs (val l1)) (limbs_lim _) (limbs_lim _) (by omega) (by omega) _ (by omega), Option.bind_some, limbs_val, limbs_val]
      have hcn : cmpN (val l0) (val l1) = -1 := by unfold cmpN; rw [if_pos hlt]
      rw [hcn, if_pos (by decide), Norm_ge (limbs (val l0)) (limbs_lim _) (by omega) _ (by omega), Option.bind_some, limbs_val, Nat.div_eq_of_lt hlt, Nat.mod_eq_of_lt hlt]
      rfl
theorem DivMod_all (A0 : Option Addr) (c0 : Nat) (l0 : List Int) (A1 : Option Addr) (c1 : Nat) (l1 : List Int) (w : World) (hr0 : Kd.C (Kd.int .u64) w A0 l0.length l0) (hc0 : l0.length ≤ c0) (hr1 : Kd.C (Kd.int .u64) w A1 l1.length l1) (hc1 : l1.length ≤ c1)
    (hL0 : Lim l0) (hL1 : Lim l1) (hn0 : l0.length ≤ 17592186043904) (hn1 : l1.length ≤ 17592186043904) (r1 r2 : List Int) (r3 : Int) (hr : (if val l1 = 0 then (([] : List Int), ([] : List Int), (11 : Int)) else (limbs (val l0 / val l1), limbs (val l0 % val l1), 0)) = (r1, r2, r3)) :
    Calls Try.prog 25 #[.slice A0 l0.length c0, .slice A1 l1.length c1] w fun e w' => ∃ v0_ v1_ : Value, e = .returned (.tuple #[v0_, v1_, .int .i64 r3]) ∧ Kd.V (Kd.int .u64) 46 w' w.heap.size (fun k_ => (w.heap.size ≤ k_)) v0_ r1 ∧ Kd.V (Kd.int .u64) 46 w' w.heap.size (fun k_ => (w.heap.size ≤ k_)) v1_ r2 ∧ Below w.heap.size w w' := by
  by_cases hs : (limbs (val l1)).length < 2 ∨ val l0 < val l1
  · obtain ⟨K, hK⟩ := short_ge l0 l1 hL0 hL1 (by omega) (by omega) hs
    rw [hr] at hK
    refine (nat_DivModS.calls K (fun k_ => k_ < w.heap.size) A0 c0 l0 (fun k_ => k_ < w.heap.size) A1 c1 l1 r1 r2 r3 w (Kd.V_mk hc0 (Kd.C_F (Kd.heap_int .u64) hr0)) (Kd.V_mk hc1 (Kd.C_F (Kd.heap_int .u64) hr1)) hK).mono ?_
    rintro e w' ⟨v0, v1, he, hV, hR, hB⟩
    exact ⟨v0, v1, he, Kd.V_mono hV (fun k_ hk => hk.1), Kd.R_V hR, hB⟩
  · have h2 : 2 ≤ (limbs (val l1)).length := by
      rcases Nat.lt_or_ge (limbs (val l1)).length 2 with h | h
      · exact absurd (Or.inl h) hs
      · exact h
    have h3 : val l1 ≤ val l0 := by
      rcases Nat.lt_or_ge (val l0) (val l1) with h | h
      · exact absurd (Or.inr h) hs
      · exact h
    have hz : val l1 ≠ 0 := fun h => by rw [h, limbs_zero] at h2; simp at h2
    rw [if_neg hz] at hr
    injection hr with e1 hr
    injection hr with e2 e3
    subst e1; subst e2; subst e3
    exact DivMod_long A0 c0 l0 A1 c1 l1 w hr0 hc0 hr1 hc1 hL0 hL1 hn0 hn1 h2 h3
def nat_DivMod.f (a0 a1 : List Int) : Option (List Int × List Int × Int) := if (wfs a0 && wfs a1) = true then some (if val a1 = 0 then ([], [], 11) else (limbs (val a0 / val a1), limbs (val a0 % val a1), 0)) else none
theorem nat_DivMod.calls (A0 : Option Addr) (c0 : Nat) (l0 : List Int) (A1 : Option Addr) (c1 : Nat) (l1 : List Int) (r1 : List Int) (r2 : List Int) (r3 : Int) (w : World) (hr0 : Kd.C (Kd.int .u64) w A0 l0.length l0) (hc0 : l0.length ≤ c0) (hr1 : Kd.C (Kd.int .u64) w A1 l1.length l1) (hc1 : l1.length ≤ c1) (h : nat_DivMod.f l0 l1 = some (r1, r2, r3)) :
    Calls Try.prog 25 #[.slice A0 l0.length c0, .slice A1 l1.length c1] w fun e w' => ∃ v0_ v1_ : Value, e = .returned (.tuple #[v0_, v1_, .int .i64 r3]) ∧ Kd.V (Kd.int .u64) 46 w' w.heap.size (fun k_ => (w.heap.size ≤ k_)) v0_ r1 ∧ Kd.V (Kd.int .u64) 46 w' w.heap.size (fun k_ => (w.heap.size ≤ k_)) v1_ r2 ∧ Below w.heap.size w w' := by
  unfold nat_DivMod.f at h
  by_cases hw : (wfs l0 && wfs l1) = true
  · rw [if_pos hw] at h
    rw [Bool.and_eq_true] at hw
    have h0 := wfs_out hw.1
    have h1 := wfs_out hw.2
    exact DivMod_all A0 c0 l0 A1 c1 l1 w hr0 hc0 hr1 hc1 h0.1 h1.1 h0.2 h1.2 r1 r2 r3 (Option.some.inj h)
  · rw [if_neg hw] at h; exact absurd h (by simp)

end Go.Proofs.Ytfaknblpkegekaa.Q
end
