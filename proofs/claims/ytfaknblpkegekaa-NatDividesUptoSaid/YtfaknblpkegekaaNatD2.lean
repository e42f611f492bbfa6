/- Plain law: NatDivides answers true; shifts, products and quotients of digits. -/
import Derived.Test.YtfaknblpkegekaaQs
import Derived.Test.YtfaknblpkegekaaNat17
import Derived.Test.YtfaknblpkegekaaNatD1
import Derived.Test.YtfaknblpkegekaaNat18
import Derived.Test.YtfaknblpkegekaaQx9
import Derived.Test.YtfaknblpkegekaaAwake
namespace Go.Proofs.Ytfaknblpkegekaa.Q
open Go.RowKit Go.Proofs.YtfaknblpkegekaaW.PrintWords Go.Proofs.YtfaknblpkegekaaW.PrintLast Go.Proofs.YtfaknblpkegekaaW.PrintMore
set_option linter.unusedVariables false
def dshrs (s : Nat) : List Int → List Int
  | [] => []
  | x :: r => ((x.toNat / 2 ^ s + (r.getD 0 0).toNat % 2 ^ s * 2 ^ (16 - s) : Nat) : Int) :: dshrs s r
theorem dshrs_len (s : Nat) : ∀ d : List Int, (dshrs s d).length = d.length
  | [] => rfl
  | x :: r => by simp [dshrs, dshrs_len s r]
theorem dsplit (s : Nat) (hs : s < 16) : 2 ^ s * 2 ^ (16 - s) = 65536 := by
  rw [← Nat.pow_add, show s + (16 - s) = 16 by omega]
theorem dlimb_shr (x t s : Nat) (hs : s < 16) (hx : x < 65536) : x / 2 ^ s < 2 ^ (16 - s) ∧ x / 2 ^ s + t % 2 ^ s * 2 ^ (16 - s) < 65536 := by
  have hp := dsplit s hs
  have h1 : x / 2 ^ s < 2 ^ (16 - s) := Nat.div_lt_of_lt_mul (by rw [hp]; exact hx)
  have h2 : t % 2 ^ s + 1 ≤ 2 ^ s := Nat.mod_lt _ (Nat.two_pow_pos s)
  have h3 := Nat.mul_le_mul_right (2 ^ (16 - s)) h2
  rw [hp, Nat.add_mul] at h3
  exact ⟨h1, by omega⟩
theorem dhead_mod (r : List Int) (s : Nat) (hs : s < 16) : dval r % 2 ^ s = (r.getD 0 0).toNat % 2 ^ s := by
  cases r with
  | nil => rfl
  | cons y r =>
    simp only [dval, List.getD_cons_zero]
    rw [← dsplit s hs, Nat.mul_assoc, Nat.add_mul_mod_self_left]
theorem dshrs_val (s : Nat) (hs : s < 16) : ∀ d : List Int, Dig d → dval (dshrs s d) = dval d / 2 ^ s
  | [], _ => by simp [dshrs, dval]
  | x :: r, h => by
    have ih := dshrs_val s hs r (fun z hz => h z (List.mem_cons_of_mem _ hz))
    have hm := dhead_mod r s hs
    have hp := dsplit s hs
    simp only [dshrs, dval, Int.toNat_natCast]
    rw [ih, ← hm, ← hp, Nat.mul_assoc (2 ^ s) _ (dval r / 2 ^ s), Nat.mul_assoc (2 ^ s) _ (dval r), Nat.add_mul_div_left _ _ (Nat.two_pow_pos s)]
    have e := Nat.div_add_mod (dval r) (2 ^ s)
    have e2 : 2 ^ (16 - s) * dval r = 2 ^ s * (2 ^ (16 - s) * (dval r / 2 ^ s)) + dval r % 2 ^ s * 2 ^ (16 - s) := by
      rw [← e, Nat.mul_add, e, Nat.mul_left_comm, Nat.mul_comm (2 ^ (16 - s)) (dval r % 2 ^ s)]
    omega
theorem dshrs_lim (s : Nat) (hs : s < 16) : ∀ d : List Int, Dig d → Dig (dshrs s d)
  | [], _ => fun x hx => absurd hx List.not_mem_nil
  | x :: r, h => by
    have ih := dshrs_lim s hs r (fun z hz => h z (List.mem_cons_of_mem _ hz))
    have hx := h x List.mem_cons_self
    have hl := dlimb_shr x.toNat (r.getD 0 0).toNat s hs (by omega)
    intro z hz
    simp only [dshrs] at hz
    rcases List.mem_cons.1 hz with h1 | h1
    · obtain ⟨m, hm⟩ : ∃ m : Nat, m = x.toNat / 2 ^ s + (r.getD 0 0).toNat % 2 ^ s * 2 ^ (16 - s) := ⟨_, rfl⟩
      have h2 := hl.2
      rw [← hm] at h1 h2
      omega
    · exact ih z h1
theorem ddrop_val (l : List Int) (q : Nat) (h : Dig l) : dval (l.drop q) = dval l / 65536 ^ q := by
  by_cases c : q ≤ l.length
  · have e := dval_app (l.take q) (l.drop q)
    rw [List.take_append_drop, List.length_take, Nat.min_eq_left c] at e
    have hlt := dval_lt (l.take q) (fun z hz => h z (List.mem_of_mem_take hz))
    rw [List.length_take, Nat.min_eq_left c] at hlt
    rw [e, Nat.add_mul_div_left _ _ (Nat.pow_pos (by decide)), Nat.div_eq_of_lt hlt, Nat.zero_add]
  · rw [List.drop_eq_nil_of_le (by omega)]
    have hlt := dval_lt l h
    have hp : 65536 ^ l.length ≤ 65536 ^ q := Nat.pow_le_pow_right (by decide) (by omega)
    rw [Nat.div_eq_of_lt (by omega)]
    rfl
theorem dpow_two (q s : Nat) : 65536 ^ q * 2 ^ s = 2 ^ (16 * q + s) := by
  rw [Nat.pow_add, Nat.pow_mul]
theorem dshrs_drop (l : List Int) (h : Dig l) (n : Nat) : dval (dshrs (n % 16) (l.drop (n / 16))) = dval l / 2 ^ n := by
  rw [dshrs_val _ (Nat.mod_lt _ (by decide)) _ (fun z hz => h z (List.mem_of_mem_drop hz)), ddrop_val l _ h, Nat.div_div_eq_div_mul, dpow_two, Nat.div_add_mod]
theorem and_u32' (a : Nat) (h : a < 4294967296) : Go.bits .and .u32 (a : Int) 65535 = ((a % 65536 : Nat) : Int) := by
  rw [and_u32 _ (by omega)]; omega
theorem shl_u32 (y s : Nat) (hs : s ≤ 16) (hy : y < 65536) : shl .u32 (y : Int) (s : Int) = ((y * 2 ^ s : Nat) : Int) ∧ y * 2 ^ s < 4294967296 := by
  have hp : 2 ^ s ≤ 65536 := Nat.pow_le_pow_right (by decide) hs
  have hm : y * 2 ^ s ≤ 65535 * 65536 := Nat.mul_le_mul (by omega) hp
  refine ⟨?_, by omega⟩
  unfold shl
  rw [Int.toNat_natCast, Nat.min_eq_left (show s ≤ IntKind.u32.bits by show s ≤ 32; omega), IntKind.wrap_u32]
  have a2 : ((2 : Int)) ^ s = ((2 ^ s : Nat) : Int) := by rw [Int.natCast_pow]; rfl
  rw [a2, ← Int.natCast_mul]
  generalize y * 2 ^ s = z at hm ⊢
  omega
theorem shr_u32 (x s : Nat) (hs : s ≤ 16) : shr .u32 (x : Int) (s : Int) = ((x / 2 ^ s : Nat) : Int) := by
  unfold shr
  rw [Int.toNat_natCast, Nat.min_eq_left (show s ≤ IntKind.u32.bits by show s ≤ 32; omega), Int.natCast_ediv, Int.natCast_pow]
  rfl
theorem shr_dig (x t s : Nat) (hs : s < 16) (hx : x < 65536) (ht : t < 65536) :
    Go.bits .or .u32 (shr .u32 (x : Int) (s : Int)) (Go.bits .and .u32 (shl .u32 (t : Int) (wrap64 (16 - (s : Int)))) 65535) = ((x / 2 ^ s + t % 2 ^ s * 2 ^ (16 - s) : Nat) : Int) := by
  have hp := dsplit s hs
  have hl := dlimb_shr x t s hs hx
  have w1 : wrap64 (16 - (s : Int)) = ((16 - s : Nat) : Int) := by unfold wrap64; omega
  have e2 := shl_u32 t (16 - s) (by omega) ht
  have a3 : t * 2 ^ (16 - s) % 65536 = t % 2 ^ s * 2 ^ (16 - s) := by
    rw [← hp, Nat.mul_mod_mul_right]
  rw [shr_u32 x s (by omega), w1, e2.1, and_u32' _ e2.2, a3]
  have ho := or_add (x / 2 ^ s) (t % 2 ^ s) (16 - s) hl.1
  have hl3 := Nat.lt_trans hl.2 (show 65536 < 4294967296 by decide)
  rw [or_u32 (x / 2 ^ s) (t % 2 ^ s * 2 ^ (16 - s)) (Nat.lt_of_le_of_lt (Nat.le_add_right _ _) hl3) (Nat.lt_of_le_of_lt (Nat.le_add_left _ _) hl3) (by rw [ho]; exact hl3), ho]
/-- A digit shifted to the left, what was carried laid below. -/
theorem shl_dig (x c s : Nat) (hs : s < 16) (hx : x < 65536) (hc : c < 2 ^ s) : Go.bits .or .u32 (shl .u32 (x : Int) (s : Int)) (c : Int) = ((x * 2 ^ s + c : Nat) : Int) ∧ x * 2 ^ s + c < 4294967296 ∧ (x * 2 ^ s + c) / 65536 < 2 ^ s := by
  have e := shl_u32 x s (by omega) hx
  have hp : 2 ^ s ≤ 32768 := Nat.pow_le_pow_right (show 0 < 2 by decide) (show s ≤ 15 by omega)
  have hm : (x + 1) * 2 ^ s ≤ 65536 * 2 ^ s := Nat.mul_le_mul_right _ (by omega)
  have hlt : x * 2 ^ s + c < 65536 * 2 ^ s := by rw [Nat.add_mul, Nat.one_mul] at hm; omega
  have ho := or_add c x s hc
  rw [Nat.or_comm, Nat.add_comm] at ho
  rw [e.1, or_u32 _ _ e.2 (by omega) (by rw [ho]; omega), ho]
  refine ⟨rfl, by omega, ?_⟩
  exact Nat.div_lt_of_lt_mul hlt
theorem rShl_val (q i a c s V W : Nat) (hv : V + 65536 ^ (q + i) * c = 65536 ^ q * (W * 2 ^ s)) :
    V + 65536 ^ (q + i) * ((a * 2 ^ s + c) % 65536) + 65536 ^ (q + (i + 1)) * ((a * 2 ^ s + c) / 65536) = 65536 ^ q * ((W + 65536 ^ i * a) * 2 ^ s) := by
  have e5 : 65536 ^ q * (65536 ^ i * a * 2 ^ s) = 65536 ^ (q + i) * (a * 2 ^ s) := by
    rw [Nat.pow_add, Nat.mul_assoc, Nat.mul_assoc]
  rw [Nat.add_mul, Nat.mul_add (65536 ^ q), ← hv, e5, ← Nat.add_assoc q i 1, Nat.pow_succ, Nat.mul_assoc, Nat.add_assoc, ← Nat.mul_add, Nat.mod_add_div, Nat.mul_add]
  clear hv e5
  generalize 65536 ^ (q + i) * (a * 2 ^ s) = z1
  generalize 65536 ^ (q + i) * c = z2
  omega
theorem rShl_one (l : List Int) (hl : Dig l) (n : Nat) (hn : n < 9223372036854775808) (K i : Nat) (hi : i < l.length) (o : List Int) (c : Nat) (ho : o.length < 35184372088832) (hb : i ≤ 35184372088830) (hc : c < 2 ^ (n % 16)) :
    ∃ a : Nat, l.getD i 0 = a ∧ quipuref01_Shl.l0 (K + 1) l (n : Int) o (c : Int) (i : Int) = quipuref01_Shl.l0 K l (n : Int) (o ++ [(((a * 2 ^ (n % 16) + c) % 65536 : Nat) : Int)]) (((a * 2 ^ (n % 16) + c) / 65536 : Nat) : Int) ((i + 1 : Nat) : Int) ∧ (a * 2 ^ (n % 16) + c) / 65536 < 2 ^ (n % 16) := by
  have hm : Int.tmod (n : Int) 16 = ((n % 16 : Nat) : Int) := by rw [Int.tmod_eq_emod_of_nonneg (by omega)]; omega
  have hs : n % 16 < 16 := Nat.mod_lt _ (by decide)
  have q1 : (i : Int) < (l.length : Int) := by omega
  have q2 : (0 : Int) ≤ (i : Int) := by omega
  have q3 : (0 : Int) ≤ ((n % 16 : Nat) : Int) := by omega
  have w2 : wrap64 ((i : Int) + 1) = ((i + 1 : Nat) : Int) := by unfold wrap64; omega
  have r1 : rd l (i : Int) = l.getD i 0 := rfl
  have hx0 := hl.getD i
  obtain ⟨a, ha⟩ : ∃ a : Nat, l.getD i 0 = a := ⟨(l.getD i 0).toNat, by omega⟩
  rw [ha] at hx0
  have hd := shl_dig a c (n % 16) hs (by omega) hc
  have e3 : ((a * 2 ^ (n % 16) + c : Nat) : Int) / 65536 = (((a * 2 ^ (n % 16) + c) / 65536 : Nat) : Int) := by
    generalize a * 2 ^ (n % 16) + c = z
    omega
  refine ⟨a, ha, ?_, hd.2.2⟩
  simp only [quipuref01_Shl.l0]
  rw [if_pos q1, if_pos q2, hm, if_pos q3, if_pos ho, r1, ha, hd.1, and_u32' _ hd.2.1, e3, w2]
theorem rShl_loop (l : List Int) (hl : Dig l) (n : Nat) (hn : n < 9223372036854775808) (K q : Nat) : ∀ (d i : Nat) (o : List Int) (c : Nat), i + d = l.length → o.length = q + i → q + l.length < 35184372088830 → Dig o → c < 2 ^ (n % 16) →
    dval o + 65536 ^ (q + i) * c = 65536 ^ q * (dval (l.take i) * 2 ^ (n % 16)) →
    ∃ o', quipuref01_Shl.l0 (K + d + 1) l (n : Int) o (c : Int) (i : Int) = (quipuref01_trim.f K o').bind (fun t => some t) ∧ o'.length = q + l.length + 1 ∧ Dig o' ∧ dval o' = 65536 ^ q * (dval l * 2 ^ (n % 16)) := by
  have hs : n % 16 < 16 := Nat.mod_lt _ (by decide)
  have hp : 2 ^ (n % 16) ≤ 65536 := Nat.pow_le_pow_right (show 0 < 2 by decide) (show n % 16 ≤ 16 by omega)
  intro d
  induction d with
  | zero =>
    intro i o c hi hol hob ho hc hv
    have hil : i = l.length := by clear hv; omega
    have hc1 : c < 65536 := Nat.lt_of_lt_of_le hc hp
    have q1 : ¬ (i : Int) < (l.length : Int) := by clear hv; omega
    have q4 : o.length < 35184372088832 := by clear hv; omega
    have hol2 : (o ++ [(c : Int)]).length = q + l.length + 1 := by rw [List.length_append, hol, hil]; rfl
    have hc2 : (0 : Int) ≤ (c : Int) ∧ (c : Int) < 65536 := by clear hv; omega
    refine ⟨o ++ [(c : Int)], ?_, hol2, ho.app (Dig.one hc2.1 hc2.2), ?_⟩
    · simp only [quipuref01_Shl.l0]
      rw [if_neg q1, if_pos q4]
    · rw [dval_app, dval_one, hol, Int.toNat_natCast, hv, hil, List.take_length]
  | succ d ih =>
    intro i o c hi hol hob ho hc hv
    have q5 : i < l.length := by clear hv ih; omega
    have q4 : o.length < 35184372088832 := by clear hv ih; omega
    have q6 : i ≤ 35184372088830 := by clear hv ih; omega
    have q7 : i + 1 + d = l.length := by clear hv ih; omega
    obtain ⟨a, ha, hrun, hc'⟩ := rShl_one l hl n hn (K + d + 1) i q5 o c q4 q6 hc
    have hlen : (o ++ [(((a * 2 ^ (n % 16) + c) % 65536 : Nat) : Int)]).length = q + (i + 1) := by rw [List.length_append, hol]; rfl
    have hz : (0 : Int) ≤ (((a * 2 ^ (n % 16) + c) % 65536 : Nat) : Int) ∧ (((a * 2 ^ (n % 16) + c) % 65536 : Nat) : Int) < 65536 := by
      clear hv ih hrun hc' hlen
      generalize a * 2 ^ (n % 16) + c = z
      omega
    have hv2 : dval (o ++ [(((a * 2 ^ (n % 16) + c) % 65536 : Nat) : Int)]) + 65536 ^ (q + (i + 1)) * ((a * 2 ^ (n % 16) + c) / 65536) = 65536 ^ q * (dval (l.take (i + 1)) * 2 ^ (n % 16)) := by
      rw [dval_app, dval_one, hol, Int.toNat_natCast, dtake_getD, ha, Int.toNat_natCast]
      exact rShl_val q i a c (n % 16) _ _ hv
    obtain ⟨o', h1, h2⟩ := ih (i + 1) _ _ q7 hlen hob (ho.app (Dig.one hz.1 hz.2)) hc' hv2
    exact ⟨o', hrun.trans h1, h2⟩
theorem rShl_ge (m : Nat) (n : Nat) (hn : n ≤ 65536) (hb : (digs m).length ≤ 35184372080000) (K : Nat) (hK : 2 * (digs m).length + 5000 ≤ K) : quipuref01_Shl.f K (digs m) (n : Int) = some (digs (m * 2 ^ n)) := by
  unfold quipuref01_Shl.f
  have ht := rtrim_eq (digs m) (digs_lim m) (by omega) (K - (digs m).length - 1)
  rw [show K - (digs m).length - 1 + (digs m).length + 1 = K by omega, digs_dval] at ht
  rw [ht, Option.bind_some]
  by_cases c : m = 0
  · subst c
    rw [Nat.zero_mul]
    rfl
  · have hne : (digs m).length ≠ 0 := by
      rw [digs_step m c]; simp
    have w1 : wrap64 (Int.tdiv (n : Int) 16) = ((n / 16 : Nat) : Int) := by
      rw [Int.tdiv_eq_ediv_of_nonneg (by omega)]; unfold wrap64; omega
    rw [if_neg (by omega), w1, if_pos (by omega), Int.toNat_natCast, if_pos (by omega)]
    obtain ⟨o', h1, h2, h3, h4⟩ := rShl_loop (digs m) (digs_lim m) n (by omega) (K - (digs m).length - 1) (n / 16) (digs m).length 0 (List.replicate (n / 16) 0) 0 (by omega) (by simp) (by omega) (fun x hx => by rw [List.eq_of_mem_replicate hx]; decide) (Nat.two_pow_pos _) (by
      have hz : ∀ k : Nat, dval (List.replicate k 0) = 0 := fun k => by
        induction k with
        | zero => rfl
        | succ k ih => rw [List.replicate_succ]; simp [dval, ih]
      rw [hz]; simp [dval])
    rw [show K - (digs m).length - 1 + (digs m).length + 1 = K by omega] at h1
    have ht2 := rtrim_eq o' h3 (by omega) (K - (digs m).length - 1 - o'.length - 1)
    rw [show K - (digs m).length - 1 - o'.length - 1 + o'.length + 1 = K - (digs m).length - 1 by omega] at ht2
    have h1' : quipuref01_Shl.l0 K (digs m) (n : Int) (List.replicate (n / 16) 0) 0 0 = (quipuref01_trim.f (K - (digs m).length - 1) o').bind (fun t => some t) := h1
    rw [h1', ht2, h4, digs_dval, Option.bind_some]
    congr 2
    rw [Nat.mul_left_comm, dpow_two, Nat.div_add_mod]
open Go.RowKit Go.Proofs.YtfaknblpkegekaaW.PrintWords Go.Proofs.YtfaknblpkegekaaW.PrintLast Go.Proofs.YtfaknblpkegekaaW.PrintMore
set_option linter.unusedVariables false
theorem dval_set : ∀ (l : List Int) (j : Nat) (y : Int), j < l.length → dval (l.set j y) + 65536 ^ j * (l.getD j 0).toNat = dval l + 65536 ^ j * y.toNat
  | x :: l, 0, y, _ => by
    simp only [List.set_cons_zero, dval, List.getD_cons_zero, Nat.pow_zero, Nat.one_mul]
    omega
  | x :: l, j + 1, y, h => by
    have ih := dval_set l j y (by simpa using h)
    simp only [List.set_cons_succ, dval, List.getD_cons_succ]
    rw [Nat.pow_succ, Nat.mul_comm (65536 ^ j) 65536, Nat.mul_assoc, Nat.mul_assoc]
    omega
theorem dig_set {l : List Int} (h : Dig l) (j : Nat) (y : Int) (hy : 0 ≤ y ∧ y < 65536) : Dig (l.set j y) := fun z hz => by
  rcases List.mem_or_eq_of_mem_set hz with h1 | h1
  · exact h z h1
  · rw [h1]; exact hy
theorem dval_zero : ∀ n : Nat, dval (List.replicate n 0) = 0
  | 0 => rfl
  | n + 1 => by rw [List.replicate_succ]; simp [dval, dval_zero n]
theorem dzero (n : Nat) : Dig (List.replicate n 0) := fun x hx => by
  rw [List.eq_of_mem_replicate hx]; decide
theorem rtrim_ge (l : List Int) (h : Dig l) (hb : l.length ≤ 9223372036854775806) (K : Nat) (hK : l.length + 1 ≤ K) : quipuref01_trim.f K l = some (digs (dval l)) := by
  have := rtrim_eq l h (by omega) (K - l.length - 1)
  rwa [show K - l.length - 1 + l.length + 1 = K by omega] at this
open Go.RowKit Go.Proofs.YtfaknblpkegekaaW.PrintWords Go.Proofs.YtfaknblpkegekaaW.PrintLast Go.Proofs.YtfaknblpkegekaaW.PrintMore
set_option linter.unusedVariables false
/-- A digit of a row. -/
theorem digit_at (l : List Int) (h : Dig l) (d : Nat) : (l.getD d 0).toNat = dval l / 65536 ^ d % 65536 := by
  rw [← ddrop_val l d h]
  by_cases c : d < l.length
  · rw [List.drop_eq_getElem_cons c]
    simp only [dval]
    have hx := h.getD d
    have e : l[d]'c = l.getD d 0 := by rw [List.getD_eq_getElem?_getD, List.getElem?_eq_getElem c]; rfl
    rw [e]
    omega
  · rw [List.drop_eq_nil_of_le (by omega), List.getD_eq_getElem?_getD, List.getElem?_eq_none (by omega)]
    rfl
theorem bit_at (l : List Int) (h : Dig l) (i : Nat) : (l.getD (i / 16) 0).toNat / 2 ^ (i % 16) % 2 = dval l / 2 ^ i % 2 := by
  rw [digit_at l h]
  obtain ⟨d, hd⟩ : ∃ d, d = i / 16 := ⟨_, rfl⟩
  obtain ⟨s, hs⟩ : ∃ s, s = i % 16 := ⟨_, rfl⟩
  have hi : i = 16 * d + s := by omega
  have hs16 : s < 16 := by omega
  rw [← hd, ← hs, hi, Nat.pow_add, Nat.pow_mul, show (2 : Nat) ^ 16 = 65536 by decide, ← Nat.div_div_eq_div_mul]
  generalize dval l / 65536 ^ d = z
  -- z % 65536 / 2^s % 2 = z / 2^s % 2
  have hp : 2 ^ s * 2 ^ (16 - s) = 65536 := by rw [← Nat.pow_add, show s + (16 - s) = 16 by omega]
  obtain ⟨t, ht⟩ : ∃ t, 16 - s = t + 1 := ⟨15 - s, by omega⟩
  rw [ht, Nat.pow_succ] at hp
  rw [← hp, Nat.mod_mul_right_div_self, Nat.mod_mul_left_mod]
/-- A bit laid into a digit whose low bits are noughts. -/
theorem bit_lay (x s : Nat) (hs : s < 16) (hx : x < 65536) (hz : x % 2 ^ (s + 1) = 0) : Go.bits .or .u32 (x : Int) (shl .u32 1 (s : Int)) = ((x + 2 ^ s : Nat) : Int) ∧ x + 2 ^ s < 65536 := by
  have e := shl_u32 1 s (by omega) (by decide)
  rw [Nat.one_mul] at e
  have hp : 2 ^ (s + 1) * 2 ^ (15 - s) = 65536 := by rw [← Nat.pow_add, show s + 1 + (15 - s) = 16 by omega]
  have hd := Nat.div_add_mod x (2 ^ (s + 1))
  rw [hz, Nat.add_zero] at hd
  have hlt : 2 ^ s < 2 ^ (s + 1) := by rw [Nat.pow_succ]; have := Nat.two_pow_pos s; omega
  have ho := or_add (2 ^ s) (x / 2 ^ (s + 1)) (s + 1) hlt
  rw [Nat.mul_comm, hd, Nat.or_comm, Nat.add_comm] at ho
  have hb : x + 2 ^ s < 65536 := by
    have h1 : x / 2 ^ (s + 1) < 2 ^ (15 - s) := Nat.div_lt_of_lt_mul (by rw [hp]; exact hx)
    have h2 : 2 ^ (s + 1) * (x / 2 ^ (s + 1) + 1) ≤ 2 ^ (s + 1) * 2 ^ (15 - s) := Nat.mul_le_mul_left _ h1
    rw [Nat.mul_add, hd, hp, Nat.mul_one] at h2
    omega
  have e1 : (1 : Int) = ((1 : Nat) : Int) := rfl
  rw [e1, e.1, or_u32 x (2 ^ s) (by omega) (by omega) (by rw [ho]; omega), ho]
  exact ⟨rfl, hb⟩
theorem and_one (x : Nat) (h : x < 4294967296) : Go.bits .and .u32 (x : Int) 1 = ((x % 2 : Nat) : Int) := by
  have ha : x < 2 ^ 32 := by omega
  have e1 : (1 : Int) = ((2 ^ 1 - 1 : Nat) : Int) := by decide
  simp only [Go.bits]
  rw [e1, BitVec.ofInt_natCast, BitVec.ofInt_natCast, BitVec.toNat_and, BitVec.toNat_ofNat, BitVec.toNat_ofNat]
  have hb : IntKind.u32.bits = 32 := rfl
  rw [hb, Nat.mod_eq_of_lt ha, Nat.mod_eq_of_lt (by decide : 2 ^ 1 - 1 < 2 ^ 32), Nat.and_two_pow_sub_one_eq_mod, IntKind.wrap_u32]
  omega
theorem div_up (M B bit : Nat) (hB : 0 < B) (hb : bit < 2) : (B ≤ 2 * (M % B) + bit → (2 * M + bit) / B = 2 * (M / B) + 1 ∧ (2 * M + bit) % B = 2 * (M % B) + bit - B) ∧ (2 * (M % B) + bit < B → (2 * M + bit) / B = 2 * (M / B) ∧ (2 * M + bit) % B = 2 * (M % B) + bit) := by
  have e := Nat.div_add_mod M B
  have hr := Nat.mod_lt M hB
  obtain ⟨q, hq⟩ : ∃ q, q = M / B := ⟨_, rfl⟩
  obtain ⟨r, hre⟩ : ∃ r, r = M % B := ⟨_, rfl⟩
  rw [← hq, ← hre] at e
  rw [← hre] at hr
  rw [← hq, ← hre]
  have e2 : 2 * M + bit = (2 * r + bit) + B * (2 * q) := by rw [Nat.mul_left_comm B 2 q]; generalize B * q = z at *; omega
  constructor
  · intro h
    have e3 : 2 * M + bit = (2 * r + bit - B) + B * (2 * q + 1) := by rw [e2, Nat.mul_add B (2 * q) 1, Nat.mul_one]; generalize B * (2 * q) = z at *; omega
    have h1 : (2 * M + bit) / B = (2 * r + bit - B) / B + (2 * q + 1) := by rw [e3]; exact Nat.add_mul_div_left _ _ hB
    have h2 : (2 * M + bit) % B = (2 * r + bit - B) % B := by rw [e3]; exact Nat.add_mul_mod_self_left _ _ _
    have h4 : 2 * r + bit - B < B := by clear e e2 e3 h1 h2; omega
    rw [Nat.div_eq_of_lt h4, Nat.zero_add] at h1
    rw [Nat.mod_eq_of_lt h4] at h2
    exact ⟨h1, h2⟩
  · intro h
    have h1 : (2 * M + bit) / B = (2 * r + bit) / B + (2 * q) := by rw [e2]; exact Nat.add_mul_div_left _ _ hB
    have h2 : (2 * M + bit) % B = (2 * r + bit) % B := by rw [e2]; exact Nat.add_mul_mod_self_left _ _ _
    rw [Nat.div_eq_of_lt h, Nat.zero_add] at h1
    rw [Nat.mod_eq_of_lt h] at h2
    exact ⟨h1, h2⟩
theorem rcmp_ge (a b : Nat) (hbx : (digs a).length ≤ 8796093022208) (hby : (digs b).length ≤ 8796093022208) (K : Nat) (hK : (digs a).length + (digs b).length + 2 ≤ K) : quipuref01_Cmp.f K (digs a) (digs b) = some (cmpN a b) := by
  have h := rCmp_eq (digs a) (digs b) (digs_lim a) (digs_lim b) hbx hby (K - (digs a).length - (digs b).length - 2)
  rwa [show K - (digs a).length - (digs b).length - 2 + (digs a).length + (digs b).length + 2 = K by omega, digs_dval, digs_dval] at h
theorem digs_short' (n L : Nat) (h : n < 65536 ^ L) : (digs n).length ≤ L := digs_len n L h
set_option maxHeartbeats 4000000 in
theorem bits_step (A : List Int) (hA : Dig A) (Bv : Nat) (hB : 0 < Bv) (lA : A.length ≤ 8000000) (lB : (digs Bv).length ≤ 8000000) (i : Nat) (hi : i < 16 * A.length) (q : List Int) (hq : Dig q) (hl : q.length = A.length)
    (hv : dval q = dval A / 2 ^ (i + 1) / Bv * 2 ^ (i + 1)) (K : Nat) (hK : 100000000 ≤ K) :
    ∃ q', quipuref01_DivMod.l0 (K + 1 + 1) A (digs Bv) q (digs (dval A / 2 ^ (i + 1) % Bv)) (i : Int) = quipuref01_DivMod.l0 K A (digs Bv) q' (digs (dval A / 2 ^ i % Bv)) ((i : Int) - 1) ∧ Dig q' ∧ q'.length = A.length ∧ dval q' = dval A / 2 ^ i / Bv * 2 ^ i := by
  obtain ⟨M, hM⟩ : ∃ M, M = dval A / 2 ^ (i + 1) := ⟨_, rfl⟩
  obtain ⟨bit, hbit⟩ : ∃ bit, bit = dval A / 2 ^ i % 2 := ⟨_, rfl⟩
  have hb2 : bit < 2 := by rw [hbit]; exact Nat.mod_lt _ (by decide)
  have hN : dval A / 2 ^ i = 2 * M + bit := by
    have e1 : M = dval A / 2 ^ i / 2 := by rw [hM, Nat.pow_succ, Nat.div_div_eq_div_mul]
    have := Nat.div_add_mod (dval A / 2 ^ i) 2
    rw [← hbit, ← e1] at this
    exact this.symm
  have hup := div_up M Bv bit hB hb2
  rw [← hM] at hv ⊢
  rw [hN]
  have hr := Nat.mod_lt M hB
  obtain ⟨r, hre⟩ : ∃ r, r = M % Bv := ⟨_, rfl⟩
  rw [← hre] at hup hr ⊢
  have HV := Aside0.mk hv
  have HUP := Aside0.mk hup
  have HBIT := Aside0.mk hbit
  clear hv hup hbit hN hM hre
  have hBL : Bv < 65536 ^ (digs Bv).length := by have := dval_lt (digs Bv) (digs_lim Bv); rw [digs_dval] at this; exact this
  have two : ∀ x : Nat, x ≤ 2 * r + 1 → (digs x).length ≤ (digs Bv).length + 1 := fun x hx => digs_len x _ (by
    rw [Nat.pow_succ]
    generalize 65536 ^ (digs Bv).length = P at *
    omega)
  have lr : (digs r).length ≤ (digs Bv).length + 1 := two r (by omega)
  have l2r : (digs (r * 2 ^ 1)).length ≤ (digs Bv).length + 1 := two _ (by omega)
  have lb : (digs (2 * r + bit)).length ≤ (digs Bv).length + 1 := two _ (by omega)
  clear two hBL
  have hsh := rShl_ge r 1 (by decide) (by omega) (K + 1) (by omega)
  -- the index and the bit
  obtain ⟨d, hd⟩ : ∃ d, d = i / 16 := ⟨_, rfl⟩
  obtain ⟨s, hs⟩ : ∃ s, s = i % 16 := ⟨_, rfl⟩
  have his : i = 16 * d + s := by omega
  have hs16 : s < 16 := by omega
  have W1 := Aside0.mk (show wrap64 (Int.tdiv (i : Int) 16) = (d : Int) from by rw [Int.tdiv_eq_ediv_of_nonneg (Int.natCast_nonneg i)]; unfold wrap64; omega)
  have W2 := Aside0.mk (show Int.tmod (i : Int) 16 = (s : Int) from by rw [Int.tmod_eq_emod_of_nonneg (Int.natCast_nonneg i)]; omega)
  have W3 := Aside0.mk (show wrap64 ((i : Int) - 1) = (i : Int) - 1 from by unfold wrap64; omega)
  have hx := hA.getD d
  obtain ⟨x, hxe⟩ : ∃ x : Nat, A.getD d 0 = x := ⟨(A.getD d 0).toNat, by omega⟩
  have hbx : x / 2 ^ s % 2 = bit := by
    have := bit_at A hA i
    rw [← hd, ← hs, hxe, Int.toNat_natCast, ← HBIT.out] at this
    exact this
  rw [hxe] at hx
  have ebit : Go.bits .and .u32 (shr .u32 (rd A (d : Int)) (s : Int)) 1 = (bit : Int) := by
    have e1 : rd A (d : Int) = (x : Int) := hxe
    rw [e1, shr_u32 x s (by omega), and_one _ (by have := Nat.div_le_self x (2 ^ s); clear hbx; omega), hbx]
  have q1 : (i : Int) ≥ 0 := by omega
  have q2 : (0 : Int) ≤ (d : Int) := by omega
  have q3 : (d : Int) < (A.length : Int) := by omega
  have q4 : (0 : Int) ≤ (s : Int) := by omega
  have q5 : (d : Int) < (q.length : Int) := by omega
  have hrun : quipuref01_DivMod.l0 (K + 1 + 1) A (digs Bv) q (digs r) (i : Int) = quipuref01_DivMod.j1 (K + 1) A (digs Bv) q (digs (2 * r + bit)) (i : Int) := by
    simp only [quipuref01_DivMod.l0]
    have e1 : (1 : Int) = ((1 : Nat) : Int) := rfl
    rw [if_pos q1, show quipuref01_Shl.f (K + 1) (digs r) 1 = some (digs (r * 2 ^ 1)) from hsh, Option.bind_some, W1.out, W2.out, if_pos q2, if_pos q3, if_pos q4, ebit]
    by_cases cb : bit = 1
    · have had : quipuref01_Add.f (digs (r * 2 ^ 1)) [1] = some (digs (2 * r + bit)) := by
        unfold quipuref01_Add.f
        rw [wfd_in (digs_lim _) (by omega), wfd_in (Dig.one (by decide) (by decide)) (by simp), digs_dval]
        have e2 : dval [1] = 1 := by simp [dval]
        rw [e2, cb, Nat.pow_one, Nat.mul_comm r 2]
        rfl
      rw [if_pos (by rw [cb]; rfl), had, Option.bind_some]
    · have hb0 : bit = 0 := by omega
      have e3 : r * 2 ^ 1 = 2 * r + bit := by rw [hb0, Nat.pow_one, Nat.mul_comm r 2]; rfl
      rw [if_neg (by rw [hb0]; decide), e3]
  have hcm := rcmp_ge (2 * r + bit) Bv (by omega) (by omega) K (by omega)
  by_cases c : Bv ≤ 2 * r + bit
  · obtain ⟨hdiv, hmod⟩ := HUP.out.1 c
    have hcn : cmpN (2 * r + bit) Bv ≥ 0 := by unfold cmpN; rw [if_neg (by clear hdiv hmod; omega)]; split <;> decide
    have hsub : quipuref01_Sub.f (digs (2 * r + bit)) (digs Bv) = some (digs (2 * r + bit - Bv)) := by
      have hle : (digs Bv).length ≤ (digs (2 * r + bit)).length := by
        rcases Nat.lt_or_ge (digs (2 * r + bit)).length (digs Bv).length with h | h
        · exact absurd (digs_len_lt h) (by clear hdiv hmod; omega)
        · exact h
      unfold quipuref01_Sub.f
      rw [wfd_in (digs_lim _) (by omega), wfd_in (digs_lim _) (by omega), digs_dval, digs_dval, decide_eq_true c, decide_eq_true hle]
      rfl
    have hyq := hq.getD d
    obtain ⟨y, hye⟩ : ∃ y : Nat, q.getD d 0 = y := ⟨(q.getD d 0).toNat, by clear hdiv hmod; omega⟩
    rw [hye] at hyq
    have hyz : y % 2 ^ (s + 1) = 0 := by
      have h1 := digit_at q hq d
      rw [hye, Int.toNat_natCast, HV.out, his, show 16 * d + s + 1 = 16 * d + (s + 1) from rfl, Nat.pow_add, Nat.pow_mul, show (2 : Nat) ^ 16 = 65536 by decide, Nat.mul_left_comm, Nat.mul_div_cancel_left _ (Nat.pow_pos (by decide))] at h1
      rw [h1]
      have hp : 2 ^ (s + 1) * 2 ^ (15 - s) = 65536 := by rw [← Nat.pow_add, show s + 1 + (15 - s) = 16 by omega]
      rw [← hp, Nat.mod_mul_right_mod, Nat.mul_mod_left]
    have hlay := bit_lay y s hs16 (by clear hdiv hmod; omega) hyz
    refine ⟨q.set d ((y + 2 ^ s : Nat) : Int), ?_, dig_set hq d ((y + 2 ^ s : Nat) : Int) ⟨Int.natCast_nonneg _, Int.ofNat_lt.2 hlay.2⟩, by rw [List.length_set]; exact hl, ?_⟩
    · rw [hrun]
      simp only [quipuref01_DivMod.j1]
      have e1 : rd q (d : Int) = (y : Int) := hye
      rw [hcm, Option.bind_some, if_pos hcn, hsub, Option.bind_some, W1.out, W2.out, W3.out, if_pos q2, if_pos q5, if_pos q4, e1, hlay.1, Int.toNat_natCast, hmod]
    · have hset := dval_set q d ((y + 2 ^ s : Nat) : Int) (by clear hdiv hmod hyz; omega)
      rw [hye, Int.toNat_natCast, Int.toNat_natCast, Nat.mul_add] at hset
      have h65 : 65536 ^ d * 2 ^ s = 2 ^ i := by rw [his, Nat.pow_add, Nat.pow_mul]
      rw [h65, HV.out] at hset
      rw [hdiv, Nat.add_mul, Nat.one_mul]
      have h2 : M / Bv * 2 ^ (i + 1) = 2 * (M / Bv) * 2 ^ i := by rw [Nat.pow_succ, Nat.mul_comm (2 ^ i) 2, ← Nat.mul_assoc, Nat.mul_comm (M / Bv) 2]
      rw [h2] at hset
      generalize 2 * (M / Bv) * 2 ^ i = z at *
      generalize 65536 ^ d * y = u at *
      omega
  · obtain ⟨hdiv, hmod⟩ := HUP.out.2 (by omega)
    have hcn : ¬ cmpN (2 * r + bit) Bv ≥ 0 := by unfold cmpN; rw [if_pos (by clear hdiv hmod; omega)]; decide
    refine ⟨q, ?_, hq, hl, ?_⟩
    · rw [hrun]
      simp only [quipuref01_DivMod.j1]
      rw [hcm, Option.bind_some, if_neg hcn, W3.out, hmod]
    · rw [hdiv, HV.out, Nat.pow_succ, Nat.mul_comm (2 ^ i) 2, ← Nat.mul_assoc, Nat.mul_comm (M / Bv) 2]
theorem bits_loop (A : List Int) (hA : Dig A) (Bv : Nat) (hB : 0 < Bv) (lA : A.length ≤ 8000000) (lB : (digs Bv).length ≤ 8000000) (K : Nat) (hK : 100000000 ≤ K) : ∀ (j : Nat) (q : List Int), j ≤ 16 * A.length → Dig q → q.length = A.length → dval q = dval A / 2 ^ j / Bv * 2 ^ j →
    quipuref01_DivMod.l0 (K + 2 * j + 1) A (digs Bv) q (digs (dval A / 2 ^ j % Bv)) ((j : Int) - 1) = some (digs (dval A / Bv), digs (dval A % Bv))
  | 0, q, hj, hq, hl, hv => by
    rw [Nat.pow_zero, Nat.div_one, Nat.mul_one] at hv
    simp only [quipuref01_DivMod.l0]
    rw [if_neg (by omega), Nat.pow_zero, Nat.div_one]
    rw [rtrim_ge q hq (by omega) K (by omega), hv]
    rfl
  | i + 1, q, hj, hq, hl, hv => by
    obtain ⟨q', hrun, hq', hl', hv'⟩ := bits_step A hA Bv hB lA lB i (by omega) q hq hl hv (K + 2 * i + 1) (by omega)
    have ih := bits_loop A hA Bv hB lA lB K hK i q' (by omega) hq' hl' hv'
    have e0 : ((i + 1 : Nat) : Int) - 1 = (i : Int) := by omega
    rw [e0, show K + 2 * (i + 1) + 1 = K + 2 * i + 1 + 1 + 1 by omega, hrun]
    exact ih
theorem rDivMod_ge (n Bv : Nat) (hB : 0 < Bv) (ln : (digs n).length ≤ 8000000) (lB : (digs Bv).length ≤ 8000000) (K : Nat) (hK : 1000000000 ≤ K) : quipuref01_DivMod.f K (digs n) (digs Bv) = some (digs (n / Bv), digs (n % Bv)) := by
  unfold quipuref01_DivMod.f
  have w1 : wrap64 (16 * ((digs n).length : Int)) = ((16 * (digs n).length : Nat) : Int) := by unfold wrap64; omega
  have w2 : wrap64 (((16 * (digs n).length : Nat) : Int) - 1) = ((16 * (digs n).length : Nat) : Int) - 1 := by unfold wrap64; omega
  have hmk : ((digs n).length : Int).toNat ≤ 70368744177664 := by rw [Int.toNat_natCast]; omega
  rw [if_pos (by omega), if_pos hmk, Int.toNat_natCast, w1, w2]
  have hlt := dval_lt (digs n) (digs_lim n)
  have h0 : dval (digs n) / 2 ^ (16 * (digs n).length) = 0 := Nat.div_eq_of_lt (by rw [Nat.pow_mul]; exact hlt)
  have h := bits_loop (digs n) (digs_lim n) Bv hB ln lB (K - 2 * (16 * (digs n).length) - 1) (by omega) (16 * (digs n).length) (List.replicate (digs n).length 0) (Nat.le_refl _) (dzero _) (by simp) (by rw [h0, Nat.zero_div, Nat.zero_mul, dval_zero])
  rw [show K - 2 * (16 * (digs n).length) - 1 + 2 * (16 * (digs n).length) + 1 = K by omega, h0, Nat.zero_mod, digs_zero, digs_dval] at h
  exact h
open Go.RowKit Go.Proofs.YtfaknblpkegekaaW.PrintWords Go.Proofs.YtfaknblpkegekaaW.PrintLast Go.Proofs.YtfaknblpkegekaaW.PrintMore
set_option linter.unusedVariables false
theorem NatDivides_true (l0 l1 : List Int) (h0 : Lim l0) (h1 : Lim l1) (n0 : l0.length ≤ 1048576) (n1 : l1.length ≤ 1048576) : ∃ K, quipulaw01_NatDivides.f K l0 l1 = some true := by
  obtain ⟨K, hK⟩ : ∃ K : Nat, K = 10000000000 := ⟨_, rfl⟩
  refine ⟨K + 1, ?_⟩
  have d0 := val_digs_len l0 h0
  have d1 := val_digs_len l1 h1
  have eI1 := In_ge l1 h1 (by omega) (K + 1) (by omega)
  have eI0 := In_ge l0 h0 (by omega) K (by omega)
  have eD : nat_DivMod.f l0 l1 = some (if val l1 = 0 then ([], [], 11) else (limbs (val l0 / val l1), limbs (val l0 % val l1), 0)) := by
    unfold nat_DivMod.f
    rw [wfs_in h0 (by omega), wfs_in h1 (by omega)]
    rfl
  unfold quipulaw01_NatDivides.f
  rw [eD, Option.bind_some, eI1, Option.bind_some, awake_ge (K + 1) (by omega), Option.bind_some, if_pos rfl]
  by_cases c : val l1 = 0
  · rw [if_pos c, c, digs_zero]
    simp only [quipulaw01_NatDivides.j0]
    rfl
  · have hne : (digs (val l1)).length ≠ 0 := by rw [digs_step _ c]; simp
    rw [if_neg c]
    have hb : (((0 : Int) == 11) != (((digs (val l1)).length : Int) == 0)) = false := by
      have : (((digs (val l1)).length : Int) == 0) = false := beq_eq_false_iff_ne.mpr (by omega)
      rw [this]; rfl
    have hv := val_lt l0 h0
    have eR := rDivMod_ge (val l0) (val l1) (by omega) (by omega) (by omega) K (by omega)
    have lq := limbs_len (val l0 / val l1) l0.length (Nat.lt_of_le_of_lt (Nat.div_le_self _ _) hv)
    have lr := limbs_len (val l0 % val l1) l0.length (Nat.lt_of_le_of_lt (Nat.mod_le _ _) hv)
    have dq := digs_len (val l0 / val l1) (4 * l0.length) (by rw [pow_four]; exact Nat.lt_of_le_of_lt (Nat.div_le_self _ _) hv)
    have dr := digs_len (val l0 % val l1) (4 * l0.length) (by rw [pow_four]; exact Nat.lt_of_le_of_lt (Nat.mod_le _ _) hv)
    clear hv
    have oq := Out_ge (val l0 / val l1) (Nat.le_trans dq (by clear d0 d1 lq lr dq dr hne; omega)) K (by rw [hK]; exact Nat.le_trans (Nat.add_le_add_right dq 1) (by clear d0 d1 lq lr dq dr hne; omega))
    have orr := Out_ge (val l0 % val l1) (Nat.le_trans dr (by clear d0 d1 lq lr dq dr hne; omega)) K (by rw [hK]; exact Nat.le_trans (Nat.add_le_add_right dr 1) (by clear d0 d1 lq lr dq dr hne; omega))
    have sq := Same_ge (limbs (val l0 / val l1)) (Nat.le_trans lq (by clear d0 d1 lq lr dq dr hne; omega)) K (by rw [hK]; exact Nat.le_trans (Nat.add_le_add_right lq 1) (by clear d0 d1 lq lr dq dr hne; omega))
    have sr := Same_ge (limbs (val l0 % val l1)) (Nat.le_trans lr (by clear d0 d1 lq lr dq dr hne; omega)) K (by rw [hK]; exact Nat.le_trans (Nat.add_le_add_right lr 1) (by clear d0 d1 lq lr dq dr hne; omega))
    have hl : ¬ ((digs (val l1)).length : Int) = 0 := by omega
    simp only
    rw [hb]
    simp only [quipulaw01_NatDivides.j0]
    rw [if_neg (by decide), if_neg hl, eI0, Option.bind_some, eR, Option.bind_some]
    simp only
    rw [if_pos trivial, oq, Option.bind_some, sq, Option.bind_some, if_pos rfl, orr, Option.bind_some, sr]
    rfl
end Go.Proofs.Ytfaknblpkegekaa.Q
