/- Plain laws: shifts, of limbs and of digits. -/
import Derived.Test.YtfaknblpkegekaaQx3
import Derived.Test.YtfaknblpkegekaaQs
import Derived.Test.YtfaknblpkegekaaQx11
import Derived.Test.YtfaknblpkegekaaNat8
import Derived.Test.YtfaknblpkegekaaNat12
namespace Go.Proofs.Ytfaknblpkegekaa.Q
open Go.RowKit Go.Proofs.YtfaknblpkegekaaW.PrintWords Go.Proofs.YtfaknblpkegekaaW.PrintLast Go.Proofs.YtfaknblpkegekaaW.PrintMore
set_option linter.unusedVariables false
theorem or_u64 (a b : Nat) (ha : a < 18446744073709551616) (hb : b < 18446744073709551616) (hab : a ||| b < 18446744073709551616) : Go.bits .or .u64 (a : Int) (b : Int) = ((a ||| b : Nat) : Int) := by
  have e2 : (2 : Nat) ^ 64 = 18446744073709551616 := by decide
  simp only [Go.bits]
  have hb64 : IntKind.u64.bits = 64 := rfl
  rw [BitVec.ofInt_natCast, BitVec.ofInt_natCast, BitVec.toNat_or, BitVec.toNat_ofNat, BitVec.toNat_ofNat, hb64, Nat.mod_eq_of_lt (by rw [e2]; exact ha), Nat.mod_eq_of_lt (by rw [e2]; exact hb), IntKind.wrap_u64]
  generalize a ||| b = z at hab ⊢
  omega
theorem or_u32 (a b : Nat) (ha : a < 4294967296) (hb : b < 4294967296) (hab : a ||| b < 4294967296) : Go.bits .or .u32 (a : Int) (b : Int) = ((a ||| b : Nat) : Int) := by
  have e2 : (2 : Nat) ^ 32 = 4294967296 := by decide
  simp only [Go.bits]
  have hb64 : IntKind.u32.bits = 32 := rfl
  rw [BitVec.ofInt_natCast, BitVec.ofInt_natCast, BitVec.toNat_or, BitVec.toNat_ofNat, BitVec.toNat_ofNat, hb64, Nat.mod_eq_of_lt (by rw [e2]; exact ha), Nat.mod_eq_of_lt (by rw [e2]; exact hb), IntKind.wrap_u32]
  generalize a ||| b = z at hab ⊢
  omega
/-- Laid side by side. -/
theorem or_add (a b i : Nat) (h : a < 2 ^ i) : a ||| (b * 2 ^ i) = a + b * 2 ^ i := by
  have := Nat.shiftLeft_add_eq_or_of_lt h b
  rw [Nat.shiftLeft_eq] at this
  rw [Nat.or_comm, ← this, Nat.add_comm]
def shrs (s : Nat) : List Int → List Int
  | [] => []
  | x :: r => ((x.toNat / 2 ^ s + (r.getD 0 0).toNat % 2 ^ s * 2 ^ (64 - s) : Nat) : Int) :: shrs s r
theorem shrs_len (s : Nat) : ∀ d : List Int, (shrs s d).length = d.length
  | [] => rfl
  | x :: r => by simp [shrs, shrs_len s r]
theorem split (s : Nat) (hs : s < 64) : 2 ^ s * 2 ^ (64 - s) = 18446744073709551616 := by
  rw [← Nat.pow_add, show s + (64 - s) = 64 by omega]
theorem limb_shr (x t s : Nat) (hs : s < 64) (hx : x < 18446744073709551616) : x / 2 ^ s < 2 ^ (64 - s) ∧ x / 2 ^ s + t % 2 ^ s * 2 ^ (64 - s) < 18446744073709551616 := by
  have hp := split s hs
  have h1 : x / 2 ^ s < 2 ^ (64 - s) := Nat.div_lt_of_lt_mul (by rw [hp]; exact hx)
  have h2 : t % 2 ^ s + 1 ≤ 2 ^ s := Nat.mod_lt _ (Nat.two_pow_pos s)
  have h3 := Nat.mul_le_mul_right (2 ^ (64 - s)) h2
  rw [hp, Nat.add_mul] at h3
  exact ⟨h1, by omega⟩
theorem head_mod (r : List Int) (s : Nat) (hs : s < 64) : val r % 2 ^ s = (r.getD 0 0).toNat % 2 ^ s := by
  cases r with
  | nil => rfl
  | cons y r =>
    simp only [val, List.getD_cons_zero]
    rw [← split s hs, Nat.mul_assoc, Nat.add_mul_mod_self_left]
theorem shrs_val (s : Nat) (hs : s < 64) : ∀ d : List Int, Lim d → val (shrs s d) = val d / 2 ^ s
  | [], _ => by simp [shrs, val]
  | x :: r, h => by
    have ih := shrs_val s hs r (fun z hz => h z (List.mem_cons_of_mem _ hz))
    have hm := head_mod r s hs
    have hp := split s hs
    simp only [shrs, val, Int.toNat_natCast]
    rw [ih, ← hm, ← hp, Nat.mul_assoc (2 ^ s) _ (val r / 2 ^ s), Nat.mul_assoc (2 ^ s) _ (val r), Nat.add_mul_div_left _ _ (Nat.two_pow_pos s)]
    have e := Nat.div_add_mod (val r) (2 ^ s)
    have e2 : 2 ^ (64 - s) * val r = 2 ^ s * (2 ^ (64 - s) * (val r / 2 ^ s)) + val r % 2 ^ s * 2 ^ (64 - s) := by
      rw [← e, Nat.mul_add, e, Nat.mul_left_comm, Nat.mul_comm (2 ^ (64 - s)) (val r % 2 ^ s)]
    omega
theorem shrs_lim (s : Nat) (hs : s < 64) : ∀ d : List Int, Lim d → Lim (shrs s d)
  | [], _ => fun x hx => absurd hx List.not_mem_nil
  | x :: r, h => by
    have ih := shrs_lim s hs r (fun z hz => h z (List.mem_cons_of_mem _ hz))
    have hx := h x List.mem_cons_self
    have hl := limb_shr x.toNat (r.getD 0 0).toNat s hs (by omega)
    intro z hz
    simp only [shrs] at hz
    rcases List.mem_cons.1 hz with h1 | h1
    · obtain ⟨m, hm⟩ : ∃ m : Nat, m = x.toNat / 2 ^ s + (r.getD 0 0).toNat % 2 ^ s * 2 ^ (64 - s) := ⟨_, rfl⟩
      have h2 := hl.2
      rw [← hm] at h1 h2
      omega
    · exact ih z h1
theorem drop_val (l : List Int) (q : Nat) (h : Lim l) : val (l.drop q) = val l / 18446744073709551616 ^ q := by
  by_cases c : q ≤ l.length
  · have e := val_app (l.take q) (l.drop q)
    rw [List.take_append_drop, List.length_take, Nat.min_eq_left c] at e
    have hlt := val_lt (l.take q) (fun z hz => h z (List.mem_of_mem_take hz))
    rw [List.length_take, Nat.min_eq_left c] at hlt
    rw [e, Nat.add_mul_div_left _ _ (Nat.pow_pos (by decide)), Nat.div_eq_of_lt hlt, Nat.zero_add]
  · rw [List.drop_eq_nil_of_le (by omega)]
    have hlt := val_lt l h
    have hp : 18446744073709551616 ^ l.length ≤ 18446744073709551616 ^ q := Nat.pow_le_pow_right (by decide) (by omega)
    rw [Nat.div_eq_of_lt (by omega)]
    rfl
theorem lpow_two (q s : Nat) : 18446744073709551616 ^ q * 2 ^ s = 2 ^ (64 * q + s) := by
  rw [Nat.pow_add, Nat.pow_mul]
theorem shrs_drop (l : List Int) (h : Lim l) (n : Nat) : val (shrs (n % 64) (l.drop (n / 64))) = val l / 2 ^ n := by
  rw [shrs_val _ (Nat.mod_lt _ (by decide)) _ (fun z hz => h z (List.mem_of_mem_drop hz)), drop_val l _ h, Nat.div_div_eq_div_mul, lpow_two, Nat.div_add_mod]
def dshrs (s : Nat) : List Int → List Int
  | [] => []
  | x :: r => ((x.toNat / 2 ^ s + (r.getD 0 0).toNat % 2 ^ s * 2 ^ (16 - s) : Nat) : Int) :: dshrs s r
theorem dshrs_len (s : Nat) : ∀ d : List Int, (dshrs s d).length = d.length
  | [] => rfl
  | x :: r => by simp [dshrs, dshrs_len s r]
theorem dsplit (s : Nat) (hs : s < 16) : 2 ^ s * 2 ^ (16 - s) = 65536 := by
  rw [← Nat.pow_add, show s + (16 - s) = 16 by omega]
theorem dlimb_shr (x t s : Nat) (hs : s < 16) (hx : x < 65536) : x / 2 ^ s < 2 ^ (16 - s) ∧ x / 2 ^ s + t % 2 ^ s * 2 ^ (16 - s) < 65536 := by
  have hp := dsplit s hs
  have h1 : x / 2 ^ s < 2 ^ (16 - s) := Nat.div_lt_of_lt_mul (by rw [hp]; exact hx)
  have h2 : t % 2 ^ s + 1 ≤ 2 ^ s := Nat.mod_lt _ (Nat.two_pow_pos s)
  have h3 := Nat.mul_le_mul_right (2 ^ (16 - s)) h2
  rw [hp, Nat.add_mul] at h3
  exact ⟨h1, by omega⟩
theorem dhead_mod (r : List Int) (s : Nat) (hs : s < 16) : dval r % 2 ^ s = (r.getD 0 0).toNat % 2 ^ s := by
  cases r with
  | nil => rfl
  | cons y r =>
    simp only [dval, List.getD_cons_zero]
    rw [← dsplit s hs, Nat.mul_assoc, Nat.add_mul_mod_self_left]
theorem dshrs_val (s : Nat) (hs : s < 16) : ∀ d : List Int, Dig d → dval (dshrs s d) = dval d / 2 ^ s
  | [], _ => by simp [dshrs, dval]
  | x :: r, h => by
    have ih := dshrs_val s hs r (fun z hz => h z (List.mem_cons_of_mem _ hz))
    have hm := dhead_mod r s hs
    have hp := dsplit s hs
    simp only [dshrs, dval, Int.toNat_natCast]
    rw [ih, ← hm, ← hp, Nat.mul_assoc (2 ^ s) _ (dval r / 2 ^ s), Nat.mul_assoc (2 ^ s) _ (dval r), Nat.add_mul_div_left _ _ (Nat.two_pow_pos s)]
    have e := Nat.div_add_mod (dval r) (2 ^ s)
    have e2 : 2 ^ (16 - s) * dval r = 2 ^ s * (2 ^ (16 - s) * (dval r / 2 ^ s)) + dval r % 2 ^ s * 2 ^ (16 - s) := by
      rw [← e, Nat.mul_add, e, Nat.mul_left_comm, Nat.mul_comm (2 ^ (16 - s)) (dval r % 2 ^ s)]
    omega
theorem dshrs_lim (s : Nat) (hs : s < 16) : ∀ d : List Int, Dig d → Dig (dshrs s d)
  | [], _ => fun x hx => absurd hx List.not_mem_nil
  | x :: r, h => by
    have ih := dshrs_lim s hs r (fun z hz => h z (List.mem_cons_of_mem _ hz))
    have hx := h x List.mem_cons_self
    have hl := dlimb_shr x.toNat (r.getD 0 0).toNat s hs (by omega)
    intro z hz
    simp only [dshrs] at hz
    rcases List.mem_cons.1 hz with h1 | h1
    · obtain ⟨m, hm⟩ : ∃ m : Nat, m = x.toNat / 2 ^ s + (r.getD 0 0).toNat % 2 ^ s * 2 ^ (16 - s) := ⟨_, rfl⟩
      have h2 := hl.2
      rw [← hm] at h1 h2
      omega
    · exact ih z h1
theorem ddrop_val (l : List Int) (q : Nat) (h : Dig l) : dval (l.drop q) = dval l / 65536 ^ q := by
  by_cases c : q ≤ l.length
  · have e := dval_app (l.take q) (l.drop q)
    rw [List.take_append_drop, List.length_take, Nat.min_eq_left c] at e
    have hlt := dval_lt (l.take q) (fun z hz => h z (List.mem_of_mem_take hz))
    rw [List.length_take, Nat.min_eq_left c] at hlt
    rw [e, Nat.add_mul_div_left _ _ (Nat.pow_pos (by decide)), Nat.div_eq_of_lt hlt, Nat.zero_add]
  · rw [List.drop_eq_nil_of_le (by omega)]
    have hlt := dval_lt l h
    have hp : 65536 ^ l.length ≤ 65536 ^ q := Nat.pow_le_pow_right (by decide) (by omega)
    rw [Nat.div_eq_of_lt (by omega)]
    rfl
theorem dpow_two (q s : Nat) : 65536 ^ q * 2 ^ s = 2 ^ (16 * q + s) := by
  rw [Nat.pow_add, Nat.pow_mul]
theorem dshrs_drop (l : List Int) (h : Dig l) (n : Nat) : dval (dshrs (n % 16) (l.drop (n / 16))) = dval l / 2 ^ n := by
  rw [dshrs_val _ (Nat.mod_lt _ (by decide)) _ (fun z hz => h z (List.mem_of_mem_drop hz)), ddrop_val l _ h, Nat.div_div_eq_div_mul, dpow_two, Nat.div_add_mod]
theorem shr_limb (x t s : Nat) (hs : s < 64) (hx : x < 18446744073709551616) (ht : t < 18446744073709551616) :
    Go.bits .or .u64 (shr .u64 (x : Int) (s : Int)) (shl .u64 (IntKind.u64.wrap ((t : Int) * 2)) (wrap64 (63 - (s : Int)))) = ((x / 2 ^ s + t % 2 ^ s * 2 ^ (64 - s) : Nat) : Int) := by
  have hp := split s hs
  have hl := limb_shr x t s hs hx
  have e1 : shr .u64 (x : Int) (s : Int) = ((x / 2 ^ s : Nat) : Int) := by
    unfold shr
    rw [Int.toNat_natCast, Nat.min_eq_left (show s ≤ IntKind.u64.bits by show s ≤ 64; omega), Int.natCast_ediv, Int.natCast_pow]
    rfl
  have w1 : wrap64 (63 - (s : Int)) = ((63 - s : Nat) : Int) := by unfold wrap64; omega
  have e2 : shl .u64 (IntKind.u64.wrap ((t : Int) * 2)) (wrap64 (63 - (s : Int))) = ((t % 2 ^ s * 2 ^ (64 - s) : Nat) : Int) := by
    rw [w1]
    unfold shl
    rw [Int.toNat_natCast, Nat.min_eq_left (show 63 - s ≤ IntKind.u64.bits by show 63 - s ≤ 64; omega), IntKind.wrap_u64, IntKind.wrap_u64]
    have a1 : (t : Int) * 2 % 18446744073709551616 = ((t * 2 % 18446744073709551616 : Nat) : Int) := by omega
    have a2 : ((2 : Int)) ^ (63 - s) = ((2 ^ (63 - s) : Nat) : Int) := by rw [Int.natCast_pow]; rfl
    rw [a1, a2, ← Int.natCast_mul]
    have a3 : (t * 2 % 18446744073709551616 * 2 ^ (63 - s)) % 18446744073709551616 = t % 2 ^ s * 2 ^ (64 - s) := by
      rw [Nat.mod_mul_mod, Nat.mul_assoc, ← Nat.pow_succ', show (63 - s).succ = 64 - s by omega, ← hp, Nat.mul_mod_mul_right]
    rw [← a3]
    generalize t * 2 % 18446744073709551616 * 2 ^ (63 - s) = z
    omega
  rw [e1, e2]
  have ho := or_add (x / 2 ^ s) (t % 2 ^ s) (64 - s) hl.1
  rw [or_u64 (x / 2 ^ s) (t % 2 ^ s * 2 ^ (64 - s)) (Nat.lt_of_le_of_lt (Nat.le_add_right _ _) hl.2) (Nat.lt_of_le_of_lt (Nat.le_add_left _ _) hl.2) (by rw [ho]; exact hl.2), ho]
theorem Shr_loop (l : List Int) (hl : Lim l) (hb : l.length ≤ 17592186044410) (n : Nat) (hn : n < 9223372036854775808) (K : Nat) : ∀ (d i : Nat) (x6 : List Int), i + d = l.length → x6.length + d ≤ 17592186044410 →
    nat_Shr.l0 (K + d + 1) l (n : Int) x6 (i : Int) = (nat_trim.f K (x6 ++ shrs (n % 64) (l.drop i))).bind fun t => some (t, 0) := by
  have hm : Int.tmod (n : Int) 64 = ((n % 64 : Nat) : Int) := by rw [Int.tmod_eq_emod_of_nonneg (by omega)]; omega
  intro d
  induction d with
  | zero =>
    intro i x6 hi hx
    simp only [nat_Shr.l0]
    rw [if_neg (by omega), List.drop_eq_nil_of_le (by omega)]
    simp [shrs]
  | succ d ih =>
    intro i x6 hi hx
    have w2 : wrap64 ((i : Int) + 1) = ((i + 1 : Nat) : Int) := by unfold wrap64; omega
    have w3 : (0 : Int) ≤ wrap64 (63 - ((n % 64 : Nat) : Int)) := by unfold wrap64; omega
    have r1 : rd l (i : Int) = l.getD i 0 := rfl
    have hx0 := hl.getD i
    have ht0 := hl.getD (i + 1)
    obtain ⟨K1, hK1⟩ : ∃ K1, K1 = K + d + 1 := ⟨_, rfl⟩
    rw [show K + (d + 1) + 1 = K1 + 1 by omega]
    simp only [nat_Shr.l0]
    rw [if_pos (by omega), if_pos (by omega), hm, if_pos (by omega), w2, at_eq l _ (by omega), Option.bind_some, if_pos w3, if_pos (by omega), r1, Int.toNat_natCast]
    have ed : l.drop i = l.getD i 0 :: l.drop (i + 1) := by
      rw [List.drop_eq_getElem_cons (by omega : i < l.length)]
      congr 1
      rw [List.getD_eq_getElem?_getD, List.getElem?_eq_getElem (by omega)]; rfl
    have eg : (l.drop (i + 1)).getD 0 0 = l.getD (i + 1) 0 := by
      rw [List.getD_eq_getElem?_getD, List.getD_eq_getElem?_getD, List.getElem?_drop, Nat.add_zero]
    obtain ⟨a, ha⟩ : ∃ a : Nat, l.getD i 0 = a := ⟨(l.getD i 0).toNat, by omega⟩
    obtain ⟨b, hb2⟩ : ∃ b : Nat, l.getD (i + 1) 0 = b := ⟨(l.getD (i + 1) 0).toNat, by omega⟩
    have es : shrs (n % 64) (l.drop i) = ((a / 2 ^ (n % 64) + b % 2 ^ (n % 64) * 2 ^ (64 - n % 64) : Nat) : Int) :: shrs (n % 64) (l.drop (i + 1)) := by
      rw [ed]
      simp only [shrs]
      rw [eg, ha, hb2, Int.toNat_natCast, Int.toNat_natCast]
    rw [ha, hb2, shr_limb a b (n % 64) (Nat.mod_lt _ (by decide)) (by omega) (by omega), hK1, ih (i + 1) _ (by omega) (by rw [List.length_append]; simp; omega), es, List.append_assoc]
    rfl
theorem Shr_ge (l : List Int) (hl : Lim l) (hb : l.length ≤ 17592186044410) (n : Nat) (hn : n < 9223372036854775808) (K : Nat) (hK : 2 * l.length + 4 ≤ K) : nat_Shr.f K l (n : Int) = some (limbs (val l / 2 ^ n), 0) := by
  unfold nat_Shr.f
  have w1 : wrap64 (Int.tdiv (n : Int) 64) = ((n / 64 : Nat) : Int) := by
    rw [Int.tdiv_eq_ediv_of_nonneg (by omega)]; unfold wrap64; omega
  rw [if_neg (by omega), w1]
  have hv := shrs_drop l hl n
  have hL := shrs_lim (n % 64) (Nat.mod_lt _ (by decide)) (l.drop (n / 64)) (fun z hz => hl z (List.mem_of_mem_drop hz))
  have hlen := shrs_len (n % 64) (l.drop (n / 64))
  rw [List.length_drop] at hlen
  by_cases c : n / 64 ≤ l.length
  · have h := Shr_loop l hl hb n hn (K - (l.length - n / 64) - 1) (l.length - n / 64) (n / 64) [] (by omega) (by simp; omega)
    rw [show K - (l.length - n / 64) - 1 + (l.length - n / 64) + 1 = K by omega] at h
    rw [h, List.nil_append, trim_ge _ hL (by omega) _ (by omega), hv]
    rfl
  · obtain ⟨K', rfl⟩ : ∃ K', K = K' + 1 := ⟨K - 1, by omega⟩
    simp only [nat_Shr.l0]
    rw [if_neg (by omega)]
    rw [List.drop_eq_nil_of_le (by omega)] at hv
    have h0 : val l / 2 ^ n = 0 := hv.symm
    rw [h0, trim_ge [] Lim.nil (by simp) _ (by simp; omega)]
    rfl
theorem and_u32' (a : Nat) (h : a < 4294967296) : Go.bits .and .u32 (a : Int) 65535 = ((a % 65536 : Nat) : Int) := by
  rw [and_u32 _ (by omega)]; omega
theorem shl_u32 (y s : Nat) (hs : s ≤ 16) (hy : y < 65536) : shl .u32 (y : Int) (s : Int) = ((y * 2 ^ s : Nat) : Int) ∧ y * 2 ^ s < 4294967296 := by
  have hp : 2 ^ s ≤ 65536 := Nat.pow_le_pow_right (by decide) hs
  have hm : y * 2 ^ s ≤ 65535 * 65536 := Nat.mul_le_mul (by omega) hp
  refine ⟨?_, by omega⟩
  unfold shl
  rw [Int.toNat_natCast, Nat.min_eq_left (show s ≤ IntKind.u32.bits by show s ≤ 32; omega), IntKind.wrap_u32]
  have a2 : ((2 : Int)) ^ s = ((2 ^ s : Nat) : Int) := by rw [Int.natCast_pow]; rfl
  rw [a2, ← Int.natCast_mul]
  generalize y * 2 ^ s = z at hm ⊢
  omega
theorem shr_u32 (x s : Nat) (hs : s ≤ 16) : shr .u32 (x : Int) (s : Int) = ((x / 2 ^ s : Nat) : Int) := by
  unfold shr
  rw [Int.toNat_natCast, Nat.min_eq_left (show s ≤ IntKind.u32.bits by show s ≤ 32; omega), Int.natCast_ediv, Int.natCast_pow]
  rfl
theorem shr_dig (x t s : Nat) (hs : s < 16) (hx : x < 65536) (ht : t < 65536) :
    Go.bits .or .u32 (shr .u32 (x : Int) (s : Int)) (Go.bits .and .u32 (shl .u32 (t : Int) (wrap64 (16 - (s : Int)))) 65535) = ((x / 2 ^ s + t % 2 ^ s * 2 ^ (16 - s) : Nat) : Int) := by
  have hp := dsplit s hs
  have hl := dlimb_shr x t s hs hx
  have w1 : wrap64 (16 - (s : Int)) = ((16 - s : Nat) : Int) := by unfold wrap64; omega
  have e2 := shl_u32 t (16 - s) (by omega) ht
  have a3 : t * 2 ^ (16 - s) % 65536 = t % 2 ^ s * 2 ^ (16 - s) := by
    rw [← hp, Nat.mul_mod_mul_right]
  rw [shr_u32 x s (by omega), w1, e2.1, and_u32' _ e2.2, a3]
  have ho := or_add (x / 2 ^ s) (t % 2 ^ s) (16 - s) hl.1
  have hl3 := Nat.lt_trans hl.2 (show 65536 < 4294967296 by decide)
  rw [or_u32 (x / 2 ^ s) (t % 2 ^ s * 2 ^ (16 - s)) (Nat.lt_of_le_of_lt (Nat.le_add_right _ _) hl3) (Nat.lt_of_le_of_lt (Nat.le_add_left _ _) hl3) (by rw [ho]; exact hl3), ho]
theorem rShr_loop (l : List Int) (hl : Dig l) (hb : l.length ≤ 35184372088830) (n : Nat) (hn : n < 9223372036854775808) (K : Nat) : ∀ (d i : Nat) (x6 : List Int), i + d = l.length → x6.length + d ≤ 35184372088830 →
    quipuref01_Shr.l0 (K + d + 1) l (n : Int) x6 (i : Int) = (quipuref01_trim.f K (x6 ++ dshrs (n % 16) (l.drop i))).bind fun t => some t := by
  have hm : Int.tmod (n : Int) 16 = ((n % 16 : Nat) : Int) := by rw [Int.tmod_eq_emod_of_nonneg (by omega)]; omega
  intro d
  induction d with
  | zero =>
    intro i x6 hi hx
    simp only [quipuref01_Shr.l0]
    rw [if_neg (by omega), List.drop_eq_nil_of_le (by omega)]
    simp [dshrs]
  | succ d ih =>
    intro i x6 hi hx
    have w2 : wrap64 ((i : Int) + 1) = ((i + 1 : Nat) : Int) := by unfold wrap64; omega
    have w3 : (0 : Int) ≤ wrap64 (16 - ((n % 16 : Nat) : Int)) := by unfold wrap64; omega
    have r1 : rd l (i : Int) = l.getD i 0 := rfl
    have r2 : rd l ((i + 1 : Nat) : Int) = l.getD (i + 1) 0 := rfl
    have hx0 := hl.getD i
    have ht0 := hl.getD (i + 1)
    have ed : l.drop i = l.getD i 0 :: l.drop (i + 1) := by
      rw [List.drop_eq_getElem_cons (by omega : i < l.length)]
      congr 1
      rw [List.getD_eq_getElem?_getD, List.getElem?_eq_getElem (by omega)]; rfl
    have eg : (l.drop (i + 1)).getD 0 0 = l.getD (i + 1) 0 := by
      rw [List.getD_eq_getElem?_getD, List.getD_eq_getElem?_getD, List.getElem?_drop, Nat.add_zero]
    obtain ⟨a, ha⟩ : ∃ a : Nat, l.getD i 0 = a := ⟨(l.getD i 0).toNat, by omega⟩
    obtain ⟨b, hb2⟩ : ∃ b : Nat, l.getD (i + 1) 0 = b := ⟨(l.getD (i + 1) 0).toNat, by omega⟩
    have es : dshrs (n % 16) (l.drop i) = ((a / 2 ^ (n % 16) + b % 2 ^ (n % 16) * 2 ^ (16 - n % 16) : Nat) : Int) :: dshrs (n % 16) (l.drop (i + 1)) := by
      rw [ed]
      simp only [dshrs]
      rw [eg, ha, hb2, Int.toNat_natCast, Int.toNat_natCast]
    obtain ⟨K1, hK1⟩ : ∃ K1, K1 = K + d + 1 := ⟨_, rfl⟩
    rw [show K + (d + 1) + 1 = K1 + 1 by omega]
    simp only [quipuref01_Shr.l0]
    rw [if_pos (by omega), if_pos (by omega), hm, if_pos (by omega), w2]
    by_cases c : ((i + 1 : Nat) : Int) < (l.length : Int)
    · rw [if_pos c, if_pos (by omega), if_pos w3, if_pos (by omega), r1, r2, ha, hb2, shr_dig a b (n % 16) (Nat.mod_lt _ (by decide)) (by omega) (by omega), hK1, ih (i + 1) _ (by omega) (by rw [List.length_append]; simp; omega), es, List.append_assoc]
      rfl
    · have hb0 : b = 0 := by
        have : l.getD (i + 1) 0 = 0 := by rw [List.getD_eq_getElem?_getD, List.getElem?_eq_none (by omega)]; rfl
        omega
      subst hb0
      rw [if_neg c, if_pos (by omega), r1, ha, shr_u32 a _ (by have := Nat.mod_lt n (show 16 > 0 by decide); omega), hK1, ih (i + 1) _ (by omega) (by rw [List.length_append]; simp; omega), es, List.append_assoc]
      simp
theorem rShr_ge (m : Nat) (hb : (digs m).length ≤ 35184372088830) (n : Nat) (hn : n < 9223372036854775808) (K : Nat) (hK : 2 * (digs m).length + 4 ≤ K) : quipuref01_Shr.f K (digs m) (n : Int) = some (digs (m / 2 ^ n)) := by
  unfold quipuref01_Shr.f
  have ht := rtrim_eq (digs m) (digs_lim m) (by omega) (K - (digs m).length - 1)
  rw [show K - (digs m).length - 1 + (digs m).length + 1 = K by omega, digs_dval] at ht
  have w1 : wrap64 (Int.tdiv (n : Int) 16) = ((n / 16 : Nat) : Int) := by
    rw [Int.tdiv_eq_ediv_of_nonneg (by omega)]; unfold wrap64; omega
  rw [ht, Option.bind_some, w1]
  have hv := dshrs_drop (digs m) (digs_lim m) n
  rw [digs_dval] at hv
  have hL := dshrs_lim (n % 16) (Nat.mod_lt _ (by decide)) ((digs m).drop (n / 16)) (fun z hz => digs_lim m z (List.mem_of_mem_drop hz))
  have hlen := dshrs_len (n % 16) ((digs m).drop (n / 16))
  rw [List.length_drop] at hlen
  by_cases c : n / 16 ≤ (digs m).length
  · have h := rShr_loop (digs m) (digs_lim m) hb n hn (K - ((digs m).length - n / 16) - 1) ((digs m).length - n / 16) (n / 16) [] (by omega) (by simp; omega)
    rw [show K - ((digs m).length - n / 16) - 1 + ((digs m).length - n / 16) + 1 = K by omega] at h
    have ht2 := rtrim_eq (dshrs (n % 16) ((digs m).drop (n / 16))) hL (by omega) (K - ((digs m).length - n / 16) - 1 - (dshrs (n % 16) ((digs m).drop (n / 16))).length - 1)
    rw [show K - ((digs m).length - n / 16) - 1 - (dshrs (n % 16) ((digs m).drop (n / 16))).length - 1 + (dshrs (n % 16) ((digs m).drop (n / 16))).length + 1 = K - ((digs m).length - n / 16) - 1 by omega] at ht2
    rw [h, List.nil_append, ht2, hv]
    rfl
  · obtain ⟨K', rfl⟩ : ∃ K', K = K' + 1 := ⟨K - 1, by omega⟩
    simp only [quipuref01_Shr.l0]
    rw [if_neg (by omega)]
    rw [List.drop_eq_nil_of_le (by omega)] at hv
    have h0 : m / 2 ^ n = 0 := hv.symm
    have ht2 := rtrim_eq [] Dig.nil (by simp) (K' - 1)
    rw [show K' - 1 + ([] : List Int).length + 1 = K' by simp; omega] at ht2
    rw [h0, ht2]
    rfl
/-- A digit shifted to the left, what was carried laid below. -/
theorem shl_dig (x c s : Nat) (hs : s < 16) (hx : x < 65536) (hc : c < 2 ^ s) : Go.bits .or .u32 (shl .u32 (x : Int) (s : Int)) (c : Int) = ((x * 2 ^ s + c : Nat) : Int) ∧ x * 2 ^ s + c < 4294967296 ∧ (x * 2 ^ s + c) / 65536 < 2 ^ s := by
  have e := shl_u32 x s (by omega) hx
  have hp : 2 ^ s ≤ 32768 := Nat.pow_le_pow_right (show 0 < 2 by decide) (show s ≤ 15 by omega)
  have hm : (x + 1) * 2 ^ s ≤ 65536 * 2 ^ s := Nat.mul_le_mul_right _ (by omega)
  have hlt : x * 2 ^ s + c < 65536 * 2 ^ s := by rw [Nat.add_mul, Nat.one_mul] at hm; omega
  have ho := or_add c x s hc
  rw [Nat.or_comm, Nat.add_comm] at ho
  rw [e.1, or_u32 _ _ e.2 (by omega) (by rw [ho]; omega), ho]
  refine ⟨rfl, by omega, ?_⟩
  exact Nat.div_lt_of_lt_mul hlt
theorem rShl_val (q i a c s V W : Nat) (hv : V + 65536 ^ (q + i) * c = 65536 ^ q * (W * 2 ^ s)) :
    V + 65536 ^ (q + i) * ((a * 2 ^ s + c) % 65536) + 65536 ^ (q + (i + 1)) * ((a * 2 ^ s + c) / 65536) = 65536 ^ q * ((W + 65536 ^ i * a) * 2 ^ s) := by
  have e5 : 65536 ^ q * (65536 ^ i * a * 2 ^ s) = 65536 ^ (q + i) * (a * 2 ^ s) := by
    rw [Nat.pow_add, Nat.mul_assoc, Nat.mul_assoc]
  rw [Nat.add_mul, Nat.mul_add (65536 ^ q), ← hv, e5, ← Nat.add_assoc q i 1, Nat.pow_succ, Nat.mul_assoc, Nat.add_assoc, ← Nat.mul_add, Nat.mod_add_div, Nat.mul_add]
  clear hv e5
  generalize 65536 ^ (q + i) * (a * 2 ^ s) = z1
  generalize 65536 ^ (q + i) * c = z2
  omega
theorem rShl_one (l : List Int) (hl : Dig l) (n : Nat) (hn : n < 9223372036854775808) (K i : Nat) (hi : i < l.length) (o : List Int) (c : Nat) (ho : o.length < 35184372088832) (hb : i ≤ 35184372088830) (hc : c < 2 ^ (n % 16)) :
    ∃ a : Nat, l.getD i 0 = a ∧ quipuref01_Shl.l0 (K + 1) l (n : Int) o (c : Int) (i : Int) = quipuref01_Shl.l0 K l (n : Int) (o ++ [(((a * 2 ^ (n % 16) + c) % 65536 : Nat) : Int)]) (((a * 2 ^ (n % 16) + c) / 65536 : Nat) : Int) ((i + 1 : Nat) : Int) ∧ (a * 2 ^ (n % 16) + c) / 65536 < 2 ^ (n % 16) := by
  have hm : Int.tmod (n : Int) 16 = ((n % 16 : Nat) : Int) := by rw [Int.tmod_eq_emod_of_nonneg (by omega)]; omega
  have hs : n % 16 < 16 := Nat.mod_lt _ (by decide)
  have q1 : (i : Int) < (l.length : Int) := by omega
  have q2 : (0 : Int) ≤ (i : Int) := by omega
  have q3 : (0 : Int) ≤ ((n % 16 : Nat) : Int) := by omega
  have w2 : wrap64 ((i : Int) + 1) = ((i + 1 : Nat) : Int) := by unfold wrap64; omega
  have r1 : rd l (i : Int) = l.getD i 0 := rfl
  have hx0 := hl.getD i
  obtain ⟨a, ha⟩ : ∃ a : Nat, l.getD i 0 = a := ⟨(l.getD i 0).toNat, by omega⟩
  rw [ha] at hx0
  have hd := shl_dig a c (n % 16) hs (by omega) hc
  have e3 : ((a * 2 ^ (n % 16) + c : Nat) : Int) / 65536 = (((a * 2 ^ (n % 16) + c) / 65536 : Nat) : Int) := by
    generalize a * 2 ^ (n % 16) + c = z
    omega
  refine ⟨a, ha, ?_, hd.2.2⟩
  simp only [quipuref01_Shl.l0]
  rw [if_pos q1, if_pos q2, hm, if_pos q3, if_pos ho, r1, ha, hd.1, and_u32' _ hd.2.1, e3, w2]
theorem rShl_loop (l : List Int) (hl : Dig l) (n : Nat) (hn : n < 9223372036854775808) (K q : Nat) : ∀ (d i : Nat) (o : List Int) (c : Nat), i + d = l.length → o.length = q + i → q + l.length < 35184372088830 → Dig o → c < 2 ^ (n % 16) →
    dval o + 65536 ^ (q + i) * c = 65536 ^ q * (dval (l.take i) * 2 ^ (n % 16)) →
    ∃ o', quipuref01_Shl.l0 (K + d + 1) l (n : Int) o (c : Int) (i : Int) = (quipuref01_trim.f K o').bind (fun t => some t) ∧ o'.length = q + l.length + 1 ∧ Dig o' ∧ dval o' = 65536 ^ q * (dval l * 2 ^ (n % 16)) := by
  have hs : n % 16 < 16 := Nat.mod_lt _ (by decide)
  have hp : 2 ^ (n % 16) ≤ 65536 := Nat.pow_le_pow_right (show 0 < 2 by decide) (show n % 16 ≤ 16 by omega)
  intro d
  induction d with
  | zero =>
    intro i o c hi hol hob ho hc hv
    have hil : i = l.length := by clear hv; omega
    have hc1 : c < 65536 := Nat.lt_of_lt_of_le hc hp
    have q1 : ¬ (i : Int) < (l.length : Int) := by clear hv; omega
    have q4 : o.length < 35184372088832 := by clear hv; omega
    have hol2 : (o ++ [(c : Int)]).length = q + l.length + 1 := by rw [List.length_append, hol, hil]; rfl
    have hc2 : (0 : Int) ≤ (c : Int) ∧ (c : Int) < 65536 := by clear hv; omega
    refine ⟨o ++ [(c : Int)], ?_, hol2, ho.app (Dig.one hc2.1 hc2.2), ?_⟩
    · simp only [quipuref01_Shl.l0]
      rw [if_neg q1, if_pos q4]
    · rw [dval_app, dval_one, hol, Int.toNat_natCast, hv, hil, List.take_length]
  | succ d ih =>
    intro i o c hi hol hob ho hc hv
    have q5 : i < l.length := by clear hv ih; omega
    have q4 : o.length < 35184372088832 := by clear hv ih; omega
    have q6 : i ≤ 35184372088830 := by clear hv ih; omega
    have q7 : i + 1 + d = l.length := by clear hv ih; omega
    obtain ⟨a, ha, hrun, hc'⟩ := rShl_one l hl n hn (K + d + 1) i q5 o c q4 q6 hc
    have hlen : (o ++ [(((a * 2 ^ (n % 16) + c) % 65536 : Nat) : Int)]).length = q + (i + 1) := by rw [List.length_append, hol]; rfl
    have hz : (0 : Int) ≤ (((a * 2 ^ (n % 16) + c) % 65536 : Nat) : Int) ∧ (((a * 2 ^ (n % 16) + c) % 65536 : Nat) : Int) < 65536 := by
      clear hv ih hrun hc' hlen
      generalize a * 2 ^ (n % 16) + c = z
      omega
    have hv2 : dval (o ++ [(((a * 2 ^ (n % 16) + c) % 65536 : Nat) : Int)]) + 65536 ^ (q + (i + 1)) * ((a * 2 ^ (n % 16) + c) / 65536) = 65536 ^ q * (dval (l.take (i + 1)) * 2 ^ (n % 16)) := by
      rw [dval_app, dval_one, hol, Int.toNat_natCast, dtake_getD, ha, Int.toNat_natCast]
      exact rShl_val q i a c (n % 16) _ _ hv
    obtain ⟨o', h1, h2⟩ := ih (i + 1) _ _ q7 hlen hob (ho.app (Dig.one hz.1 hz.2)) hc' hv2
    exact ⟨o', hrun.trans h1, h2⟩
theorem rShl_ge (m : Nat) (n : Nat) (hn : n ≤ 65536) (hb : (digs m).length ≤ 35184372080000) (K : Nat) (hK : 2 * (digs m).length + 5000 ≤ K) : quipuref01_Shl.f K (digs m) (n : Int) = some (digs (m * 2 ^ n)) := by
  unfold quipuref01_Shl.f
  have ht := rtrim_eq (digs m) (digs_lim m) (by omega) (K - (digs m).length - 1)
  rw [show K - (digs m).length - 1 + (digs m).length + 1 = K by omega, digs_dval] at ht
  rw [ht, Option.bind_some]
  by_cases c : m = 0
  · subst c
    rw [Nat.zero_mul]
    rfl
  · have hne : (digs m).length ≠ 0 := by
      rw [digs_step m c]; simp
    have w1 : wrap64 (Int.tdiv (n : Int) 16) = ((n / 16 : Nat) : Int) := by
      rw [Int.tdiv_eq_ediv_of_nonneg (by omega)]; unfold wrap64; omega
    rw [if_neg (by omega), w1, if_pos (by omega), Int.toNat_natCast, if_pos (by omega)]
    obtain ⟨o', h1, h2, h3, h4⟩ := rShl_loop (digs m) (digs_lim m) n (by omega) (K - (digs m).length - 1) (n / 16) (digs m).length 0 (List.replicate (n / 16) 0) 0 (by omega) (by simp) (by omega) (fun x hx => by rw [List.eq_of_mem_replicate hx]; decide) (Nat.two_pow_pos _) (by
      have hz : ∀ k : Nat, dval (List.replicate k 0) = 0 := fun k => by
        induction k with
        | zero => rfl
        | succ k ih => rw [List.replicate_succ]; simp [dval, ih]
      rw [hz]; simp [dval])
    rw [show K - (digs m).length - 1 + (digs m).length + 1 = K by omega] at h1
    have ht2 := rtrim_eq o' h3 (by omega) (K - (digs m).length - 1 - o'.length - 1)
    rw [show K - (digs m).length - 1 - o'.length - 1 + o'.length + 1 = K - (digs m).length - 1 by omega] at ht2
    have h1' : quipuref01_Shl.l0 K (digs m) (n : Int) (List.replicate (n / 16) 0) 0 0 = (quipuref01_trim.f (K - (digs m).length - 1) o').bind (fun t => some t) := h1
    rw [h1', ht2, h4, digs_dval, Option.bind_some]
    congr 2
    rw [Nat.mul_left_comm, dpow_two, Nat.div_add_mod]
end Go.Proofs.Ytfaknblpkegekaa.Q
