/- Plain laws: shifts of limbs. -/
import Derived.Test.YtfaknblpkegekaaQx3
import Derived.Test.YtfaknblpkegekaaNat8
namespace Go.Proofs.Ytfaknblpkegekaa.Q
open Go.RowKit Go.Proofs.YtfaknblpkegekaaW.PrintWords Go.Proofs.YtfaknblpkegekaaW.PrintLast Go.Proofs.YtfaknblpkegekaaW.PrintMore
set_option linter.unusedVariables false
theorem or_u64 (a b : Nat) (ha : a < 18446744073709551616) (hb : b < 18446744073709551616) (hab : a ||| b < 18446744073709551616) : Go.bits .or .u64 (a : Int) (b : Int) = ((a ||| b : Nat) : Int) := by
  have e2 : (2 : Nat) ^ 64 = 18446744073709551616 := by decide
  simp only [Go.bits]
  have hb64 : IntKind.u64.bits = 64 := rfl
  rw [BitVec.ofInt_natCast, BitVec.ofInt_natCast, BitVec.toNat_or, BitVec.toNat_ofNat, BitVec.toNat_ofNat, hb64, Nat.mod_eq_of_lt (by rw [e2]; exact ha), Nat.mod_eq_of_lt (by rw [e2]; exact hb), IntKind.wrap_u64]
  generalize a ||| b = z at hab ⊢
  omega
theorem or_u32 (a b : Nat) (ha : a < 4294967296) (hb : b < 4294967296) (hab : a ||| b < 4294967296) : Go.bits .or .u32 (a : Int) (b : Int) = ((a ||| b : Nat) : Int) := by
  have e2 : (2 : Nat) ^ 32 = 4294967296 := by decide
  simp only [Go.bits]
  have hb64 : IntKind.u32.bits = 32 := rfl
  rw [BitVec.ofInt_natCast, BitVec.ofInt_natCast, BitVec.toNat_or, BitVec.toNat_ofNat, BitVec.toNat_ofNat, hb64, Nat.mod_eq_of_lt (by rw [e2]; exact ha), Nat.mod_eq_of_lt (by rw [e2]; exact hb), IntKind.wrap_u32]
  generalize a ||| b = z at hab ⊢
  omega
/-- Laid side by side. -/
theorem or_add (a b i : Nat) (h : a < 2 ^ i) : a ||| (b * 2 ^ i) = a + b * 2 ^ i := by
  have := Nat.shiftLeft_add_eq_or_of_lt h b
  rw [Nat.shiftLeft_eq] at this
  rw [Nat.or_comm, ← this, Nat.add_comm]
def shrs (s : Nat) : List Int → List Int
  | [] => []
  | x :: r => ((x.toNat / 2 ^ s + (r.getD 0 0).toNat % 2 ^ s * 2 ^ (64 - s) : Nat) : Int) :: shrs s r
theorem shrs_len (s : Nat) : ∀ d : List Int, (shrs s d).length = d.length
  | [] => rfl
  | x :: r => by simp [shrs, shrs_len s r]
theorem split (s : Nat) (hs : s < 64) : 2 ^ s * 2 ^ (64 - s) = 18446744073709551616 := by
  rw [← Nat.pow_add, show s + (64 - s) = 64 by omega]
theorem limb_shr (x t s : Nat) (hs : s < 64) (hx : x < 18446744073709551616) : x / 2 ^ s < 2 ^ (64 - s) ∧ x / 2 ^ s + t % 2 ^ s * 2 ^ (64 - s) < 18446744073709551616 := by
  have hp := split s hs
  have h1 : x / 2 ^ s < 2 ^ (64 - s) := Nat.div_lt_of_lt_mul (by rw [hp]; exact hx)
  have h2 : t % 2 ^ s + 1 ≤ 2 ^ s := Nat.mod_lt _ (Nat.two_pow_pos s)
  have h3 := Nat.mul_le_mul_right (2 ^ (64 - s)) h2
  rw [hp, Nat.add_mul] at h3
  exact ⟨h1, by omega⟩
theorem head_mod (r : List Int) (s : Nat) (hs : s < 64) : val r % 2 ^ s = (r.getD 0 0).toNat % 2 ^ s := by
  cases r with
  | nil => rfl
  | cons y r =>
    simp only [val, List.getD_cons_zero]
    rw [← split s hs, Nat.mul_assoc, Nat.add_mul_mod_self_left]
theorem shrs_val (s : Nat) (hs : s < 64) : ∀ d : List Int, Lim d → val (shrs s d) = val d / 2 ^ s
  | [], _ => by simp [shrs, val]
  | x :: r, h => by
    have ih := shrs_val s hs r (fun z hz => h z (List.mem_cons_of_mem _ hz))
    have hm := head_mod r s hs
    have hp := split s hs
    simp only [shrs, val, Int.toNat_natCast]
    rw [ih, ← hm, ← hp, Nat.mul_assoc (2 ^ s) _ (val r / 2 ^ s), Nat.mul_assoc (2 ^ s) _ (val r), Nat.add_mul_div_left _ _ (Nat.two_pow_pos s)]
    have e := Nat.div_add_mod (val r) (2 ^ s)
    have e2 : 2 ^ (64 - s) * val r = 2 ^ s * (2 ^ (64 - s) * (val r / 2 ^ s)) + val r % 2 ^ s * 2 ^ (64 - s) := by
      rw [← e, Nat.mul_add, e, Nat.mul_left_comm, Nat.mul_comm (2 ^ (64 - s)) (val r % 2 ^ s)]
    omega
theorem shrs_lim (s : Nat) (hs : s < 64) : ∀ d : List Int, Lim d → Lim (shrs s d)
  | [], _ => fun x hx => absurd hx List.not_mem_nil
  | x :: r, h => by
    have ih := shrs_lim s hs r (fun z hz => h z (List.mem_cons_of_mem _ hz))
    have hx := h x List.mem_cons_self
    have hl := limb_shr x.toNat (r.getD 0 0).toNat s hs (by omega)
    intro z hz
    simp only [shrs] at hz
    rcases List.mem_cons.1 hz with h1 | h1
    · obtain ⟨m, hm⟩ : ∃ m : Nat, m = x.toNat / 2 ^ s + (r.getD 0 0).toNat % 2 ^ s * 2 ^ (64 - s) := ⟨_, rfl⟩
      have h2 := hl.2
      rw [← hm] at h1 h2
      omega
    · exact ih z h1
theorem drop_val (l : List Int) (q : Nat) (h : Lim l) : val (l.drop q) = val l / 18446744073709551616 ^ q := by
  by_cases c : q ≤ l.length
  · have e := val_app (l.take q) (l.drop q)
    rw [List.take_append_drop, List.length_take, Nat.min_eq_left c] at e
    have hlt := val_lt (l.take q) (fun z hz => h z (List.mem_of_mem_take hz))
    rw [List.length_take, Nat.min_eq_left c] at hlt
    rw [e, Nat.add_mul_div_left _ _ (Nat.pow_pos (by decide)), Nat.div_eq_of_lt hlt, Nat.zero_add]
  · rw [List.drop_eq_nil_of_le (by omega)]
    have hlt := val_lt l h
    have hp : 18446744073709551616 ^ l.length ≤ 18446744073709551616 ^ q := Nat.pow_le_pow_right (by decide) (by omega)
    rw [Nat.div_eq_of_lt (by omega)]
    rfl
theorem lpow_two (q s : Nat) : 18446744073709551616 ^ q * 2 ^ s = 2 ^ (64 * q + s) := by
  rw [Nat.pow_add, Nat.pow_mul]
theorem shrs_drop (l : List Int) (h : Lim l) (n : Nat) : val (shrs (n % 64) (l.drop (n / 64))) = val l / 2 ^ n := by
  rw [shrs_val _ (Nat.mod_lt _ (by decide)) _ (fun z hz => h z (List.mem_of_mem_drop hz)), drop_val l _ h, Nat.div_div_eq_div_mul, lpow_two, Nat.div_add_mod]
theorem shr_limb (x t s : Nat) (hs : s < 64) (hx : x < 18446744073709551616) (ht : t < 18446744073709551616) :
    Go.bits .or .u64 (shr .u64 (x : Int) (s : Int)) (shl .u64 (IntKind.u64.wrap ((t : Int) * 2)) (wrap64 (63 - (s : Int)))) = ((x / 2 ^ s + t % 2 ^ s * 2 ^ (64 - s) : Nat) : Int) := by
  have hp := split s hs
  have hl := limb_shr x t s hs hx
  have e1 : shr .u64 (x : Int) (s : Int) = ((x / 2 ^ s : Nat) : Int) := by
    unfold shr
    rw [Int.toNat_natCast, Nat.min_eq_left (show s ≤ IntKind.u64.bits by show s ≤ 64; omega), Int.natCast_ediv, Int.natCast_pow]
    rfl
  have w1 : wrap64 (63 - (s : Int)) = ((63 - s : Nat) : Int) := by unfold wrap64; omega
  have e2 : shl .u64 (IntKind.u64.wrap ((t : Int) * 2)) (wrap64 (63 - (s : Int))) = ((t % 2 ^ s * 2 ^ (64 - s) : Nat) : Int) := by
    rw [w1]
    unfold shl
    rw [Int.toNat_natCast, Nat.min_eq_left (show 63 - s ≤ IntKind.u64.bits by show 63 - s ≤ 64; omega), IntKind.wrap_u64, IntKind.wrap_u64]
    have a1 : (t : Int) * 2 % 18446744073709551616 = ((t * 2 % 18446744073709551616 : Nat) : Int) := by omega
    have a2 : ((2 : Int)) ^ (63 - s) = ((2 ^ (63 - s) : Nat) : Int) := by rw [Int.natCast_pow]; rfl
    rw [a1, a2, ← Int.natCast_mul]
    have a3 : (t * 2 % 18446744073709551616 * 2 ^ (63 - s)) % 18446744073709551616 = t % 2 ^ s * 2 ^ (64 - s) := by
      rw [Nat.mod_mul_mod, Nat.mul_assoc, ← Nat.pow_succ', show (63 - s).succ = 64 - s by omega, ← hp, Nat.mul_mod_mul_right]
    rw [← a3]
    generalize t * 2 % 18446744073709551616 * 2 ^ (63 - s) = z
    omega
  rw [e1, e2]
  have ho := or_add (x / 2 ^ s) (t % 2 ^ s) (64 - s) hl.1
  rw [or_u64 (x / 2 ^ s) (t % 2 ^ s * 2 ^ (64 - s)) (Nat.lt_of_le_of_lt (Nat.le_add_right _ _) hl.2) (Nat.lt_of_le_of_lt (Nat.le_add_left _ _) hl.2) (by rw [ho]; exact hl.2), ho]
theorem Shr_loop (l : List Int) (hl : Lim l) (hb : l.length ≤ 35184372088832) (n : Nat) (hn : n < 9223372036854775808) (K : Nat) : ∀ (d i : Nat) (x6 : List Int), i + d = l.length → x6.length + d ≤ 17592186044410 →
    nat_Shr.l0 (K + d + 1) l (n : Int) x6 (i : Int) = (nat_trim.f K (x6 ++ shrs (n % 64) (l.drop i))).bind fun t => some (t, 0) := by
  have hm : Int.tmod (n : Int) 64 = ((n % 64 : Nat) : Int) := by rw [Int.tmod_eq_emod_of_nonneg (by omega)]; omega
  intro d
  induction d with
  | zero =>
    intro i x6 hi hx
    simp only [nat_Shr.l0]
    rw [if_neg (by omega), List.drop_eq_nil_of_le (by omega)]
    simp [shrs]
  | succ d ih =>
    intro i x6 hi hx
    have w2 : wrap64 ((i : Int) + 1) = ((i + 1 : Nat) : Int) := by unfold wrap64; omega
    have w3 : (0 : Int) ≤ wrap64 (63 - ((n % 64 : Nat) : Int)) := by unfold wrap64; omega
    have r1 : rd l (i : Int) = l.getD i 0 := rfl
    have hx0 := hl.getD i
    have ht0 := hl.getD (i + 1)
    obtain ⟨K1, hK1⟩ : ∃ K1, K1 = K + d + 1 := ⟨_, rfl⟩
    rw [show K + (d + 1) + 1 = K1 + 1 by omega]
    simp only [nat_Shr.l0]
    rw [if_pos (by omega), if_pos (by omega), hm, if_pos (by omega), w2, at_eq l _ (by omega), Option.bind_some, if_pos w3, if_pos (by omega), r1, Int.toNat_natCast]
    have ed : l.drop i = l.getD i 0 :: l.drop (i + 1) := by
      rw [List.drop_eq_getElem_cons (by omega : i < l.length)]
      congr 1
      rw [List.getD_eq_getElem?_getD, List.getElem?_eq_getElem (by omega)]; rfl
    have eg : (l.drop (i + 1)).getD 0 0 = l.getD (i + 1) 0 := by
      rw [List.getD_eq_getElem?_getD, List.getD_eq_getElem?_getD, List.getElem?_drop, Nat.add_zero]
    obtain ⟨a, ha⟩ : ∃ a : Nat, l.getD i 0 = a := ⟨(l.getD i 0).toNat, by omega⟩
    obtain ⟨b, hb2⟩ : ∃ b : Nat, l.getD (i + 1) 0 = b := ⟨(l.getD (i + 1) 0).toNat, by omega⟩
    have es : shrs (n % 64) (l.drop i) = ((a / 2 ^ (n % 64) + b % 2 ^ (n % 64) * 2 ^ (64 - n % 64) : Nat) : Int) :: shrs (n % 64) (l.drop (i + 1)) := by
      rw [ed]
      simp only [shrs]
      rw [eg, ha, hb2, Int.toNat_natCast, Int.toNat_natCast]
    rw [ha, hb2, shr_limb a b (n % 64) (Nat.mod_lt _ (by decide)) (by omega) (by omega), hK1, ih (i + 1) _ (by omega) (by rw [List.length_append]; simp; omega), es, List.append_assoc]
    rfl
theorem Shr_off (l : List Int) (hl : Lim l) (hb : l.length ≤ 35184372088832) (n : Nat) (ho : l.length ≤ 17592186044410 + n / 64) (hn : n < 9223372036854775808) (K : Nat) (hK : 2 * l.length + 4 ≤ K) : nat_Shr.f K l (n : Int) = some (limbs (val l / 2 ^ n), 0) := by
  unfold nat_Shr.f
  have w1 : wrap64 (Int.tdiv (n : Int) 64) = ((n / 64 : Nat) : Int) := by
    rw [Int.tdiv_eq_ediv_of_nonneg (by omega)]; unfold wrap64; omega
  rw [if_neg (by omega), w1]
  have hv := shrs_drop l hl n
  have hL := shrs_lim (n % 64) (Nat.mod_lt _ (by decide)) (l.drop (n / 64)) (fun z hz => hl z (List.mem_of_mem_drop hz))
  have hlen := shrs_len (n % 64) (l.drop (n / 64))
  rw [List.length_drop] at hlen
  by_cases c : n / 64 ≤ l.length
  · have h := Shr_loop l hl hb n hn (K - (l.length - n / 64) - 1) (l.length - n / 64) (n / 64) [] (by omega) (by simp; omega)
    rw [show K - (l.length - n / 64) - 1 + (l.length - n / 64) + 1 = K by omega] at h
    rw [h, List.nil_append, trim_ge _ hL (by omega) _ (by omega), hv]
    rfl
  · obtain ⟨K', rfl⟩ : ∃ K', K = K' + 1 := ⟨K - 1, by omega⟩
    simp only [nat_Shr.l0]
    rw [if_neg (by omega)]
    rw [List.drop_eq_nil_of_le (by omega)] at hv
    have h0 : val l / 2 ^ n = 0 := hv.symm
    rw [h0, trim_ge [] Lim.nil (by simp) _ (by simp; omega)]
    rfl
theorem Shr_ge (l : List Int) (hl : Lim l) (hb : l.length ≤ 17592186044410) (n : Nat) (hn : n < 9223372036854775808) (K : Nat) (hK : 2 * l.length + 4 ≤ K) : nat_Shr.f K l (n : Int) = some (limbs (val l / 2 ^ n), 0) :=
  Shr_off l hl (by omega) n (by omega) hn K hK
end Go.Proofs.Ytfaknblpkegekaa.Q
