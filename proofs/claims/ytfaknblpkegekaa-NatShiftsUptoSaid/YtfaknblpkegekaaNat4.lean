/- Plain laws: what In, Same, Cmp and Sub of the document's answer tell. -/
import Derived.Test.YtfaknblpkegekaaQx7
import Derived.Test.YtfaknblpkegekaaQx2
import Derived.Test.YtfaknblpkegekaaNat3
namespace Go.Proofs.Ytfaknblpkegekaa.Q
open Go.RowKit Go.Proofs.YtfaknblpkegekaaW.PrintWords Go.Proofs.YtfaknblpkegekaaW.PrintLast Go.Proofs.YtfaknblpkegekaaW.PrintMore
set_option linter.unusedVariables false
theorem and_u64 (x : Int) (h : 0 ≤ x ∧ x < 18446744073709551616) : Go.bits .and .u64 x 65535 = x % 65536 := by
  obtain ⟨a, rfl⟩ : ∃ a : Nat, x = a := ⟨x.toNat, by omega⟩
  have ha : a < 2 ^ 64 := by omega
  have e1 : (65535 : Int) = ((2 ^ 16 - 1 : Nat) : Int) := by decide
  simp only [Go.bits]
  rw [e1, BitVec.ofInt_natCast, BitVec.ofInt_natCast, BitVec.toNat_and, BitVec.toNat_ofNat, BitVec.toNat_ofNat]
  have hb : IntKind.u64.bits = 64 := rfl
  rw [hb, Nat.mod_eq_of_lt ha, Nat.mod_eq_of_lt (by decide), Nat.and_two_pow_sub_one_eq_mod]
  rw [IntKind.wrap_u64]
  omega
/-- The limb's digit j. -/
def dg (x : Int) (j : Nat) : Int := x / 65536 ^ j % 65536
theorem dg_in (x : Int) (j : Nat) : 0 ≤ dg x j ∧ dg x j < 65536 := by
  unfold dg
  constructor
  · exact Int.emod_nonneg _ (by decide)
  · exact Int.emod_lt_of_pos _ (by decide)
theorem In_step (l x3 : List Int) (i : Nat) (j : Nat) (hj : j < 4) (hi : i < l.length) (hl : Lim l) (hb : x3.length < 35184372088832) (k : Nat) :
    quipuref01_In.l1 (k + 1) l x3 i j = quipuref01_In.l1 k l (x3 ++ [dg (l.getD i 0) j]) i ((j + 1 : Nat) : Int) := by
  have hx := hl.getD i
  have e0 : rd l i = l.getD i 0 := rfl
  have hc1 : ((16 * j : Nat) : Int) = 16 * (j : Int) := by push_cast; rfl
  have w1 : wrap64 (16 * (j : Int)) = ((16 * j : Nat) : Int) := by rw [hc1]; unfold wrap64; omega
  have w2 : wrap64 ((j : Int) + 1) = ((j + 1 : Nat) : Int) := by unfold wrap64; omega
  simp only [quipuref01_In.l1]
  rw [if_pos (by omega), if_pos (by omega), if_pos (by omega), w1, if_pos (by omega), if_pos hb, w2, e0]
  have e1 : shr .u64 (l.getD i 0) ((16 * j : Nat) : Int) = l.getD i 0 / 65536 ^ j := by
    unfold shr
    rw [Int.toNat_natCast, Nat.min_eq_left (show 16 * j ≤ IntKind.u64.bits by show 16 * j ≤ 64; omega), Int.pow_mul]
    rfl
  rw [e1]
  have hp : (0 : Int) < 65536 ^ j := by
    match j, hj with
    | 0, _ => decide
    | 1, _ => decide
    | 2, _ => decide
    | 3, _ => decide
  have h1 : 0 ≤ l.getD i 0 / 65536 ^ j := Int.ediv_nonneg hx.1 (by omega)
  have h2 : l.getD i 0 / 65536 ^ j < 18446744073709551616 := Int.lt_of_le_of_lt (Int.ediv_le_self _ hx.1) hx.2
  rw [and_u64 _ ⟨h1, h2⟩]
  have h3 := dg_in (l.getD i 0) j
  have e3 : l.getD i 0 / 65536 ^ j % 65536 = dg (l.getD i 0) j := rfl
  rw [e3, show dg (l.getD i 0) j % 4294967296 = dg (l.getD i 0) j from Int.emod_eq_of_lt h3.1 (by omega)]
theorem In_four (l x3 : List Int) (i : Nat) (hi : i < l.length) (hl : Lim l) (hb : x3.length + 4 < 35184372088832) (hlb : l.length ≤ 1099511627776) (k : Nat) :
    quipuref01_In.l0 (k + 6) l x3 i = quipuref01_In.l0 k l (x3 ++ [dg (l.getD i 0) 0, dg (l.getD i 0) 1, dg (l.getD i 0) 2, dg (l.getD i 0) 3]) ((i + 1 : Nat) : Int) := by
  have s : quipuref01_In.l0 (k + 6) l x3 i = quipuref01_In.l1 (k + 5) l x3 i ((0 : Nat) : Int) := by
    simp only [quipuref01_In.l0]
    rw [if_pos (by omega)]
    rfl
  rw [s, In_step l _ i 0 (by decide) hi hl (by omega) (k + 4), In_step l _ i (0 + 1) (by decide) hi hl (by simp; omega) (k + 3), In_step l _ i (0 + 1 + 1) (by decide) hi hl (by simp; omega) (k + 2), In_step l _ i (0 + 1 + 1 + 1) (by decide) hi hl (by simp; omega) (k + 1)]
  simp only [quipuref01_In.l1]
  rw [if_neg (by decide)]
  have w2 : wrap64 ((i : Int) + 1) = ((i + 1 : Nat) : Int) := by unfold wrap64; omega
  rw [w2]
  simp
theorem four_val (x : Int) (h : 0 ≤ x ∧ x < 18446744073709551616) : dval [dg x 0, dg x 1, dg x 2, dg x 3] = x.toNat := by
  obtain ⟨a, rfl⟩ : ∃ a : Nat, x = a := ⟨x.toNat, by omega⟩
  have e : ∀ j : Nat, (dg (a : Int) j).toNat = a / 65536 ^ j % 65536 := fun j => by
    unfold dg
    rw [show (65536 : Int) ^ j = ((65536 ^ j : Nat) : Int) by exact (Int.natCast_pow 65536 j).symm, ← Int.natCast_ediv]
    generalize a / 65536 ^ j = z
    omega
  simp only [dval, e]
  have h4 : a < 18446744073709551616 := by omega
  have p0 : (65536 : Nat) ^ 0 = 1 := rfl
  have p1 : (65536 : Nat) ^ 1 = 65536 := rfl
  have p2 : (65536 : Nat) ^ 2 = 4294967296 := rfl
  have p3 : (65536 : Nat) ^ 3 = 281474976710656 := rfl
  rw [p0, p1, p2, p3, Int.toNat_natCast]
  omega
theorem In_loop (l : List Int) (hl : Lim l) (hb : l.length ≤ 1099511627776) (k : Nat) : ∀ (d i : Nat) (x3 : List Int), i + d = l.length → x3.length = 4 * i → Dig x3 → dval x3 = val (l.take i) →
    quipuref01_In.l0 (k + 6 * d + 4 * l.length + 2) l x3 i = some (digs (val l)) := by
  intro d
  induction d with
  | zero =>
    intro i x3 hi hx hd hv
    obtain ⟨K, hK⟩ : ∃ K, K = k + 4 * l.length + 1 := ⟨_, rfl⟩
    rw [show k + 6 * 0 + 4 * l.length + 2 = K + 1 by omega]
    simp only [quipuref01_In.l0]
    rw [if_neg (by omega)]
    have h := rtrim_eq x3 hd (by omega) (k + 4 * l.length - x3.length)
    rw [show k + 4 * l.length - x3.length + x3.length + 1 = K by omega, hv, List.take_of_length_le (by omega)] at h
    rw [h]; rfl
  | succ d ih =>
    intro i x3 hi hx hd hv
    rw [show k + 6 * (d + 1) + 4 * l.length + 2 = (k + 6 * d + 4 * l.length + 2) + 6 by omega, In_four l x3 i (by omega) hl (by omega) hb]
    refine ih (i + 1) _ (by omega) (by simp; omega) (hd.app ?_) ?_
    · intro y hy
      simp at hy
      rcases hy with h | h | h | h <;> (subst h; exact dg_in _ _)
    · rw [dval_app, four_val _ (hl.getD i), hx, hv, take_getD, Nat.pow_mul]
/-- What 'In' answers. -/
theorem In_eq (l : List Int) (hl : Lim l) (hb : l.length ≤ 1099511627776) (k : Nat) : quipuref01_In.f (k + 10 * l.length + 2) l = some (digs (val l)) := by
  have h := In_loop l hl hb k l.length 0 [] (by omega) rfl Dig.nil rfl
  rw [show k + 6 * l.length + 4 * l.length + 2 = k + 10 * l.length + 2 by omega] at h
  exact h
theorem Same_loop (l : List Int) (hb : l.length ≤ 9223372036854775806) (k : Nat) : ∀ (d i : Nat), i + d = l.length → quipuref01_Same.l0 (k + d + 1) l l i = some true := by
  intro d
  induction d with
  | zero =>
    intro i hi
    simp only [quipuref01_Same.l0]
    rw [if_neg (by omega)]
  | succ d ih =>
    intro i hi
    obtain ⟨K, hK⟩ : ∃ K, K = k + d + 1 := ⟨_, rfl⟩
    rw [show k + (d + 1) + 1 = K + 1 by omega]
    simp only [quipuref01_Same.l0]
    have w2 : wrap64 ((i : Int) + 1) = ((i + 1 : Nat) : Int) := by unfold wrap64; omega
    rw [if_pos (by omega), if_pos (by omega), if_pos (by omega), if_pos trivial, w2, hK]
    exact ih (i + 1) (by omega)
theorem Same_refl (l : List Int) (hb : l.length ≤ 9223372036854775806) (k : Nat) : quipuref01_Same.f (k + l.length + 1) l l = some true := by
  unfold quipuref01_Same.f
  rw [if_pos rfl]
  exact Same_loop l hb k l.length 0 (by omega)
end Go.Proofs.Ytfaknblpkegekaa.Q
