/- Plain laws of digits: In, Same, Cmp, Out. -/
import Derived.Test.YtfaknblpkegekaaQx6
import Derived.Test.YtfaknblpkegekaaQx2
import Derived.Test.YtfaknblpkegekaaNat3
import Derived.Test.YtfaknblpkegekaaQx7
namespace Go.Proofs.Ytfaknblpkegekaa.Q
open Go.RowKit Go.Proofs.YtfaknblpkegekaaW.PrintWords Go.Proofs.YtfaknblpkegekaaW.PrintLast Go.Proofs.YtfaknblpkegekaaW.PrintMore
set_option linter.unusedVariables false
theorem and_u64 (x : Int) (h : 0 ≤ x ∧ x < 18446744073709551616) : Go.bits .and .u64 x 65535 = x % 65536 := by
  obtain ⟨a, rfl⟩ : ∃ a : Nat, x = a := ⟨x.toNat, by omega⟩
  have ha : a < 2 ^ 64 := by omega
  have e1 : (65535 : Int) = ((2 ^ 16 - 1 : Nat) : Int) := by decide
  simp only [Go.bits]
  rw [e1, BitVec.ofInt_natCast, BitVec.ofInt_natCast, BitVec.toNat_and, BitVec.toNat_ofNat, BitVec.toNat_ofNat]
  have hb : IntKind.u64.bits = 64 := rfl
  rw [hb, Nat.mod_eq_of_lt ha, Nat.mod_eq_of_lt (by decide), Nat.and_two_pow_sub_one_eq_mod]
  rw [IntKind.wrap_u64]
  omega
/-- The limb's digit j. -/
def dg (x : Int) (j : Nat) : Int := x / 65536 ^ j % 65536
theorem dg_in (x : Int) (j : Nat) : 0 ≤ dg x j ∧ dg x j < 65536 := by
  unfold dg
  constructor
  · exact Int.emod_nonneg _ (by decide)
  · exact Int.emod_lt_of_pos _ (by decide)
theorem In_step (l x3 : List Int) (i : Nat) (j : Nat) (hj : j < 4) (hi : i < l.length) (hl : Lim l) (hb : x3.length < 35184372088832) (k : Nat) :
    quipuref01_In.l1 (k + 1) l x3 i j = quipuref01_In.l1 k l (x3 ++ [dg (l.getD i 0) j]) i ((j + 1 : Nat) : Int) := by
  have hx := hl.getD i
  have e0 : rd l i = l.getD i 0 := rfl
  have hc1 : ((16 * j : Nat) : Int) = 16 * (j : Int) := by push_cast; rfl
  have w1 : wrap64 (16 * (j : Int)) = ((16 * j : Nat) : Int) := by rw [hc1]; unfold wrap64; omega
  have w2 : wrap64 ((j : Int) + 1) = ((j + 1 : Nat) : Int) := by unfold wrap64; omega
  simp only [quipuref01_In.l1]
  rw [if_pos (by omega), if_pos (by omega), if_pos (by omega), w1, if_pos (by omega), if_pos hb, w2, e0]
  have e1 : shr .u64 (l.getD i 0) ((16 * j : Nat) : Int) = l.getD i 0 / 65536 ^ j := by
    unfold shr
    rw [Int.toNat_natCast, Nat.min_eq_left (show 16 * j ≤ IntKind.u64.bits by show 16 * j ≤ 64; omega), Int.pow_mul]
    rfl
  rw [e1]
  have hp : (0 : Int) < 65536 ^ j := by
    match j, hj with
    | 0, _ => decide
    | 1, _ => decide
    | 2, _ => decide
    | 3, _ => decide
  have h1 : 0 ≤ l.getD i 0 / 65536 ^ j := Int.ediv_nonneg hx.1 (by omega)
  have h2 : l.getD i 0 / 65536 ^ j < 18446744073709551616 := Int.lt_of_le_of_lt (Int.ediv_le_self _ hx.1) hx.2
  rw [and_u64 _ ⟨h1, h2⟩]
  have h3 := dg_in (l.getD i 0) j
  have e3 : l.getD i 0 / 65536 ^ j % 65536 = dg (l.getD i 0) j := rfl
  rw [e3, show dg (l.getD i 0) j % 4294967296 = dg (l.getD i 0) j from Int.emod_eq_of_lt h3.1 (by omega)]
theorem In_four (l x3 : List Int) (i : Nat) (hi : i < l.length) (hl : Lim l) (hb : x3.length + 4 < 35184372088832) (hlb : l.length ≤ 1099511627776) (k : Nat) :
    quipuref01_In.l0 (k + 6) l x3 i = quipuref01_In.l0 k l (x3 ++ [dg (l.getD i 0) 0, dg (l.getD i 0) 1, dg (l.getD i 0) 2, dg (l.getD i 0) 3]) ((i + 1 : Nat) : Int) := by
  have s : quipuref01_In.l0 (k + 6) l x3 i = quipuref01_In.l1 (k + 5) l x3 i ((0 : Nat) : Int) := by
    simp only [quipuref01_In.l0]
    rw [if_pos (by omega)]
    rfl
  rw [s, In_step l _ i 0 (by decide) hi hl (by omega) (k + 4), In_step l _ i (0 + 1) (by decide) hi hl (by simp; omega) (k + 3), In_step l _ i (0 + 1 + 1) (by decide) hi hl (by simp; omega) (k + 2), In_step l _ i (0 + 1 + 1 + 1) (by decide) hi hl (by simp; omega) (k + 1)]
  simp only [quipuref01_In.l1]
  rw [if_neg (by decide)]
  have w2 : wrap64 ((i : Int) + 1) = ((i + 1 : Nat) : Int) := by unfold wrap64; omega
  rw [w2]
  simp
theorem four_val (x : Int) (h : 0 ≤ x ∧ x < 18446744073709551616) : dval [dg x 0, dg x 1, dg x 2, dg x 3] = x.toNat := by
  obtain ⟨a, rfl⟩ : ∃ a : Nat, x = a := ⟨x.toNat, by omega⟩
  have e : ∀ j : Nat, (dg (a : Int) j).toNat = a / 65536 ^ j % 65536 := fun j => by
    unfold dg
    rw [show (65536 : Int) ^ j = ((65536 ^ j : Nat) : Int) by exact (Int.natCast_pow 65536 j).symm, ← Int.natCast_ediv]
    generalize a / 65536 ^ j = z
    omega
  simp only [dval, e]
  have h4 : a < 18446744073709551616 := by omega
  have p0 : (65536 : Nat) ^ 0 = 1 := rfl
  have p1 : (65536 : Nat) ^ 1 = 65536 := rfl
  have p2 : (65536 : Nat) ^ 2 = 4294967296 := rfl
  have p3 : (65536 : Nat) ^ 3 = 281474976710656 := rfl
  rw [p0, p1, p2, p3, Int.toNat_natCast]
  omega
theorem In_loop (l : List Int) (hl : Lim l) (hb : l.length ≤ 1099511627776) (k : Nat) : ∀ (d i : Nat) (x3 : List Int), i + d = l.length → x3.length = 4 * i → Dig x3 → dval x3 = val (l.take i) →
    quipuref01_In.l0 (k + 6 * d + 4 * l.length + 2) l x3 i = some (digs (val l)) := by
  intro d
  induction d with
  | zero =>
    intro i x3 hi hx hd hv
    obtain ⟨K, hK⟩ : ∃ K, K = k + 4 * l.length + 1 := ⟨_, rfl⟩
    rw [show k + 6 * 0 + 4 * l.length + 2 = K + 1 by omega]
    simp only [quipuref01_In.l0]
    rw [if_neg (by omega)]
    have h := rtrim_eq x3 hd (by omega) (k + 4 * l.length - x3.length)
    rw [show k + 4 * l.length - x3.length + x3.length + 1 = K by omega, hv, List.take_of_length_le (by omega)] at h
    rw [h]; rfl
  | succ d ih =>
    intro i x3 hi hx hd hv
    rw [show k + 6 * (d + 1) + 4 * l.length + 2 = (k + 6 * d + 4 * l.length + 2) + 6 by omega, In_four l x3 i (by omega) hl (by omega) hb]
    refine ih (i + 1) _ (by omega) (by simp; omega) (hd.app ?_) ?_
    · intro y hy
      simp at hy
      rcases hy with h | h | h | h <;> (subst h; exact dg_in _ _)
    · rw [dval_app, four_val _ (hl.getD i), hx, hv, take_getD, Nat.pow_mul]
/-- What 'In' answers. -/
theorem In_eq (l : List Int) (hl : Lim l) (hb : l.length ≤ 1099511627776) (k : Nat) : quipuref01_In.f (k + 10 * l.length + 2) l = some (digs (val l)) := by
  have h := In_loop l hl hb k l.length 0 [] (by omega) rfl Dig.nil rfl
  rw [show k + 6 * l.length + 4 * l.length + 2 = k + 10 * l.length + 2 by omega] at h
  exact h
theorem Same_loop (l : List Int) (hb : l.length ≤ 9223372036854775806) (k : Nat) : ∀ (d i : Nat), i + d = l.length → quipuref01_Same.l0 (k + d + 1) l l i = some true := by
  intro d
  induction d with
  | zero =>
    intro i hi
    simp only [quipuref01_Same.l0]
    rw [if_neg (by omega)]
  | succ d ih =>
    intro i hi
    obtain ⟨K, hK⟩ : ∃ K, K = k + d + 1 := ⟨_, rfl⟩
    rw [show k + (d + 1) + 1 = K + 1 by omega]
    simp only [quipuref01_Same.l0]
    have w2 : wrap64 ((i : Int) + 1) = ((i + 1 : Nat) : Int) := by unfold wrap64; omega
    rw [if_pos (by omega), if_pos (by omega), if_pos (by omega), if_pos trivial, w2, hK]
    exact ih (i + 1) (by omega)
theorem Same_refl (l : List Int) (hb : l.length ≤ 9223372036854775806) (k : Nat) : quipuref01_Same.f (k + l.length + 1) l l = some true := by
  unfold quipuref01_Same.f
  rw [if_pos rfl]
  exact Same_loop l hb k l.length 0 (by omega)
open Go.RowKit Go.Proofs.YtfaknblpkegekaaW.PrintWords Go.Proofs.YtfaknblpkegekaaW.PrintLast Go.Proofs.YtfaknblpkegekaaW.PrintMore
set_option linter.unusedVariables false
theorem dtake_succ_val (l : List Int) (m : Nat) : dval (l.take (m + 1)) = dval (l.take m) + 65536 ^ m * (rd l m).toNat := by
  rw [dtake_getD]; rfl
theorem rCmp_loop (x y : List Int) (hx : Dig x) (hy : Dig y) (hl : x.length = y.length) (hb : x.length ≤ 9223372036854775806) (k : Nat) : ∀ m, m ≤ x.length → quipuref01_Cmp.l0 (k + m + 1) x y ((m : Int) - 1) = some (cmpN (dval (x.take m)) (dval (y.take m)))
  | 0, _ => by
    simp only [quipuref01_Cmp.l0]
    rw [if_neg (by omega)]
    simp [dval, cmpN]
  | m + 1, hm => by
    obtain ⟨K, hK⟩ : ∃ K, K = k + m + 1 := ⟨_, rfl⟩
    rw [show k + (m + 1) + 1 = K + 1 by omega]
    simp only [quipuref01_Cmp.l0]
    have e0 : ((m + 1 : Nat) : Int) - 1 = (m : Int) := by omega
    rw [e0, if_pos (by omega), if_pos (by omega), if_pos (by omega), if_pos (by omega)]
    have hxm : 0 ≤ rd x m ∧ rd x m < 65536 := hx.getD _
    have hym : 0 ≤ rd y m ∧ rd y m < 65536 := hy.getD _
    rw [dtake_succ_val x m, dtake_succ_val y m]
    have ax := dval_lt (x.take m) (hx.take m)
    have ay := dval_lt (y.take m) (hy.take m)
    rw [List.length_take, Nat.min_eq_left (by omega)] at ax ay
    rcases Int.lt_trichotomy (rd x m) (rd y m) with h | h | h
    · rw [if_pos h]
      congr 1
      unfold cmpN
      have h1 : (rd x m).toNat + 1 ≤ (rd y m).toNat := by omega
      have h2 := Nat.mul_le_mul_left (65536 ^ m) h1
      rw [Nat.mul_add] at h2
      rw [if_pos (by omega)]
    · have e1 : wrap64 ((m : Int) - 1) = (m : Int) - 1 := by unfold wrap64; omega
      rw [if_neg (by omega), if_neg (by omega), h, e1, hK, rCmp_loop x y hx hy hl hb k m (by omega), cmpN_add]
    · rw [if_neg (by omega), if_pos h]
      congr 1
      unfold cmpN
      have h1 : (rd y m).toNat + 1 ≤ (rd x m).toNat := by omega
      have h2 := Nat.mul_le_mul_left (65536 ^ m) h1
      rw [Nat.mul_add] at h2
      rw [if_neg (by omega), if_pos (by omega)]
/-- What the document's 'Cmp' answers. -/
theorem rCmp_eq (x y : List Int) (hx : Dig x) (hy : Dig y) (hbx : x.length ≤ 8796093022208) (hby : y.length ≤ 8796093022208) (k : Nat) : quipuref01_Cmp.f (k + x.length + y.length + 2) x y = some (cmpN (dval x) (dval y)) := by
  unfold quipuref01_Cmp.f
  have t0 := rtrim_eq x hx (by omega) (k + y.length + 1)
  have t1 := rtrim_eq y hy (by omega) (k + x.length + 1)
  rw [show k + x.length + y.length + 2 = k + y.length + 1 + x.length + 1 by omega, t0, show k + y.length + 1 + x.length + 1 = k + x.length + 1 + y.length + 1 by omega, t1, Option.bind_some, Option.bind_some]
  have lx := digs_le x hx
  have ly := digs_le y hy
  by_cases c : ((digs (dval x)).length : Int) = (digs (dval y)).length
  · have c' : (digs (dval x)).length = (digs (dval y)).length := by omega
    rw [if_pos c]
    have e1 : wrap64 (((digs (dval x)).length : Int) - 1) = ((digs (dval x)).length : Int) - 1 := by unfold wrap64; omega
    have h := rCmp_loop (digs (dval x)) (digs (dval y)) (digs_lim _) (digs_lim _) c' (by omega) (k + x.length + y.length + 1 - (digs (dval x)).length) (digs (dval x)).length (Nat.le_refl _)
    rw [e1, show k + x.length + 1 + y.length + 1 = k + x.length + y.length + 1 - (digs (dval x)).length + (digs (dval x)).length + 1 by omega, h, List.take_length]
    rw [show (digs (dval y)).take (digs (dval x)).length = digs (dval y) by rw [c', List.take_length], digs_dval, digs_dval]
  · rw [if_neg c]
    unfold cmpN
    rcases Int.lt_or_gt_of_ne c with h | h
    · have := digs_len_lt (show (digs (dval x)).length < (digs (dval y)).length by omega)
      rw [if_pos h, if_pos this]
    · have := digs_len_lt (show (digs (dval y)).length < (digs (dval x)).length by omega)
      rw [if_neg (by omega), if_neg (by omega), if_pos this]
open Go.RowKit Go.Proofs.YtfaknblpkegekaaW.PrintWords Go.Proofs.YtfaknblpkegekaaW.PrintLast Go.Proofs.YtfaknblpkegekaaW.PrintMore
set_option linter.unusedVariables false
theorem canon (xs : List Int) (h : Lim xs) (hp : xs ≠ [] → 18446744073709551616 ^ (xs.length - 1) ≤ val xs) : limbs (val xs) = xs := by
  by_cases c : xs = []
  · subst c; rfl
  · obtain ⟨m, y, rfl⟩ : ∃ m y, xs = m ++ [y] := ⟨xs.dropLast, xs.getLast c, (List.dropLast_concat_getLast _).symm⟩
    have hy := h y (by simp)
    have hm : Lim m := fun z hz => h z (List.mem_append_left _ hz)
    by_cases z : y = 0
    · subst z
      have h1 := hp c
      rw [val_snoc0] at h1
      have h2 := val_lt m hm
      simp at h1
      omega
    · exact limbs_val_snoc m y hm (by omega) hy.2
theorem or_low (c a r : Nat) (hc : c < 2 ^ r) (hr : r ≤ 48) (ha : a < 65536) (hb : a * 2 ^ r < 2 ^ 64) : Go.bits .or .u64 (c : Int) ((a * 2 ^ r : Nat) : Int) = ((c + a * 2 ^ r : Nat) : Int) := by
  have hc2 : c < 2 ^ 64 := Nat.lt_of_lt_of_le hc (Nat.pow_le_pow_right (by decide) (by omega))
  have hs : c + a * 2 ^ r < 2 ^ 64 := by
    have h1 : (a + 1) * 2 ^ r ≤ 65536 * 2 ^ r := Nat.mul_le_mul_right _ (by omega)
    have h2 : 65536 * 2 ^ r ≤ 65536 * 2 ^ 48 := Nat.mul_le_mul_left _ (Nat.pow_le_pow_right (by decide) hr)
    have h3 : 65536 * 2 ^ 48 = 2 ^ 64 := by decide
    rw [Nat.add_mul] at h1
    omega
  simp only [Go.bits]
  have hb64 : IntKind.u64.bits = 64 := rfl
  rw [BitVec.ofInt_natCast, BitVec.ofInt_natCast, BitVec.toNat_or, BitVec.toNat_ofNat, BitVec.toNat_ofNat, hb64, Nat.mod_eq_of_lt hc2, Nat.mod_eq_of_lt hb]
  have e : c ||| a * 2 ^ r = c + a * 2 ^ r := by
    have := Nat.shiftLeft_add_eq_or_of_lt hc a
    rw [Nat.shiftLeft_eq] at this
    rw [Nat.or_comm, ← this, Nat.add_comm]
  rw [e, IntKind.wrap_u64]
  have e2 : (2 : Nat) ^ 64 = 18446744073709551616 := by decide
  rw [e2] at hs
  generalize c + a * 2 ^ r = z at hs ⊢
  omega
theorem shl_put (a r : Nat) (ha : a < 65536) (hr : r ≤ 48) (hb : a * 2 ^ r < 2 ^ 64) : shl .u64 (IntKind.u64.wrap (a : Int)) (r : Int) = ((a * 2 ^ r : Nat) : Int) := by
  unfold shl
  rw [Int.toNat_natCast, Nat.min_eq_left (show r ≤ IntKind.u64.bits by show r ≤ 64; omega), IntKind.wrap_u64, IntKind.wrap_u64]
  have e1 : (a : Int) % 18446744073709551616 = a := by omega
  have e2 : (a : Int) * 2 ^ r = ((a * 2 ^ r : Nat) : Int) := by
    rw [Int.natCast_mul, Int.natCast_pow]; rfl
  have e3 : (2 : Nat) ^ 64 = 18446744073709551616 := by decide
  rw [e1, e2]
  rw [e3] at hb
  generalize a * 2 ^ r = z at hb ⊢
  omega
/-- One step: what stands at the limb, with the next digit laid above. -/
theorem put_eq (c a : Int) (r : Nat) (hr : r < 4) (hc : 0 ≤ c ∧ c < 65536 ^ r) (ha : 0 ≤ a ∧ a < 65536) :
    Go.bits .or .u64 c (shl .u64 (IntKind.u64.wrap a) (wrap64 (16 * (r : Int)))) = c + a * 65536 ^ r ∧ 0 ≤ c + a * 65536 ^ r ∧ c + a * 65536 ^ r < 65536 ^ (r + 1) := by
  obtain ⟨c, rfl⟩ : ∃ n : Nat, c = n := ⟨c.toNat, by omega⟩
  obtain ⟨a, rfl⟩ : ∃ n : Nat, a = n := ⟨a.toNat, by omega⟩
  have hw : wrap64 (16 * (r : Int)) = ((16 * r : Nat) : Int) := by
    rw [show ((16 * r : Nat) : Int) = 16 * (r : Int) by push_cast; rfl]; unfold wrap64; omega
  have hp : (2 : Nat) ^ (16 * r) = 65536 ^ r := by rw [Nat.pow_mul]
  have hcn : c < 65536 ^ r := by
    have h := hc.2
    rw [show (65536 : Int) ^ r = ((65536 ^ r : Nat) : Int) from (Int.natCast_pow 65536 r).symm] at h
    exact Int.ofNat_lt.1 h
  have han : a < 65536 := by omega
  have hlt : a * 65536 ^ r < 65536 ^ (r + 1) := by
    rw [Nat.pow_succ, Nat.mul_comm]
    exact (Nat.mul_lt_mul_left (Nat.pow_pos (by decide))).2 han
  have hle : (65536 : Nat) ^ (r + 1) ≤ 2 ^ 64 := by
    have h1 : (65536 : Nat) ^ (r + 1) ≤ 65536 ^ 4 := Nat.pow_le_pow_right (by decide) (by omega)
    have h2 : (65536 : Nat) ^ 4 = 2 ^ 64 := by decide
    omega
  have hs : c + a * 65536 ^ r < 65536 ^ (r + 1) := by
    have h1 : (a + 1) * 65536 ^ r ≤ 65536 * 65536 ^ r := Nat.mul_le_mul_right _ (by omega)
    rw [Nat.add_mul] at h1
    rw [Nat.pow_succ, Nat.mul_comm (65536 ^ r)]
    omega
  have e := or_low c a (16 * r) (by rw [hp]; exact hcn) (by omega) han (by rw [hp]; omega)
  have e0 := shl_put a (16 * r) han (by omega) (by rw [hp]; omega)
  rw [hw, e0, e, hp]
  have ec : ((c + a * 65536 ^ r : Nat) : Int) = (c : Int) + a * 65536 ^ r := by
    rw [Int.natCast_add, Int.natCast_mul, Int.natCast_pow]; rfl
  refine ⟨ec, by rw [← ec]; omega, ?_⟩
  rw [← ec, show (65536 : Int) ^ (r + 1) = ((65536 ^ (r + 1) : Nat) : Int) from (Int.natCast_pow 65536 (r + 1)).symm]
  exact Int.ofNat_lt.2 hs
theorem pow_four (q : Nat) : (65536 : Nat) ^ (4 * q) = 18446744073709551616 ^ q := by rw [Nat.pow_mul]
theorem w_succ (i : Nat) (h : i < 9223372036854775806) : wrap64 ((i : Int) + 1) = ((i + 1 : Nat) : Int) := by unfold wrap64; omega
theorem w_16 (r : Nat) (h : r < 4) : (0 ≤ wrap64 (16 * (r : Int))) = True := by
  have : 0 ≤ wrap64 (16 * (r : Int)) := by unfold wrap64; omega
  simp [this]
theorem w_q (i : Nat) (h : i < 9223372036854775806) : wrap64 (Int.tdiv (i : Int) 4) = ((i / 4 : Nat) : Int) := by
  rw [Int.tdiv_eq_ediv_of_nonneg (by omega)]; unfold wrap64; omega
theorem t_m (i : Nat) : Int.tmod (i : Int) 4 = ((i % 4 : Nat) : Int) := by rw [Int.tmod_eq_emod_of_nonneg (by omega)]; omega
/-- How the limbs stand where i digits are laid. -/
def OutI (x0 : List Int) (i : Nat) (x3 : List Int) : Prop := Lim x3 ∧ x3.length = (i + 3) / 4 ∧ val x3 = dval (x0.take i) ∧ (i % 4 ≠ 0 → x3.getD (i / 4) 0 < 65536 ^ (i % 4))
theorem OutI_next (x0 m : List Int) (i : Nat) (c : Int) (hx : Dig x0) (hm : Lim m) (hml : m.length = i / 4) (hc : 0 ≤ c ∧ c < 65536 ^ (i % 4)) (hv : val m + 18446744073709551616 ^ (i / 4) * c.toNat = dval (x0.take i)) :
    OutI x0 (i + 1) (m ++ [c + x0.getD i 0 * 65536 ^ (i % 4)]) := by
  have ha := hx.getD i
  have hr : i % 4 < 4 := Nat.mod_lt _ (by decide)
  obtain ⟨_, hv0, hv1⟩ := put_eq c (x0.getD i 0) (i % 4) hr hc ha
  have hB : c + x0.getD i 0 * 65536 ^ (i % 4) < 18446744073709551616 := by
    have h1 : (65536 : Int) ^ (i % 4 + 1) ≤ 18446744073709551616 := by
      generalize i % 4 = r at hr
      match r, hr with
      | 0, _ => decide
      | 1, _ => decide
      | 2, _ => decide
      | 3, _ => decide
    omega
  refine ⟨hm.app (Lim.one hv0 hB), by rw [List.length_append]; simp; omega, ?_, ?_⟩
  · rw [val_app, val_one, hml, dtake_getD, ← hv]
    have e1 : (c + x0.getD i 0 * 65536 ^ (i % 4)).toNat = c.toNat + (x0.getD i 0).toNat * 65536 ^ (i % 4) := by
      obtain ⟨n, hn⟩ : ∃ n : Nat, c = n := ⟨c.toNat, by omega⟩
      obtain ⟨a, hna⟩ : ∃ n : Nat, x0.getD i 0 = n := ⟨(x0.getD i 0).toNat, by omega⟩
      rw [hn, hna, show ((n : Int) + (a : Int) * 65536 ^ (i % 4)) = ((n + a * 65536 ^ (i % 4) : Nat) : Int) by rw [Int.natCast_add, Int.natCast_mul, Int.natCast_pow]; rfl]
      simp only [Int.toNat_natCast]
    have e2 : (65536 : Nat) ^ i = 18446744073709551616 ^ (i / 4) * 65536 ^ (i % 4) := by
      rw [← pow_four, ← Nat.pow_add]; congr 1; omega
    rw [e1, e2, Nat.mul_add, Nat.mul_comm (x0.getD i 0).toNat, ← Nat.mul_assoc]
    omega
  · intro hne
    have e1 : (i + 1) / 4 = i / 4 := by omega
    have e2 : (i + 1) % 4 = i % 4 + 1 := by omega
    rw [e1, e2, List.getD_eq_getElem?_getD, ← hml]
    simp
    exact hv1
theorem Out_loop (x0 : List Int) (hx : Dig x0) (hb : x0.length ≤ 8796093022208) (hcan : x0 ≠ [] → 65536 ^ (x0.length - 1) ≤ dval x0) (k : Nat) : ∀ (d i : Nat) (x3 : List Int), i + d = x0.length → OutI x0 i x3 →
    quipuref01_Out.l0 (k + d + 1) x0 x3 i = some (limbs (dval x0)) := by
  intro d
  induction d with
  | zero =>
    intro i x3 hi hI
    simp only [quipuref01_Out.l0]
    rw [if_neg (by omega)]
    obtain ⟨hL, hlen, hv, _⟩ := hI
    rw [List.take_of_length_le (by omega)] at hv
    congr 1
    rw [← hv]
    refine (canon x3 hL (fun hne => ?_)).symm
    have hx0 : x0 ≠ [] := by
      intro e
      subst e
      have : x3.length = 0 := by rw [hlen]; simp at hi; subst hi; rfl
      exact hne (List.eq_nil_of_length_eq_zero this)
    have h1 := hcan hx0
    have hpos : 0 < x0.length := List.length_pos_iff.2 hx0
    have h2 : (65536 : Nat) ^ (4 * (x3.length - 1)) ≤ 65536 ^ (x0.length - 1) := Nat.pow_le_pow_right (by decide) (by omega)
    rw [pow_four] at h2
    rw [hv]
    omega
  | succ d ih =>
    intro i x3 hi hI
    obtain ⟨K, hK⟩ : ∃ K, K = k + d + 1 := ⟨_, rfl⟩
    rw [show k + (d + 1) + 1 = K + 1 by omega]
    simp only [quipuref01_Out.l0]
    obtain ⟨hL, hlen, hv, hlast⟩ := hI
    have hr : i % 4 < 4 := Nat.mod_lt _ (by decide)
    have ha := hx.getD i
    have ea : rd x0 i = x0.getD i 0 := rfl
    have hi9 : i < 9223372036854775806 := by omega
    rw [if_pos (by omega), t_m i, w_q i hi9, w_succ i hi9, ea]
    have w3 := w_16 (i % 4) hr
    by_cases c0 : i % 4 = 0
    · rw [if_pos (by omega), if_pos (by omega), Option.bind_some]
      have hq : x3.length = i / 4 := by omega
      have hget : rd (x3 ++ [0]) ((i / 4 : Nat) : Int) = 0 := by
        rw [show rd (x3 ++ [0]) ((i / 4 : Nat) : Int) = (x3 ++ [0]).getD (i / 4) 0 from rfl, List.getD_eq_getElem?_getD, ← hq]; simp
      obtain ⟨p1, _, _⟩ := put_eq 0 (x0.getD i 0) (i % 4) hr ⟨Int.le_refl _, by rw [c0]; decide⟩ ha
      have hn := OutI_next x0 x3 i 0 hx hL hq ⟨Int.le_refl _, by rw [c0]; decide⟩ (by rw [hv]; simp)
      rw [if_pos (by omega), if_pos (by simp; omega), if_pos (by omega), if_pos (of_eq_true w3), hget, p1, Int.toNat_natCast]
      have hset : (x3 ++ ([0] : List Int)).set (i / 4) ((0 : Int) + x0.getD i 0 * 65536 ^ (i % 4)) = x3 ++ [(0 : Int) + x0.getD i 0 * 65536 ^ (i % 4)] := by rw [← hq]; simp
      rw [hset]
      rw [hK]
      exact ih (i + 1) _ (by omega) hn
    · rw [if_neg (by omega)]
      have hq : x3.length = i / 4 + 1 := by omega
      obtain ⟨m, c, rfl⟩ : ∃ m c, x3 = m ++ [c] := ⟨x3.dropLast, x3.getLast (by intro e; subst e; simp at hq), (List.dropLast_concat_getLast _).symm⟩
      have hml : m.length = i / 4 := by simp at hq; exact hq
      have hget : (m ++ [c]).getD (i / 4) 0 = c := by rw [List.getD_eq_getElem?_getD, ← hml]; simp
      have hget2 : rd (m ++ [c]) ((i / 4 : Nat) : Int) = c := hget
      have hc := hlast c0
      rw [hget] at hc
      have hc0 := (hL c (by simp)).1
      obtain ⟨p1, _, _⟩ := put_eq c (x0.getD i 0) (i % 4) hr ⟨hc0, hc⟩ ha
      have hn := OutI_next x0 m i c hx (fun z hz => hL z (List.mem_append_left _ hz)) hml ⟨hc0, hc⟩ (by rw [← hv, val_app, val_one, hml])
      rw [if_pos (by omega), if_pos (by omega), if_pos (by omega), if_pos (of_eq_true w3), hget2, p1, Int.toNat_natCast]
      have hset : (m ++ [c]).set (i / 4) (c + x0.getD i 0 * 65536 ^ (i % 4)) = m ++ [c + x0.getD i 0 * 65536 ^ (i % 4)] := by rw [← hml]; simp
      rw [hset]
      rw [hK]
      exact ih (i + 1) _ (by omega) hn
/-- What 'Out' answers. -/
theorem Out_eq (x : List Int) (hx : Dig x) (hb : x.length ≤ 8796093022208) (k : Nat) : quipuref01_Out.f (k + x.length + 1) x = some (limbs (dval x)) := by
  unfold quipuref01_Out.f
  rw [rtrim_eq x hx (by omega) k, Option.bind_some]
  have hl := digs_le x hx
  have hcan : digs (dval x) ≠ [] → 65536 ^ ((digs (dval x)).length - 1) ≤ dval (digs (dval x)) := fun h => by
    rw [digs_dval]
    exact digs_pow _ (by intro e; rw [e] at h; exact h rfl)
  have h := Out_loop (digs (dval x)) (digs_lim _) (by omega) hcan (k + x.length - (digs (dval x)).length) (digs (dval x)).length 0 [] (by omega) ⟨Lim.nil, rfl, rfl, fun h => absurd rfl h⟩
  rw [show k + x.length - (digs (dval x)).length + (digs (dval x)).length + 1 = k + x.length + 1 by omega, digs_dval] at h
  exact h
open Go.RowKit Go.Proofs.YtfaknblpkegekaaW.PrintWords Go.Proofs.YtfaknblpkegekaaW.PrintLast Go.Proofs.YtfaknblpkegekaaW.PrintMore
set_option linter.unusedVariables false
theorem digs_len (n L : Nat) (h : n < 65536 ^ L) : (digs n).length ≤ L := by
  by_cases c : n = 0
  · subst c; rw [digs_zero]; simp
  · have h1 := digs_pow n c
    rcases Nat.lt_or_ge L (digs n).length with h2 | h2
    · exfalso
      have h3 : (65536 : Nat) ^ L ≤ 65536 ^ ((digs n).length - 1) := Nat.pow_le_pow_right (by decide) (by omega)
      omega
    · exact h2
theorem limbs_len (n L : Nat) (h : n < 18446744073709551616 ^ L) : (limbs n).length ≤ L := by
  by_cases c : n = 0
  · subst c; rw [limbs_zero]; simp
  · have h1 := limbs_pow n c
    rcases Nat.lt_or_ge L (limbs n).length with h2 | h2
    · exfalso
      have h3 : (18446744073709551616 : Nat) ^ L ≤ 18446744073709551616 ^ ((limbs n).length - 1) := Nat.pow_le_pow_right (by decide) (by omega)
      omega
    · exact h2
theorem val_digs_len (l : List Int) (h : Lim l) : (digs (val l)).length ≤ 4 * l.length := digs_len _ _ (by rw [pow_four]; exact val_lt l h)
theorem In_ge (l : List Int) (hl : Lim l) (hb : l.length ≤ 1099511627776) (K : Nat) (hK : 10 * l.length + 2 ≤ K) : quipuref01_In.f K l = some (digs (val l)) := by
  have h := In_eq l hl hb (K - 10 * l.length - 2)
  rwa [show K - 10 * l.length - 2 + 10 * l.length + 2 = K by omega] at h
theorem Same_ge (l : List Int) (hb : l.length ≤ 9223372036854775806) (K : Nat) (hK : l.length + 1 ≤ K) : quipuref01_Same.f K l l = some true := by
  have h := Same_refl l hb (K - l.length - 1)
  rwa [show K - l.length - 1 + l.length + 1 = K by omega] at h
theorem Out_ge (n : Nat) (hb : (digs n).length ≤ 8796093022208) (K : Nat) (hK : (digs n).length + 1 ≤ K) : quipuref01_Out.f K (digs n) = some (limbs n) := by
  have h := Out_eq (digs n) (digs_lim n) hb (K - (digs n).length - 1)
  rwa [show K - (digs n).length - 1 + (digs n).length + 1 = K by omega, digs_dval] at h
end Go.Proofs.Ytfaknblpkegekaa.Q
