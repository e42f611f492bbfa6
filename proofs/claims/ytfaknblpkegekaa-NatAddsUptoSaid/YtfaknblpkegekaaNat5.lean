/- Plain laws: what Cmp, SubErr and Sub of the document's answer tell. -/
import Derived.Test.YtfaknblpkegekaaQx8
import Derived.Test.YtfaknblpkegekaaNat4
namespace Go.Proofs.Ytfaknblpkegekaa.Q
open Go.RowKit Go.Proofs.YtfaknblpkegekaaW.PrintWords Go.Proofs.YtfaknblpkegekaaW.PrintLast Go.Proofs.YtfaknblpkegekaaW.PrintMore
set_option linter.unusedVariables false
theorem dtake_succ_val (l : List Int) (m : Nat) : dval (l.take (m + 1)) = dval (l.take m) + 65536 ^ m * (rd l m).toNat := by
  rw [dtake_getD]; rfl
theorem rCmp_loop (x y : List Int) (hx : Dig x) (hy : Dig y) (hl : x.length = y.length) (hb : x.length ≤ 9223372036854775806) (k : Nat) : ∀ m, m ≤ x.length → quipuref01_Cmp.l0 (k + m + 1) x y ((m : Int) - 1) = some (cmpN (dval (x.take m)) (dval (y.take m)))
  | 0, _ => by
    simp only [quipuref01_Cmp.l0]
    rw [if_neg (by omega)]
    simp [dval, cmpN]
  | m + 1, hm => by
    obtain ⟨K, hK⟩ : ∃ K, K = k + m + 1 := ⟨_, rfl⟩
    rw [show k + (m + 1) + 1 = K + 1 by omega]
    simp only [quipuref01_Cmp.l0]
    have e0 : ((m + 1 : Nat) : Int) - 1 = (m : Int) := by omega
    rw [e0, if_pos (by omega), if_pos (by omega), if_pos (by omega), if_pos (by omega)]
    have hxm : 0 ≤ rd x m ∧ rd x m < 65536 := hx.getD _
    have hym : 0 ≤ rd y m ∧ rd y m < 65536 := hy.getD _
    rw [dtake_succ_val x m, dtake_succ_val y m]
    have ax := dval_lt (x.take m) (hx.take m)
    have ay := dval_lt (y.take m) (hy.take m)
    rw [List.length_take, Nat.min_eq_left (by omega)] at ax ay
    rcases Int.lt_trichotomy (rd x m) (rd y m) with h | h | h
    · rw [if_pos h]
      congr 1
      unfold cmpN
      have h1 : (rd x m).toNat + 1 ≤ (rd y m).toNat := by omega
      have h2 := Nat.mul_le_mul_left (65536 ^ m) h1
      rw [Nat.mul_add] at h2
      rw [if_pos (by omega)]
    · have e1 : wrap64 ((m : Int) - 1) = (m : Int) - 1 := by unfold wrap64; omega
      rw [if_neg (by omega), if_neg (by omega), h, e1, hK, rCmp_loop x y hx hy hl hb k m (by omega), cmpN_add]
    · rw [if_neg (by omega), if_pos h]
      congr 1
      unfold cmpN
      have h1 : (rd y m).toNat + 1 ≤ (rd x m).toNat := by omega
      have h2 := Nat.mul_le_mul_left (65536 ^ m) h1
      rw [Nat.mul_add] at h2
      rw [if_neg (by omega), if_pos (by omega)]
/-- What the document's 'Cmp' answers. -/
theorem rCmp_eq (x y : List Int) (hx : Dig x) (hy : Dig y) (hbx : x.length ≤ 8796093022208) (hby : y.length ≤ 8796093022208) (k : Nat) : quipuref01_Cmp.f (k + x.length + y.length + 2) x y = some (cmpN (dval x) (dval y)) := by
  unfold quipuref01_Cmp.f
  have t0 := rtrim_eq x hx (by omega) (k + y.length + 1)
  have t1 := rtrim_eq y hy (by omega) (k + x.length + 1)
  rw [show k + x.length + y.length + 2 = k + y.length + 1 + x.length + 1 by omega, t0, show k + y.length + 1 + x.length + 1 = k + x.length + 1 + y.length + 1 by omega, t1, Option.bind_some, Option.bind_some]
  have lx := digs_le x hx
  have ly := digs_le y hy
  by_cases c : ((digs (dval x)).length : Int) = (digs (dval y)).length
  · have c' : (digs (dval x)).length = (digs (dval y)).length := by omega
    rw [if_pos c]
    have e1 : wrap64 (((digs (dval x)).length : Int) - 1) = ((digs (dval x)).length : Int) - 1 := by unfold wrap64; omega
    have h := rCmp_loop (digs (dval x)) (digs (dval y)) (digs_lim _) (digs_lim _) c' (by omega) (k + x.length + y.length + 1 - (digs (dval x)).length) (digs (dval x)).length (Nat.le_refl _)
    rw [e1, show k + x.length + 1 + y.length + 1 = k + x.length + y.length + 1 - (digs (dval x)).length + (digs (dval x)).length + 1 by omega, h, List.take_length]
    rw [show (digs (dval y)).take (digs (dval x)).length = digs (dval y) by rw [c', List.take_length], digs_dval, digs_dval]
  · rw [if_neg c]
    unfold cmpN
    rcases Int.lt_or_gt_of_ne c with h | h
    · have := digs_len_lt (show (digs (dval x)).length < (digs (dval y)).length by omega)
      rw [if_pos h, if_pos this]
    · have := digs_len_lt (show (digs (dval y)).length < (digs (dval x)).length by omega)
      rw [if_neg (by omega), if_neg (by omega), if_pos this]
end Go.Proofs.Ytfaknblpkegekaa.Q
