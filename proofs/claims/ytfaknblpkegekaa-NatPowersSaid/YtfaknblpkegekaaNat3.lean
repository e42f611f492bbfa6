/- Plain laws of digits of sixteen bits. -/
import Derived.Test.YtfaknblpkegekaaNat1
namespace Go.Proofs.Ytfaknblpkegekaa.Q
open Go.RowKit
set_option linter.unusedVariables false
/-- The number that digs are, the lowest first. -/
def dval : List Int → Nat
  | [] => 0
  | x :: l => x.toNat + 65536 * dval l
/-- A number's digs, the lowest first, without noughts on top. -/
def digsF : Nat → Nat → List Int
  | 0, _ => []
  | f + 1, n => if n = 0 then [] else ((n % 65536 : Nat) : Int) :: digsF f (n / 65536)
def digs (n : Nat) : List Int := digsF n n
/-- Are these digs? -/
def Dig (l : List Int) : Prop := ∀ x ∈ l, 0 ≤ x ∧ x < 65536
def wfd (l : List Int) : Bool := l.all (fun x => decide (0 ≤ x) && decide (x < 65536)) && decide (l.length ≤ 1099511627776)
theorem wfd_out {l : List Int} (h : wfd l = true) : Dig l ∧ l.length ≤ 1099511627776 := by
  unfold wfd at h
  simp only [Bool.and_eq_true, List.all_eq_true, decide_eq_true_eq] at h
  exact ⟨h.1, h.2⟩
theorem wfd_in {l : List Int} (h : Dig l) (h1 : l.length ≤ 1099511627776) : wfd l = true := by
  unfold wfd
  simp only [Bool.and_eq_true, List.all_eq_true, decide_eq_true_eq]
  exact ⟨h, h1⟩
theorem Dig.nil : Dig [] := fun _ h => absurd h List.not_mem_nil
theorem Dig.app {a b : List Int} (ha : Dig a) (hb : Dig b) : Dig (a ++ b) := fun x hx => by
  rcases List.mem_append.1 hx with h | h
  · exact ha x h
  · exact hb x h
theorem Dig.one {x : Int} (h0 : 0 ≤ x) (h1 : x < 65536) : Dig [x] := fun y hy => by
  rw [List.mem_singleton] at hy; subst hy; exact ⟨h0, h1⟩
theorem Dig.take {l : List Int} (h : Dig l) (n : Nat) : Dig (l.take n) := fun x hx => h x (List.mem_of_mem_take hx)
theorem Dig.getD {l : List Int} (h : Dig l) (i : Nat) : 0 ≤ l.getD i 0 ∧ l.getD i 0 < 65536 := by
  rw [List.getD_eq_getElem?_getD]
  by_cases c : i < l.length
  · rw [List.getElem?_eq_getElem c]; exact h _ (List.getElem_mem c)
  · rw [List.getElem?_eq_none (by omega)]; exact ⟨by decide, by decide⟩
theorem dval_app : ∀ a b : List Int, dval (a ++ b) = dval a + 65536 ^ a.length * dval b
  | [], b => by simp [dval]
  | x :: a, b => by
    simp only [List.cons_append, dval, List.length_cons, dval_app a b, Nat.pow_succ]
    rw [Nat.mul_comm (65536 ^ a.length) 65536, Nat.mul_assoc 65536]
    omega
theorem dval_one (x : Int) : dval [x] = x.toNat := by simp [dval]
theorem dval_lt : ∀ (l : List Int), Dig l → dval l < 65536 ^ l.length
  | [], _ => by simp [dval]
  | x :: l, h => by
    have ih := dval_lt l (fun y hy => h y (List.mem_cons_of_mem _ hy))
    have hx := h x List.mem_cons_self
    simp only [dval, List.length_cons, Nat.pow_succ]
    have h1 : x.toNat < 65536 := by show x.toNat < 65536; omega
    have h2 : dval l + 1 ≤ 65536 ^ l.length := ih
    have h3 := Nat.mul_le_mul_left 65536 h2
    rw [Nat.mul_add] at h3
    rw [Nat.mul_comm (65536 ^ l.length) 65536]
    show x.toNat + 65536 * dval l < _
    omega
theorem dtake_getD (l : List Int) (i : Nat) : dval (l.take (i + 1)) = dval (l.take i) + 65536 ^ i * (l.getD i 0).toNat := by
  by_cases c : i < l.length
  · rw [List.take_add_one, List.getD_eq_getElem?_getD, List.getElem?_eq_getElem c, dval_app]
    simp only [Option.toList, Option.getD_some, dval_one, List.length_take]
    rw [Nat.min_eq_left (by omega)]
  · rw [List.take_of_length_le (by omega), List.take_of_length_le (by omega), List.getD_eq_getElem?_getD, List.getElem?_eq_none (by omega)]
    simp
/-! trimmed -/
theorem digsF_more : ∀ (f n : Nat), n ≤ f → ∀ g, n ≤ g → digsF f n = digsF g n
  | 0, n, h, g, hg => by
    obtain rfl : n = 0 := by omega
    cases g <;> simp [digsF]
  | f + 1, n, h, g, hg => by
    by_cases c : n = 0
    · subst c; cases g <;> simp [digsF]
    · cases g with
      | zero => omega
      | succ g =>
        simp only [digsF, if_neg c]
        rw [digsF_more f (n / 65536) (by omega) g (by omega)]
theorem digs_zero : digs 0 = [] := rfl
theorem digs_step (n : Nat) (h : n ≠ 0) : digs n = ((n % 65536 : Nat) : Int) :: digs (n / 65536) := by
  unfold digs
  cases n with
  | zero => exact absurd rfl h
  | succ n =>
    simp only [digsF, if_neg h]
    rw [digsF_more n ((n + 1) / 65536) (by omega) _ (Nat.le_refl _)]
theorem digs_dval_snoc : ∀ (l : List Int) (y : Int), Dig l → 0 < y → y < 65536 → digs (dval (l ++ [y])) = l ++ [y]
  | [], y, _, h0, h1 => by
    show digs (y.toNat + 65536 * 0) = [y]
    rw [digs_step _ (by omega)]
    have e1 : (y.toNat + 65536 * 0) / 65536 = 0 := by omega
    have e2 : (y.toNat + 65536 * 0) % 65536 = y.toNat := by omega
    rw [e1, e2, digs_zero]
    congr 1; omega
  | x :: l, y, h, h0, h1 => by
    have ih := digs_dval_snoc l y (fun z hz => h z (List.mem_cons_of_mem _ hz)) h0 h1
    have hx := h x List.mem_cons_self
    have hpos : 0 < dval (l ++ [y]) := by
      rw [dval_app, dval_one]
      have : 0 < 65536 ^ l.length := Nat.pow_pos (by decide)
      have := Nat.mul_pos this (show 0 < y.toNat by omega)
      omega
    simp only [List.cons_append, dval]
    rw [digs_step _ (by omega)]
    have e1 : (x.toNat + 65536 * dval (l ++ [y])) / 65536 = dval (l ++ [y]) := by omega
    have e2 : (x.toNat + 65536 * dval (l ++ [y])) % 65536 = x.toNat := by omega
    rw [e1, e2, ih]
    congr 1; omega
theorem dval_snoc0 (l : List Int) : dval (l ++ [0]) = dval l := by rw [dval_app]; simp [dval]
theorem dpow_le_of {a b : Nat} (h : a ≤ b) : 65536 ^ a ≤ 65536 ^ b := Nat.pow_le_pow_right (by decide) h
/-! canonical digs -/
theorem digs_lim (n : Nat) : Dig (digs n) := by
  induction n using Nat.strongRecOn with
  | ind n ih =>
    by_cases c : n = 0
    · subst c; exact Dig.nil
    · rw [digs_step n c]
      intro x hx
      rcases List.mem_cons.1 hx with h | h
      · subst h; omega
      · exact ih _ (by omega) x h
theorem digs_dval (n : Nat) : dval (digs n) = n := by
  induction n using Nat.strongRecOn with
  | ind n ih =>
    by_cases c : n = 0
    · subst c; rfl
    · rw [digs_step n c]
      simp only [dval, Int.toNat_natCast]
      rw [ih _ (by omega)]
      exact Nat.mod_add_div n _
theorem digs_pow (n : Nat) (h : n ≠ 0) : 65536 ^ ((digs n).length - 1) ≤ n := by
  induction n using Nat.strongRecOn with
  | ind n ih =>
    rw [digs_step n h]
    by_cases c : n / 65536 = 0
    · rw [c, digs_zero]; simp; omega
    · have := ih _ (by omega) c
      have h1 : 0 < (digs (n / 65536)).length := by
        rw [digs_step _ c]; simp
      simp only [List.length_cons, Nat.add_sub_cancel]
      obtain ⟨m, hm⟩ : ∃ m, (digs (n / 65536)).length = m + 1 := ⟨_, (Nat.succ_pred_eq_of_pos h1).symm⟩
      rw [hm] at this ⊢
      rw [Nat.add_sub_cancel] at this
      rw [Nat.pow_succ]
      generalize 65536 ^ m = P at *
      omega
theorem digs_len_lt {a b : Nat} (h : (digs a).length < (digs b).length) : a < b := by
  have h1 := dval_lt (digs a) (digs_lim a)
  rw [digs_dval] at h1
  have hb : b ≠ 0 := by intro e; subst e; rw [digs_zero] at h; simp at h
  have h2 := digs_pow b hb
  have h3 := dpow_le_of (show (digs a).length ≤ (digs b).length - 1 by omega)
  omega
theorem digs_le (l : List Int) (h : Dig l) : (digs (dval l)).length ≤ l.length := by
  rcases Nat.lt_or_ge l.length (digs (dval l)).length with c | c
  · exfalso
    have hb : dval l ≠ 0 := by intro e; rw [e, digs_zero] at c; simp at c
    have h2 := digs_pow (dval l) hb
    have h1 := dval_lt l h
    have h3 := dpow_le_of (show l.length ≤ (digs (dval l)).length - 1 by omega)
    omega
  · exact c
end Go.Proofs.Ytfaknblpkegekaa.Q
