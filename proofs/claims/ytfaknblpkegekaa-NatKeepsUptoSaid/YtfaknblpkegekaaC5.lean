import Derived.Test.YtfaknblpkegekaaProg
import Derived.Laws.Externs
import Derived.KernelRfl
import Derived.WalkKit
import Derived.RowKit
import Derived.Laws.BitsLemmas
section
namespace Go.Proofs.Ytfaknblpkegekaa.Q
def add64s (x y c : Int) : Int := (((x.toNat + y.toNat + c.toNat) % 18446744073709551616 : Nat) : Int)
def add64c (x y c : Int) : Int := (((x.toNat + y.toNat + c.toNat) / 18446744073709551616 : Nat) : Int)
def sub64s (x y b : Int) : Int := (((x.toNat + 18446744073709551616 - y.toNat - b.toNat) % 18446744073709551616 : Nat) : Int)
def sub64c (x y b : Int) : Int := ((if x.toNat < y.toNat + b.toNat then 1 else 0 : Nat) : Int)

def sub64Entry : Array Value → Sem Value := fun args => do
  let (x, y, b) ← Extern.MathBitsCarry.three "Sub64" args
  pure (Extern.MathBitsCarry.pair ((x + Extern.MathBitsCarry.m64 - y - b) % Extern.MathBitsCarry.m64) (if x < y + b then 1 else 0))

theorem run_add64_at (x y c : Int) (hc : c ≤ 1) (w : World) :
    (callFunc 42 #[.int .u64 x, .int .u64 y, .int .u64 c]).run Try.prog w = .ok (.value (.tuple #[.int .u64 (add64s x y c), .int .u64 (add64c x y c)])) w := by
  have key : (add64Entry #[.int .u64 x, .int .u64 y, .int .u64 c]).run Try.prog w = .ok (.tuple #[.int .u64 (add64s x y c), .int .u64 (add64c x y c)]) w := by
    have : c = 1 ∨ c ≤ 0 := by omega
    rcases this with rfl | h
    · rfl
    · have hz : c.toNat = 0 := by omega
      obtain ⟨n, hn⟩ : ∃ n : Nat, c = -(n : Int) := ⟨(-c).toNat, by omega⟩
      subst hn
      cases n with
      | zero => rfl
      | succ n => rfl
  rw [run_callFunc_extern Try.func42 (by kernel_rfl) (by kernel_rfl) (by kernel_rfl) (e := add64Entry) (by kernel_rfl), key]
  rfl

theorem run_sub64_at (x y c : Int) (hc : c ≤ 1) (w : World) :
    (callFunc 41 #[.int .u64 x, .int .u64 y, .int .u64 c]).run Try.prog w = .ok (.value (.tuple #[.int .u64 (sub64s x y c), .int .u64 (sub64c x y c)])) w := by
  have key : (sub64Entry #[.int .u64 x, .int .u64 y, .int .u64 c]).run Try.prog w = .ok (.tuple #[.int .u64 (sub64s x y c), .int .u64 (sub64c x y c)]) w := by
    have : c = 1 ∨ c ≤ 0 := by omega
    rcases this with rfl | h
    · rfl
    · have hz : c.toNat = 0 := by omega
      obtain ⟨n, hn⟩ : ∃ n : Nat, c = -(n : Int) := ⟨(-c).toNat, by omega⟩
      subst hn
      cases n with
      | zero => rfl
      | succ n => rfl
  rw [run_callFunc_extern Try.func41 (by kernel_rfl) (by kernel_rfl) (by kernel_rfl) (e := sub64Entry) (by kernel_rfl), key]
  rfl

def val : List Int → Nat
  | [] => 0
  | x :: l => x.toNat + 18446744073709551616 * val l
def limbsF : Nat → Nat → List Int
  | 0, _ => []
  | f + 1, n => if n = 0 then [] else ((n % 18446744073709551616 : Nat) : Int) :: limbsF f (n / 18446744073709551616)
def limbs (n : Nat) : List Int := limbsF n n
def wfl (l : List Int) : Bool := l.all (fun x => decide (0 ≤ x) && decide (x < 18446744073709551616)) && decide (l.length ≤ 17592186044400)
end Go.Proofs.Ytfaknblpkegekaa.Q
end
section
namespace Go.Proofs.Ytfaknblpkegekaa.Q
open Go.RowKit
set_option linter.unusedVariables false
def Lim (l : List Int) : Prop := ∀ x ∈ l, 0 ≤ x ∧ x < 18446744073709551616
theorem Lim.nil : Lim [] := fun _ h => absurd h List.not_mem_nil
theorem Lim.app {a b : List Int} (ha : Lim a) (hb : Lim b) : Lim (a ++ b) := fun x hx => by
  rcases List.mem_append.1 hx with h | h
  · exact ha x h
  · exact hb x h
theorem Lim.one {x : Int} (h0 : 0 ≤ x) (h1 : x < 18446744073709551616) : Lim [x] := fun y hy => by
  rw [List.mem_singleton] at hy; subst hy; exact ⟨h0, h1⟩
theorem Lim.take {l : List Int} (h : Lim l) (n : Nat) : Lim (l.take n) := fun x hx => h x (List.mem_of_mem_take hx)
theorem Lim.getD {l : List Int} (h : Lim l) (i : Nat) : 0 ≤ l.getD i 0 ∧ l.getD i 0 < 18446744073709551616 := by
  rw [List.getD_eq_getElem?_getD]
  by_cases c : i < l.length
  · rw [List.getElem?_eq_getElem c]; exact h _ (List.getElem_mem c)
  · rw [List.getElem?_eq_none (by omega)]; exact ⟨by decide, by decide⟩
theorem wfl_out {l : List Int} (h : wfl l = true) : Lim l ∧ l.length ≤ 17592186044400 := by
  unfold wfl at h
  simp only [Bool.and_eq_true, List.all_eq_true, decide_eq_true_eq] at h
  exact ⟨h.1, h.2⟩
theorem wfl_in {l : List Int} (h : Lim l) (h1 : l.length ≤ 17592186044400) : wfl l = true := by
  unfold wfl
  simp only [Bool.and_eq_true, List.all_eq_true, decide_eq_true_eq]
  exact ⟨h, h1⟩

theorem val_app : ∀ a b : List Int, val (a ++ b) = val a + 18446744073709551616 ^ a.length * val b
  | [], b => by simp [val]
  | x :: a, b => by
    simp only [List.cons_append, val, List.length_cons, val_app a b, Nat.pow_succ]
    rw [Nat.mul_comm (18446744073709551616 ^ a.length) 18446744073709551616, Nat.mul_assoc 18446744073709551616]
    omega
theorem val_one (x : Int) : val [x] = x.toNat := by simp [val]
theorem val_lt : ∀ (l : List Int), Lim l → val l < 18446744073709551616 ^ l.length
  | [], _ => by simp [val]
  | x :: l, h => by
    have ih := val_lt l (fun y hy => h y (List.mem_cons_of_mem _ hy))
    have hx := h x List.mem_cons_self
    simp only [val, List.length_cons, Nat.pow_succ]
    have h1 : x.toNat < 18446744073709551616 := by show x.toNat < 18446744073709551616; omega
    have h2 : val l + 1 ≤ 18446744073709551616 ^ l.length := ih
    have h3 := Nat.mul_le_mul_left 18446744073709551616 h2
    rw [Nat.mul_add] at h3
    rw [Nat.mul_comm (18446744073709551616 ^ l.length) 18446744073709551616]
    show x.toNat + 18446744073709551616 * val l < _
    omega
theorem take_getD (l : List Int) (i : Nat) : val (l.take (i + 1)) = val (l.take i) + 18446744073709551616 ^ i * (l.getD i 0).toNat := by
  by_cases c : i < l.length
  · rw [List.take_add_one, List.getD_eq_getElem?_getD, List.getElem?_eq_getElem c, val_app]
    simp only [Option.toList, Option.getD_some, val_one, List.length_take]
    rw [Nat.min_eq_left (by omega)]
  · rw [List.take_of_length_le (by omega), List.take_of_length_le (by omega), List.getD_eq_getElem?_getD, List.getElem?_eq_none (by omega)]
    simp
theorem add64_eq (x y c : Int) (hx : 0 ≤ x ∧ x < 18446744073709551616) (hy : 0 ≤ y ∧ y < 18446744073709551616) (hc : 0 ≤ c ∧ c ≤ 1) :
    (add64s x y c).toNat + 18446744073709551616 * (add64c x y c).toNat = x.toNat + y.toNat + c.toNat ∧ (0 ≤ add64s x y c ∧ add64s x y c < 18446744073709551616) ∧ (0 ≤ add64c x y c ∧ add64c x y c ≤ 1) := by
  unfold add64s add64c
  have h := Nat.mod_add_div (x.toNat + y.toNat + c.toNat) 18446744073709551616
  refine ⟨?_, ?_, ?_⟩
  · simp only [Int.toNat_natCast]
    generalize x.toNat + y.toNat + c.toNat = z at h ⊢
    omega
  · generalize x.toNat + y.toNat + c.toNat = z at h ⊢
    omega
  · omega
theorem sub64_lt (x y c : Nat) (hx : x < 18446744073709551616) (hy : y < 18446744073709551616) (hc : c ≤ 1) (h : x < y + c) : (x + 18446744073709551616 - y - c) % 18446744073709551616 + y + c = x + 18446744073709551616 := by
  rw [Nat.mod_eq_of_lt (by omega)]; omega
theorem sub64_ge (x y c : Nat) (hx : x < 18446744073709551616) (hy : y < 18446744073709551616) (hc : c ≤ 1) (h : ¬ x < y + c) : (x + 18446744073709551616 - y - c) % 18446744073709551616 + y + c = x := by
  rw [show x + 18446744073709551616 - y - c = (x - y - c) + 18446744073709551616 by omega, Nat.add_mod_right, Nat.mod_eq_of_lt (by omega)]; omega
theorem sub64s_nat (x y c : Int) : (sub64s x y c).toNat = (x.toNat + 18446744073709551616 - y.toNat - c.toNat) % 18446744073709551616 ∧ 0 ≤ sub64s x y c := by
  unfold sub64s
  generalize x.toNat + 18446744073709551616 - y.toNat - c.toNat = z
  omega
theorem sub64_eq (x y c : Int) (hx : 0 ≤ x ∧ x < 18446744073709551616) (hy : 0 ≤ y ∧ y < 18446744073709551616) (hc : 0 ≤ c ∧ c ≤ 1) :
    (sub64s x y c).toNat + y.toNat + c.toNat = x.toNat + 18446744073709551616 * (sub64c x y c).toNat ∧ (0 ≤ sub64s x y c ∧ sub64s x y c < 18446744073709551616) ∧ (0 ≤ sub64c x y c ∧ sub64c x y c ≤ 1) := by
  obtain ⟨e, e0⟩ := sub64s_nat x y c
  have hm := Nat.mod_lt (x.toNat + 18446744073709551616 - y.toNat - c.toNat) (show 0 < 18446744073709551616 by decide)
  rw [← e] at hm
  by_cases h : x.toNat < y.toNat + c.toNat
  · have e1 := sub64_lt x.toNat y.toNat c.toNat (by omega) (by omega) (by omega) h
    rw [← e] at e1
    have e2 : sub64c x y c = 1 := by unfold sub64c; rw [if_pos h]; rfl
    rw [e2]
    refine ⟨?_, ⟨e0, by omega⟩, by decide, by decide⟩
    rw [show (1 : Int).toNat = 1 from rfl]; omega
  · have e1 := sub64_ge x.toNat y.toNat c.toNat (by omega) (by omega) (by omega) h
    rw [← e] at e1
    have e2 : sub64c x y c = 0 := by unfold sub64c; rw [if_neg h]; rfl
    rw [e2]
    refine ⟨?_, ⟨e0, by omega⟩, by decide, by decide⟩
    rw [show (0 : Int).toNat = 0 from rfl]; omega
theorem limbsF_more : ∀ (f n : Nat), n ≤ f → ∀ g, n ≤ g → limbsF f n = limbsF g n
  | 0, n, h, g, hg => by
    obtain rfl : n = 0 := by omega
    cases g <;> simp [limbsF]
  | f + 1, n, h, g, hg => by
    by_cases c : n = 0
    · subst c; cases g <;> simp [limbsF]
    · cases g with
      | zero => omega
      | succ g =>
        simp only [limbsF, if_neg c]
        rw [limbsF_more f (n / 18446744073709551616) (by omega) g (by omega)]
theorem limbs_zero : limbs 0 = [] := rfl
theorem limbs_step (n : Nat) (h : n ≠ 0) : limbs n = ((n % 18446744073709551616 : Nat) : Int) :: limbs (n / 18446744073709551616) := by
  unfold limbs
  cases n with
  | zero => exact absurd rfl h
  | succ n =>
    simp only [limbsF, if_neg h]
    rw [limbsF_more n ((n + 1) / 18446744073709551616) (by omega) _ (Nat.le_refl _)]
theorem limbs_val_snoc : ∀ (l : List Int) (y : Int), Lim l → 0 < y → y < 18446744073709551616 → limbs (val (l ++ [y])) = l ++ [y]
  | [], y, _, h0, h1 => by
    show limbs (y.toNat + 18446744073709551616 * 0) = [y]
    rw [limbs_step _ (by omega)]
    have e1 : (y.toNat + 18446744073709551616 * 0) / 18446744073709551616 = 0 := by omega
    have e2 : (y.toNat + 18446744073709551616 * 0) % 18446744073709551616 = y.toNat := by omega
    rw [e1, e2, limbs_zero]
    congr 1; omega
  | x :: l, y, h, h0, h1 => by
    have ih := limbs_val_snoc l y (fun z hz => h z (List.mem_cons_of_mem _ hz)) h0 h1
    have hx := h x List.mem_cons_self
    have hpos : 0 < val (l ++ [y]) := by
      rw [val_app, val_one]
      have : 0 < 18446744073709551616 ^ l.length := Nat.pow_pos (by decide)
      have := Nat.mul_pos this (show 0 < y.toNat by omega)
      omega
    simp only [List.cons_append, val]
    rw [limbs_step _ (by omega)]
    have e1 : (x.toNat + 18446744073709551616 * val (l ++ [y])) / 18446744073709551616 = val (l ++ [y]) := by omega
    have e2 : (x.toNat + 18446744073709551616 * val (l ++ [y])) % 18446744073709551616 = x.toNat := by omega
    rw [e1, e2, ih]
    congr 1; omega
theorem val_snoc0 (l : List Int) : val (l ++ [0]) = val l := by rw [val_app]; simp [val]
theorem pow_le_of {a b : Nat} (h : a ≤ b) : 18446744073709551616 ^ a ≤ 18446744073709551616 ^ b := Nat.pow_le_pow_right (by decide) h
theorem alongAdd_step (l0 l1 xs : List Int) (i : Nat) (cr s c : Int) (hx : xs.length = i) (h : val xs + 18446744073709551616 ^ i * cr.toNat = val (l0.take i) + val (l1.take i))
    (h2 : s.toNat + 18446744073709551616 * c.toNat = (l0.getD i 0).toNat + (l1.getD i 0).toNat + cr.toNat) :
    val (xs ++ [s]) + 18446744073709551616 ^ (i + 1) * c.toNat = val (l0.take (i + 1)) + val (l1.take (i + 1)) := by
  rw [val_app, val_one, hx, take_getD, take_getD, Nat.pow_succ, Nat.mul_assoc]
  have h3 : 18446744073709551616 ^ i * (s.toNat + 18446744073709551616 * c.toNat) = 18446744073709551616 ^ i * ((l0.getD i 0).toNat + (l1.getD i 0).toNat + cr.toNat) := by rw [h2]
  rw [Nat.mul_add, Nat.mul_add, Nat.mul_add] at h3
  generalize 18446744073709551616 ^ i = P at *
  generalize P * s.toNat = q1 at *
  generalize P * (18446744073709551616 * c.toNat) = q2 at *
  generalize P * (l0.getD i 0).toNat = q3 at *
  generalize P * (l1.getD i 0).toNat = q4 at *
  generalize P * cr.toNat = q5 at *
  omega
theorem alongAdd_end (l0 l1 xs : List Int) (n : Nat) (cr : Int) (h0 : Lim l0) (h1 : Lim l1) (hn0 : l0.length < n) (hn1 : l1.length < n) (hc : 0 ≤ cr ∧ cr ≤ 1)
    (h : val xs + 18446744073709551616 ^ n * cr.toNat = val (l0.take n) + val (l1.take n)) : val xs = val l0 + val l1 := by
  rw [List.take_of_length_le (by omega), List.take_of_length_le (by omega)] at h
  by_cases c : cr = 0
  · subst c; simpa using h
  · exfalso
    have e : cr = 1 := by omega
    subst e
    have a0 := val_lt l0 h0
    have a1 := val_lt l1 h1
    obtain ⟨m, rfl⟩ : ∃ m, n = m + 1 := ⟨n - 1, by omega⟩
    have b0 := pow_le_of (show l0.length ≤ m by omega)
    have b1 := pow_le_of (show l1.length ≤ m by omega)
    rw [Nat.pow_succ] at h
    have e1 : (1 : Int).toNat = 1 := rfl
    rw [e1] at h
    generalize 18446744073709551616 ^ m = P at *
    omega
theorem alongSub_step (l0 l1 xs : List Int) (i : Nat) (cr s c : Int) (hx : xs.length = i) (h : val xs + val (l1.take i) = val (l0.take i) + 18446744073709551616 ^ i * cr.toNat)
    (h2 : s.toNat + (l1.getD i 0).toNat + cr.toNat = (l0.getD i 0).toNat + 18446744073709551616 * c.toNat) :
    val (xs ++ [s]) + val (l1.take (i + 1)) = val (l0.take (i + 1)) + 18446744073709551616 ^ (i + 1) * c.toNat := by
  rw [val_app, val_one, hx, take_getD, take_getD, Nat.pow_succ, Nat.mul_assoc]
  have h3 : 18446744073709551616 ^ i * (s.toNat + (l1.getD i 0).toNat + cr.toNat) = 18446744073709551616 ^ i * ((l0.getD i 0).toNat + 18446744073709551616 * c.toNat) := by rw [h2]
  rw [Nat.mul_add, Nat.mul_add, Nat.mul_add] at h3
  generalize 18446744073709551616 ^ i = P at *
  generalize P * s.toNat = q1 at *
  generalize P * (18446744073709551616 * c.toNat) = q2 at *
  generalize P * (l0.getD i 0).toNat = q3 at *
  generalize P * (l1.getD i 0).toNat = q4 at *
  generalize P * cr.toNat = q5 at *
  omega
theorem alongSub_end (l0 l1 xs : List Int) (n : Nat) (cr : Int) (h0 : Lim l0) (h1 : Lim l1) (hn0 : l0.length < n) (hn1 : l1.length < n) (hX : Lim xs) (hxn : xs.length = n) (hc : 0 ≤ cr ∧ cr ≤ 1) (hle : val l1 ≤ val l0)
    (h : val xs + val (l1.take n) = val (l0.take n) + 18446744073709551616 ^ n * cr.toNat) : val xs = val l0 - val l1 := by
  rw [List.take_of_length_le (by omega), List.take_of_length_le (by omega)] at h
  by_cases c : cr = 0
  · subst c; simp at h; omega
  · exfalso
    have e : cr = 1 := by omega
    subst e
    have a0 := val_lt xs hX
    rw [hxn] at a0
    have e1 : (1 : Int).toNat = 1 := rfl
    rw [e1] at h
    generalize 18446744073709551616 ^ n = P at *
    omega

theorem limbs_lim (n : Nat) : Lim (limbs n) := by
  induction n using Nat.strongRecOn with
  | ind n ih =>
    by_cases c : n = 0
    · subst c; exact Lim.nil
    · rw [limbs_step n c]
      intro x hx
      rcases List.mem_cons.1 hx with h | h
      · subst h; omega
      · exact ih _ (by omega) x h
theorem limbs_val (n : Nat) : val (limbs n) = n := by
  induction n using Nat.strongRecOn with
  | ind n ih =>
    by_cases c : n = 0
    · subst c; rfl
    · rw [limbs_step n c]
      simp only [val, Int.toNat_natCast]
      rw [ih _ (by omega)]
      exact Nat.mod_add_div n _
theorem limbs_pow (n : Nat) (h : n ≠ 0) : 18446744073709551616 ^ ((limbs n).length - 1) ≤ n := by
  induction n using Nat.strongRecOn with
  | ind n ih =>
    rw [limbs_step n h]
    by_cases c : n / 18446744073709551616 = 0
    · rw [c, limbs_zero]; simp; omega
    · have := ih _ (by omega) c
      have h1 : 0 < (limbs (n / 18446744073709551616)).length := by
        rw [limbs_step _ c]; simp
      simp only [List.length_cons, Nat.add_sub_cancel]
      obtain ⟨m, hm⟩ : ∃ m, (limbs (n / 18446744073709551616)).length = m + 1 := ⟨_, (Nat.succ_pred_eq_of_pos h1).symm⟩
      rw [hm] at this ⊢
      rw [Nat.add_sub_cancel] at this
      rw [Nat.pow_succ]
      generalize 18446744073709551616 ^ m = P at *
      omega
theorem limbs_len_lt {a b : Nat} (h : (limbs a).length < (limbs b).length) : a < b := by
  have h1 := val_lt (limbs a) (limbs_lim a)
  rw [limbs_val] at h1
  have hb : b ≠ 0 := by intro e; subst e; rw [limbs_zero] at h; simp at h
  have h2 := limbs_pow b hb
  have h3 := pow_le_of (show (limbs a).length ≤ (limbs b).length - 1 by omega)
  omega
theorem limbs_le (l : List Int) (h : Lim l) : (limbs (val l)).length ≤ l.length := by
  rcases Nat.lt_or_ge l.length (limbs (val l)).length with c | c
  · exfalso
    have hb : val l ≠ 0 := by intro e; rw [e, limbs_zero] at c; simp at c
    have h2 := limbs_pow (val l) hb
    have h1 := val_lt l h
    have h3 := pow_le_of (show l.length ≤ (limbs (val l)).length - 1 by omega)
    omega
  · exact c
def cmpN (a b : Nat) : Int := if a < b then -1 else if b < a then 1 else 0
def Dig (l : List Int) : Prop := ∀ x ∈ l, 0 ≤ x ∧ x < 65536
theorem Dig.nil : Dig [] := fun _ h => absurd h List.not_mem_nil
theorem Dig.app {a b : List Int} (ha : Dig a) (hb : Dig b) : Dig (a ++ b) := fun x hx => by
  rcases List.mem_append.1 hx with h | h
  · exact ha x h
  · exact hb x h
theorem Dig.one {x : Int} (h0 : 0 ≤ x) (h1 : x < 65536) : Dig [x] := fun y hy => by
  rw [List.mem_singleton] at hy; subst hy; exact ⟨h0, h1⟩
theorem Dig.take {l : List Int} (h : Dig l) (n : Nat) : Dig (l.take n) := fun x hx => h x (List.mem_of_mem_take hx)
theorem Dig.getD {l : List Int} (h : Dig l) (i : Nat) : 0 ≤ l.getD i 0 ∧ l.getD i 0 < 65536 := by
  rw [List.getD_eq_getElem?_getD]
  by_cases c : i < l.length
  · rw [List.getElem?_eq_getElem c]; exact h _ (List.getElem_mem c)
  · rw [List.getElem?_eq_none (by omega)]; exact ⟨by decide, by decide⟩
end Go.Proofs.Ytfaknblpkegekaa.Q
end
