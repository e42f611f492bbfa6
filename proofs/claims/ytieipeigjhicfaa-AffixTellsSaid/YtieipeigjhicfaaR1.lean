/- Plain law: what cursor.Rune and the document's Rune compute is one and the same: the length of the rune that begins at a place (texts of at most 2^48 bytes). -/
import Derived.Test.YtieipeigjhicfaaQx6
namespace Go.Proofs.Ytieipeigjhicfaa.R1
open Go.RowKit Go.Proofs.Ytieipeigjhicfaa.Q Go.Proofs.YtieipeigjhicfaaW.PrintWords Go.Proofs.YtieipeigjhicfaaW.PrintLast
set_option linter.unusedVariables false
set_option linter.unusedSimpArgs false

/-- Is a byte of s from low to high? -/
def W (s : ByteArray) (i lo hi : Int) : Bool := decide (i < s.size) && (decide (lo ≤ bt s i) && decide (bt s i ≤ hi))

/-- How many bytes the rune has that begins at a place. -/
def runeS (s : ByteArray) (p : Int) : Int :=
  if p < 0 then 0 else if (s.size : Int) ≤ p then 0 else
  if bt s p < 128 then 1 else if bt s p < 194 then 0
  else if bt s p < 224 then (if W s (p + 1) 128 191 = true then 2 else 0)
  else if bt s p = 224 then (if (W s (p + 1) 160 191 && W s (p + 2) 128 191) = true then 3 else 0)
  else if bt s p = 237 then (if (W s (p + 1) 128 159 && W s (p + 2) 128 191) = true then 3 else 0)
  else if bt s p < 240 then (if (W s (p + 1) 128 191 && W s (p + 2) 128 191) = true then 3 else 0)
  else if bt s p = 240 then (if (W s (p + 1) 144 191 && (W s (p + 2) 128 191 && W s (p + 3) 128 191)) = true then 4 else 0)
  else if bt s p < 244 then (if (W s (p + 1) 128 191 && (W s (p + 2) 128 191 && W s (p + 3) 128 191)) = true then 4 else 0)
  else if bt s p = 244 then (if (W s (p + 1) 128 143 && (W s (p + 2) 128 191 && W s (p + 3) 128 191)) = true then 4 else 0)
  else 0

theorem wr (x : Int) (h0 : 0 ≤ x) (h1 : x ≤ 9223372036854775807) : wrap64 x = x := by unfold wrap64; omega

theorem within_eq (s : ByteArray) (i lo hi : Int) (h : 0 ≤ i) : quipuref11_within.f s i lo hi = some (W s i lo hi) := by
  have hb := bt_range s i
  simp only [quipuref11_within.f, W, wr (bt s i) hb.1 (by omega)]
  by_cases h1 : i < s.size
  · rw [if_pos h1, if_pos h]
    by_cases h2 : bt s i ≥ lo
    · rw [if_pos h2]; simp [h1, h2]
    · rw [if_neg h2]; simp [h1, h2]
  · rw [if_neg h1]; simp [h1]


section
variable (s : ByteArray) (p c : Int) (v0 u2 u3 : Bool)
def T7 (x : Bool) : Int := if x = true then 4 else if c = 244 then (if (W s (p + 1) 128 143 && (u2 && u3)) = true then 4 else 0) else 0
def T6 (x : Bool) : Int := if x = true then 4 else if 241 ≤ c ∧ c ≤ 243 then T7 s p c u2 u3 (v0 && (u2 && u3)) else T7 s p c u2 u3 false
def T5 (x : Bool) : Int := if x = true then 3 else if c = 240 then T6 s p c v0 u2 u3 (W s (p + 1) 144 191 && (u2 && u3)) else T6 s p c v0 u2 u3 false
def T4 (x : Bool) : Int := if x = true then 3 else if c = 237 then T5 s p c v0 u2 u3 (W s (p + 1) 128 159 && u2) else T5 s p c v0 u2 u3 false
def T3 (x : Bool) : Int := if x = true then T4 s p c v0 u2 u3 x else if c = 238 ∨ c = 239 then T4 s p c v0 u2 u3 (v0 && u2) else T4 s p c v0 u2 u3 false
def T2 (x : Bool) : Int := if x = true then 3 else if 225 ≤ c ∧ c ≤ 236 then T3 s p c v0 u2 u3 (v0 && u2) else T3 s p c v0 u2 u3 false
def T1 (x : Bool) : Int := if x = true then 2 else if c = 224 then T2 s p c v0 u2 u3 (W s (p + 1) 160 191 && u2) else T2 s p c v0 u2 u3 false
variable (h0 : 0 ≤ p + 1) (e1 : wrap64 (p + 1) = p + 1)
include h0 e1
theorem t7 (k : Nat) (x : Bool) : quipuref11_Rune.j7 (k + 1) s p c u2 u3 x = some (T7 s p c u2 u3 x) := by
  simp only [quipuref11_Rune.j7, T7, e1, within_eq s (p + 1) _ _ h0, Option.bind_some]
  cases x <;> cases W s (p + 1) 128 143 <;> cases u2 <;> cases u3 <;> simp <;> split <;> rfl
theorem t6 (k : Nat) (x : Bool) : quipuref11_Rune.j6 (k + 2) s p c v0 u2 u3 x = some (T6 s p c v0 u2 u3 x) := by
  simp only [quipuref11_Rune.j6, T6, t7 s p c u2 u3 h0 e1]
  cases x <;> cases v0 <;> cases u2 <;> simp <;> (by_cases a : c ≥ 241 <;> by_cases b : c ≤ 243 <;> simp [a, b])
theorem t5 (k : Nat) (x : Bool) : quipuref11_Rune.j5 (k + 3) s p c v0 u2 u3 x = some (T5 s p c v0 u2 u3 x) := by
  simp only [quipuref11_Rune.j5, T5, t6 s p c v0 u2 u3 h0 e1, e1, within_eq s (p + 1) _ _ h0, Option.bind_some]
  cases x <;> cases W s (p + 1) 144 191 <;> cases u2 <;> simp <;> split <;> rfl
theorem t4 (k : Nat) (x : Bool) : quipuref11_Rune.j4 (k + 4) s p c v0 u2 u3 x = some (T4 s p c v0 u2 u3 x) := by
  simp only [quipuref11_Rune.j4, T4, t5 s p c v0 u2 u3 h0 e1, e1, within_eq s (p + 1) _ _ h0, Option.bind_some]
  cases x <;> cases W s (p + 1) 128 159 <;> simp <;> split <;> rfl
theorem t3 (k : Nat) (x : Bool) : quipuref11_Rune.j3 (k + 5) s p c v0 u2 u3 x = some (T3 s p c v0 u2 u3 x) := by
  simp only [quipuref11_Rune.j3, T3, t4 s p c v0 u2 u3 h0 e1]
  cases x <;> cases v0 <;> simp <;> (by_cases a : c = 238 <;> by_cases b : c = 239 <;> simp [a, b])
theorem t2 (k : Nat) (x : Bool) : quipuref11_Rune.j2 (k + 6) s p c v0 u2 u3 x = some (T2 s p c v0 u2 u3 x) := by
  simp only [quipuref11_Rune.j2, T2, t3 s p c v0 u2 u3 h0 e1]
  cases x <;> cases v0 <;> simp <;> (by_cases a : c ≥ 225 <;> by_cases b : c ≤ 236 <;> simp [a, b])
theorem t1 (k : Nat) (x : Bool) : quipuref11_Rune.j1 (k + 7) s p c v0 u2 u3 x = some (T1 s p c v0 u2 u3 x) := by
  simp only [quipuref11_Rune.j1, T1, t2 s p c v0 u2 u3 h0 e1, e1, within_eq s (p + 1) _ _ h0, Option.bind_some]
  cases x <;> cases W s (p + 1) 160 191 <;> simp <;> split <;> rfl
end

theorem refRune (s : ByteArray) (p : Int) (hs : s.size ≤ 281474976710656) (k : Nat) : quipuref11_Rune.f (k + 8) s p = some (runeS s p) := by
  have hb := bt_range s p
  by_cases h0 : p < 0
  · simp [quipuref11_Rune.f, quipuref11_Rune.j0, runeS, h0]
  by_cases h1 : (s.size : Int) ≤ p
  · simp [quipuref11_Rune.f, quipuref11_Rune.j0, runeS, h0, h1]
  have e1 : wrap64 (p + 1) = p + 1 := wr _ (by omega) (by omega)
  have e2 : wrap64 (p + 2) = p + 2 := wr _ (by omega) (by omega)
  have e3 : wrap64 (p + 3) = p + 3 := wr _ (by omega) (by omega)
  have hd : decide (p ≥ (s.size : Int)) = false := decide_eq_false (by omega)
  simp only [quipuref11_Rune.f, quipuref11_Rune.j0, hd, Bool.false_eq_true, if_false, if_neg h0, if_pos (show 0 ≤ p by omega), if_pos (show p < (s.size : Int) by omega), e1, e2, e3,
    within_eq s (p + 1) 128 191 (by omega), within_eq s (p + 2) 128 191 (by omega), within_eq s (p + 3) 128 191 (by omega), Option.bind_some, wr (bt s p) hb.1 (by omega), t1 s p _ _ _ _ (show 0 ≤ p + 1 by omega) e1]
  simp only [runeS, if_neg h0, if_neg h1]
  have hW1 : ∀ lo hi, (128 : Int) ≤ lo → hi ≤ 191 → W s (p + 1) lo hi = true → W s (p + 1) 128 191 = true := fun lo hi hl hh hw => by
    simp only [W, Bool.and_eq_true, decide_eq_true_eq] at hw ⊢
    omega
  have a1 := hW1 160 191 (by omega) (by omega)
  have a2 := hW1 128 159 (by omega) (by omega)
  have a3 := hW1 144 191 (by omega) (by omega)
  have a4 := hW1 128 143 (by omega) (by omega)
  simp only [T1, T2, T3, T4, T5, T6, T7]
  generalize bt s p = c at *
  generalize W s (p + 1) 128 191 = v0 at *
  generalize W s (p + 1) 160 191 = v1 at *
  generalize W s (p + 1) 128 159 = v2 at *
  generalize W s (p + 1) 144 191 = v3 at *
  generalize W s (p + 1) 128 143 = v4 at *
  generalize W s (p + 2) 128 191 = u2 at *
  generalize W s (p + 3) 128 191 = u3 at *
  clear hW1 hd
  have hc : c < 128 ∨ (128 ≤ c ∧ c < 194) ∨ (194 ≤ c ∧ c < 224) ∨ c = 224 ∨ (225 ≤ c ∧ c ≤ 236) ∨ c = 237 ∨ (238 ≤ c ∧ c ≤ 239) ∨ c = 240 ∨ (241 ≤ c ∧ c ≤ 243) ∨ c = 244 ∨ 244 < c := by omega
  rcases hc with hc | hc | hc | hc | hc | hc | hc | hc | hc | hc | hc
  all_goals
    (first | have f0 := eq_true (show c < 128 by omega) | have f0 := eq_false (show ¬ (c < 128) by omega))
    (first | have f1 := eq_true (show c ≥ 194 by omega) | have f1 := eq_false (show ¬ (c ≥ 194) by omega))
    (first | have f2 := eq_true (show c ≤ 223 by omega) | have f2 := eq_false (show ¬ (c ≤ 223) by omega))
    (first | have f3 := eq_true (show c = 224 by omega) | have f3 := eq_false (show ¬ (c = 224) by omega))
    (first | have f4 := eq_true (show 225 ≤ c ∧ c ≤ 236 by omega) | have f4 := eq_false (show ¬ (225 ≤ c ∧ c ≤ 236) by omega))
    (first | have f5 := eq_true (show c = 238 ∨ c = 239 by omega) | have f5 := eq_false (show ¬ (c = 238 ∨ c = 239) by omega))
    (first | have f6 := eq_true (show c = 237 by omega) | have f6 := eq_false (show ¬ (c = 237) by omega))
    (first | have f7 := eq_true (show c = 240 by omega) | have f7 := eq_false (show ¬ (c = 240) by omega))
    (first | have f8 := eq_true (show 241 ≤ c ∧ c ≤ 243 by omega) | have f8 := eq_false (show ¬ (241 ≤ c ∧ c ≤ 243) by omega))
    (first | have f9 := eq_true (show c = 244 by omega) | have f9 := eq_false (show ¬ (c = 244) by omega))
    (first | have f10 := eq_true (show c < 194 by omega) | have f10 := eq_false (show ¬ (c < 194) by omega))
    (first | have f11 := eq_true (show c < 224 by omega) | have f11 := eq_false (show ¬ (c < 224) by omega))
    (first | have f12 := eq_true (show c < 240 by omega) | have f12 := eq_false (show ¬ (c < 240) by omega))
    (first | have f13 := eq_true (show c < 244 by omega) | have f13 := eq_false (show ¬ (c < 244) by omega))
    try simp only [f0, f1, f2, f3, f4, f5, f6, f7, f8, f9, f10, f11, f12, f13, if_true, if_false, Bool.false_eq_true]
  all_goals
    clear hb hc f0 f1 f2 f3 f4 f5 f6 f7 f8 f9 f10 f11 f12 f13
    try (revert a1 a2 a3 a4; cases v0 <;> cases v1 <;> cases v2 <;> cases v3 <;> cases v4 <;> cases u2 <;> cases u3 <;> simp)

/-- The bytes behind a rune's first one, from the i-th on, m of them: the first of them from low to high, the others going on. -/
def ok (s : ByteArray) (p : Int) : Nat → Int → Int → Int → Bool
  | 0, _, _, _ => true
  | m + 1, lo, hi, i => (decide (lo ≤ bt s (p + i)) && decide (bt s (p + i) ≤ hi)) && ok s p m 128 191 (i + 1)

theorem loop_eq (s : ByteArray) (p n : Int) (hs : s.size ≤ 281474976710656) (h0 : 0 ≤ p) (h1 : p + n ≤ s.size) :
    ∀ (m k : Nat) (lo hi i : Int), i + m = n → 0 ≤ i → cursor_Rune.l0 (m + k + 1) s p lo hi n i = some (if ok s p m lo hi i = true then n else 0)
  | 0, k, lo, hi, i, hi1, hi0 => by
    rw [cursor_Rune.l0, if_neg (by omega)]; simp [ok]
  | m + 1, k, lo, hi, i, hi1, hi0 => by
    have e1 : wrap64 (p + i) = p + i := wr _ (by omega) (by omega)
    have e2 : wrap64 (i + 1) = i + 1 := wr _ (by omega) (by omega)
    rw [show m + 1 + k + 1 = (m + k + 1) + 1 by omega, cursor_Rune.l0, if_pos (by omega), e1, if_pos (by omega), if_pos (by omega), e2, loop_eq s p n hs h0 h1 m k 128 191 (i + 1) (by omega) (by omega)]
    simp only [ok]
    by_cases a : bt s (p + i) < lo
    · rw [if_pos a]; have : decide (lo ≤ bt s (p + i)) = false := decide_eq_false (by omega)
      simp [this]
    · rw [if_neg a]
      have : decide (lo ≤ bt s (p + i)) = true := decide_eq_true (by omega)
      by_cases b : bt s (p + i) > hi
      · rw [if_pos b]; have : decide (bt s (p + i) ≤ hi) = false := decide_eq_false (by omega)
        simp [this]
      · rw [if_neg b]; have h2 : decide (bt s (p + i) ≤ hi) = true := decide_eq_true (by omega)
        simp [this, h2]

theorem W_in (s : ByteArray) (i lo hi : Int) (h : i < s.size) : W s i lo hi = (decide (lo ≤ bt s i) && decide (bt s i ≤ hi)) := by simp [W, h]
theorem W_out (s : ByteArray) (i lo hi : Int) (h : ¬ i < s.size) : W s i lo hi = false := by simp [W, h]

theorem curRune (s : ByteArray) (p : Int) (hs : s.size ≤ 281474976710656) (k : Nat) : cursor_Rune.f (k + 5) s p = some (runeS s p) := by
  have hb := bt_range s p
  by_cases h0 : p < 0
  · simp [cursor_Rune.f, cursor_Rune.j0, runeS, h0]
  by_cases h1 : (s.size : Int) ≤ p
  · simp [cursor_Rune.f, cursor_Rune.j0, runeS, h0, h1]
  have hd : decide (p ≥ (s.size : Int)) = false := decide_eq_false (by omega)
  have e1 : wrap64 ((s.size : Int) - p) = s.size - p := wr _ (by omega) (by omega)
  simp only [cursor_Rune.f, cursor_Rune.j0, hd, Bool.false_eq_true, if_false, if_neg h0, if_pos (show 0 ≤ p by omega), if_pos (show p < (s.size : Int) by omega), e1]
  simp only [runeS, if_neg h0, if_neg h1, cursor_second.f]
  have three : ∀ lo hi : Int, (if 3 > (s.size : Int) - p then some 0 else cursor_Rune.l0 (k + 4) s p lo hi 3 1) = some (if (W s (p + 1) lo hi && W s (p + 2) 128 191) = true then 3 else 0) := by
    intro lo hi
    by_cases a : p + 3 ≤ s.size
    · rw [if_neg (by omega), show k + 4 = 2 + (k + 1) + 1 by omega, loop_eq s p 3 hs (by omega) a 2 (k + 1) lo hi 1 (by omega) (by omega)]
      simp only [ok, W_in s (p + 1) lo hi (by omega), W_in s (p + 2) 128 191 (by omega), Bool.and_true]
      rfl
    · rw [if_pos (by omega), W_out s (p + 2) 128 191 (by omega)]; simp
  have four : ∀ lo hi : Int, (if 4 > (s.size : Int) - p then some 0 else cursor_Rune.l0 (k + 4) s p lo hi 4 1) = some (if (W s (p + 1) lo hi && (W s (p + 2) 128 191 && W s (p + 3) 128 191)) = true then 4 else 0) := by
    intro lo hi
    by_cases a : p + 4 ≤ s.size
    · rw [if_neg (by omega), show k + 4 = 3 + k + 1 by omega, loop_eq s p 4 hs (by omega) a 3 k lo hi 1 (by omega) (by omega)]
      simp only [ok, W_in s (p + 1) lo hi (by omega), W_in s (p + 2) 128 191 (by omega), W_in s (p + 3) 128 191 (by omega), Bool.and_true]
      rfl
    · rw [if_pos (by omega), W_out s (p + 3) 128 191 (by omega)]; simp
  have two : (if 2 > (s.size : Int) - p then some 0 else cursor_Rune.l0 (k + 4) s p 128 191 2 1) = some (if W s (p + 1) 128 191 = true then 2 else 0) := by
    by_cases a : p + 2 ≤ s.size
    · rw [if_neg (by omega), show k + 4 = 1 + (k + 2) + 1 by omega, loop_eq s p 2 hs (by omega) a 1 (k + 2) 128 191 1 (by omega) (by omega)]
      simp only [ok, W_in s (p + 1) 128 191 (by omega), Bool.and_true]
    · rw [if_pos (by omega), W_out s (p + 1) 128 191 (by omega)]; simp
  have zero : ∀ (lo hi : Int), (if (0 : Int) > (s.size : Int) - p then some 0 else cursor_Rune.l0 (k + 4) s p lo hi 0 1) = some 0 := by
    intro lo hi; rw [if_neg (by omega), cursor_Rune.l0, if_neg (by omega)]
  have one : ∀ (lo hi : Int), (if (1 : Int) > (s.size : Int) - p then some 0 else cursor_Rune.l0 (k + 4) s p lo hi 1 1) = some 1 := by
    intro lo hi; rw [if_neg (by omega), cursor_Rune.l0, if_neg (by omega)]
  by_cases c0 : bt s p < 128
  · rw [if_pos c0, if_pos c0]; simpa using one 0 0
  rw [if_neg c0, if_neg c0]
  by_cases c1 : bt s p < 194
  · rw [if_pos c1, if_pos c1]; simpa using zero 0 0
  rw [if_neg c1, if_neg c1]
  by_cases c2 : bt s p < 224
  · rw [if_pos c2, if_pos c2]; simpa using two
  rw [if_neg c2, if_neg c2]
  by_cases c3 : bt s p = 224
  · rw [if_pos c3, if_pos c3]; simpa using three 160 191
  rw [if_neg c3, if_neg c3]
  by_cases c4 : bt s p = 237
  · rw [if_pos c4, if_pos c4]; simpa using three 128 159
  rw [if_neg c4, if_neg c4]
  by_cases c5 : bt s p < 240
  · rw [if_pos c5, if_pos c5]; simpa using three 128 191
  rw [if_neg c5, if_neg c5]
  by_cases c6 : bt s p = 240
  · rw [if_pos c6, if_pos c6]; simpa using four 144 191
  rw [if_neg c6, if_neg c6]
  by_cases c7 : bt s p < 244
  · rw [if_pos c7, if_pos c7]; simpa using four 128 191
  rw [if_neg c7, if_neg c7]
  by_cases c8 : bt s p = 244
  · rw [if_pos c8, if_pos c8]; simpa using four 128 143
  rw [if_neg c8, if_neg c8]; simpa using zero 0 0

theorem runeS_range (s : ByteArray) (p : Int) : 0 ≤ runeS s p ∧ runeS s p ≤ 4 := by
  unfold runeS
  repeat' split
  all_goals omega
/-- A rune ends within the text. -/
theorem runeS_in (s : ByteArray) (p : Int) (h : runeS s p ≠ 0) : 0 ≤ p ∧ p + runeS s p ≤ s.size := by
  have hw : ∀ i lo hi, W s i lo hi = true → i < s.size := fun i lo hi hh => by
    simp only [W, Bool.and_eq_true, decide_eq_true_eq] at hh; omega
  have fin : ∀ (n : Int) (w : Bool), (w = true → 0 ≤ p ∧ p + n ≤ s.size) → (if w = true then n else 0) ≠ 0 → 0 ≤ p ∧ p + (if w = true then n else 0) ≤ s.size := fun n w h1 h2 => by
    cases w with
    | true => simpa using h1 rfl
    | false => exact absurd rfl h2
  by_cases a : p < 0
  · simp [runeS, a] at h
  by_cases b : (s.size : Int) ≤ p
  · simp [runeS, a, b] at h
  have h3 : ∀ lo hi, (W s (p + 1) lo hi && W s (p + 2) 128 191) = true → 0 ≤ p ∧ p + 3 ≤ s.size := fun lo hi hh => by
    simp only [Bool.and_eq_true] at hh; have := hw _ _ _ hh.2; omega
  have h4 : ∀ lo hi, (W s (p + 1) lo hi && (W s (p + 2) 128 191 && W s (p + 3) 128 191)) = true → 0 ≤ p ∧ p + 4 ≤ s.size := fun lo hi hh => by
    simp only [Bool.and_eq_true] at hh; have := hw _ _ _ hh.2.2; omega
  have h2 : W s (p + 1) 128 191 = true → 0 ≤ p ∧ p + 2 ≤ s.size := fun hh => by have := hw _ _ _ hh; omega
  revert h
  simp only [runeS, if_neg a, if_neg b]
  by_cases c0 : bt s p < 128
  · simp only [if_pos c0]; omega
  simp only [if_neg c0]
  by_cases c1 : bt s p < 194
  · simp only [if_pos c1]; intro h; exact absurd rfl h
  simp only [if_neg c1]
  by_cases c2 : bt s p < 224
  · simp only [if_pos c2]; exact fin 2 _ h2
  simp only [if_neg c2]
  by_cases c3 : bt s p = 224
  · simp only [if_pos c3]; exact fin 3 _ (h3 _ _)
  simp only [if_neg c3]
  by_cases c4 : bt s p = 237
  · simp only [if_pos c4]; exact fin 3 _ (h3 _ _)
  simp only [if_neg c4]
  by_cases c5 : bt s p < 240
  · simp only [if_pos c5]; exact fin 3 _ (h3 _ _)
  simp only [if_neg c5]
  by_cases c6 : bt s p = 240
  · simp only [if_pos c6]; exact fin 4 _ (h4 _ _)
  simp only [if_neg c6]
  by_cases c7 : bt s p < 244
  · simp only [if_pos c7]; exact fin 4 _ (h4 _ _)
  simp only [if_neg c7]
  by_cases c8 : bt s p = 244
  · simp only [if_pos c8]; exact fin 4 _ (h4 _ _)
  simp only [if_neg c8]; intro h; exact absurd rfl h

/-- How many runes a text has from a place on (fuel: at least as many as bytes are left, and one); none: it is no UTF-8 there. -/
def cnt (s : ByteArray) : Nat → Int → Option Int
  | 0, _ => none
  | f + 1, p => if p < s.size then (if runeS s p = 0 then none else (cnt s f (p + runeS s p)).map (· + 1)) else some 0

def runesS (s : ByteArray) : Int := (cnt s (s.size + 1) 0).getD (-1)

theorem cnt_range (s : ByteArray) : ∀ (f : Nat) (p r : Int), 0 ≤ p → p ≤ s.size → cnt s f p = some r → 0 ≤ r ∧ r ≤ s.size - p
  | 0, p, r, _, _, h => by simp [cnt] at h
  | f + 1, p, r, h0, h1, h => by
    simp only [cnt] at h
    split at h
    · split at h
      · cases h
      · rename_i hz
        obtain ⟨q, hq, rfl⟩ := Option.map_eq_some_iff.1 h
        have := runeS_in s p hz
        have hr := runeS_range s p
        have := cnt_range s f _ q (by omega) (by omega) hq
        omega
    · cases h; omega

/-- The count as both tell it. -/
def told (n : Int) : Option Int → Int
  | some r => n + r
  | none => -1
theorem told_step (n : Int) (o : Option Int) : told (n + 1) o = told n (o.map (· + 1)) := by
  cases o with
  | none => rfl
  | some r => simp only [told, Option.map_some]; omega

theorem curRunes_l (s : ByteArray) (hs : s.size ≤ 281474976710656) (k : Nat) : ∀ (f : Nat) (n p : Int), 0 ≤ p → p ≤ s.size → (s.size : Int) - p < f → 0 ≤ n → n ≤ p →
    cursor_Runes.l0 (f + k + 5) s n p = some (told n (cnt s f p))
  | 0, n, p, h0, hp, h1, hn, hn1 => by omega
  | f + 1, n, p, h0, hp, h1, hn, hn1 => by
    have hr := runeS_range s p
    rw [show f + 1 + k + 5 = (f + k + 5) + 1 by omega, cursor_Runes.l0]
    simp only [cnt]
    by_cases a : p < s.size
    · rw [if_pos a, if_pos a, show f + k + 5 = (f + k) + 5 by omega, curRune s p hs, Option.bind_some]
      by_cases z : runeS s p = 0
      · rw [if_pos z, if_pos z]; rfl
      · rw [if_neg z, if_neg z]
        have hi := runeS_in s p z
        have e1 : wrap64 (n + 1) = n + 1 := wr _ (by omega) (by omega)
        have e2 : wrap64 (p + runeS s p) = p + runeS s p := wr _ (by omega) (by omega)
        rw [e1, e2, curRunes_l s hs k f (n + 1) (p + runeS s p) (by omega) (by omega) (by omega) (by omega) (by omega), told_step]
    · rw [if_neg a, if_neg a]; simp [told]

theorem refRunes_l (s : ByteArray) (hs : s.size ≤ 281474976710656) (k : Nat) : ∀ (f : Nat) (n p : Int), 0 ≤ p → p ≤ s.size → (s.size : Int) - p < f → 0 ≤ n → n ≤ p →
    quipuref11_Runes.l0 (f + k + 8) s n p = some (told n (cnt s f p))
  | 0, n, p, h0, hp, h1, hn, hn1 => by omega
  | f + 1, n, p, h0, hp, h1, hn, hn1 => by
    have hr := runeS_range s p
    rw [show f + 1 + k + 8 = (f + k + 8) + 1 by omega, quipuref11_Runes.l0]
    simp only [cnt]
    by_cases a : p < s.size
    · rw [if_pos a, if_pos a, show f + k + 8 = (f + k) + 8 by omega, refRune s p hs, Option.bind_some]
      by_cases z : runeS s p = 0
      · rw [if_pos z, if_pos z]; rfl
      · rw [if_neg z, if_neg z]
        have hi := runeS_in s p z
        have e1 : wrap64 (n + 1) = n + 1 := wr _ (by omega) (by omega)
        have e2 : wrap64 (p + runeS s p) = p + runeS s p := wr _ (by omega) (by omega)
        rw [e1, e2, refRunes_l s hs k f (n + 1) (p + runeS s p) (by omega) (by omega) (by omega) (by omega) (by omega), told_step]
    · rw [if_neg a, if_neg a]; simp [told]

theorem runesS_told (s : ByteArray) : told 0 (cnt s (s.size + 1) 0) = runesS s := by
  unfold runesS
  cases cnt s (s.size + 1) 0 with
  | none => rfl
  | some r => simp [told]
theorem curRunes (s : ByteArray) (hs : s.size ≤ 281474976710656) (k : Nat) : cursor_Runes.f (s.size + 1 + k + 5) s = some (runesS s) := by
  rw [cursor_Runes.f, curRunes_l s hs k (s.size + 1) 0 0 (by omega) (by omega) (by omega) (by omega) (by omega), runesS_told]
theorem refRunes (s : ByteArray) (hs : s.size ≤ 281474976710656) (k : Nat) : quipuref11_Runes.f (s.size + 1 + k + 8) s = some (runesS s) := by
  rw [quipuref11_Runes.f, refRunes_l s hs k (s.size + 1) 0 0 (by omega) (by omega) (by omega) (by omega) (by omega), runesS_told]
theorem curValid (s : ByteArray) (hs : s.size ≤ 281474976710656) (k : Nat) : cursor_Valid.f (s.size + 1 + k + 5) s = some (decide (runesS s ≥ 0)) := by
  rw [cursor_Valid.f, curRunes s hs k]; rfl
theorem runesS_le (s : ByteArray) : runesS s ≤ s.size := by
  unfold runesS
  cases h : cnt s (s.size + 1) 0 with
  | none => simp
  | some r => have := cnt_range s _ 0 r (by omega) (by omega) h; simp; omega

/-- More rounds tell the same. -/
theorem more {α : Type} {f : Nat → Option α} (h : ∀ k, LeO (f k) (f (k + 1))) {k m : Nat} {r : α} (hk : k ≤ m) (e : f k = some r) : f m = some r := by
  induction hk with
  | refl => exact e
  | step _ ih => exact h _ _ ih
end Go.Proofs.Ytieipeigjhicfaa.R1
