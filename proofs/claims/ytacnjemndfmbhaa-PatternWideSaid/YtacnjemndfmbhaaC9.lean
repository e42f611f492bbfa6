import Derived.Test.YtacnjemndfmbhaaC8
namespace Go.Proofs.Ytacnjemndfmbhaa
open Go.RowKit
theorem aP46 {p : Prop} (h : p := by unfold tokR; rw [if_neg (by omega), if_neg (by omega)]) : p := h
theorem aP17 {p : Prop} (h : p := by
    unfold Rows_ at h ⊢
    cases bare
    · simp only [Bool.false_eq_true, if_false] at h ⊢
      obtain ⟨x, hx, hn⟩ := h
      exact ⟨x, by simp [hx], hn⟩
    · simp only [if_true] at h ⊢
      intro x hx
      rw [List.mem_append, List.mem_singleton] at hx
      rcases hx with hx | rfl
      · exact h x hx
      · exact hq) : p := h
theorem aP16 {p : Prop} (h : p := by
    by_cases h4 : t.f0 = 4
    · rw [if_pos (show t.f0 = 1 ∨ t.f0 = 2 ∨ t.f0 = 3 ∨ t.f0 = 4 from .inr (.inr (.inr h4))), if_pos (show (t.f0 == 4) = true from beq_iff_eq.mpr h4)]
      repeat' split
      all_goals rfl
    rw [if_neg (show ¬ (t.f0 == 4) = true by simpa using h4), if_neg (show ¬ (t.f0 = 1 ∨ t.f0 = 2 ∨ t.f0 = 3 ∨ t.f0 = 4) by omega)]
    repeat' split
    all_goals rfl) : p := h
end Go.Proofs.Ytacnjemndfmbhaa
section
namespace Go.Proofs.Ytacnjemndfmbhaa.R1
open Go.RowKit Go.Proofs.Ytacnjemndfmbhaa.Q Go.Proofs.YtacnjemndfmbhaaW.PrintWords Go.Proofs.YtacnjemndfmbhaaW.PrintLast
set_option linter.unusedVariables false
set_option linter.unusedSimpArgs false

def W (s : ByteArray) (i lo hi : Int) : Bool := decide (i < s.size) && (decide (lo ≤ bt s i) && decide (bt s i ≤ hi))

def runeS (s : ByteArray) (p : Int) : Int :=
  if p < 0 then 0 else if (s.size : Int) ≤ p then 0 else
  if bt s p < 128 then 1 else if bt s p < 194 then 0
  else if bt s p < 224 then (if W s (p + 1) 128 191 = true then 2 else 0)
  else if bt s p = 224 then (if (W s (p + 1) 160 191 && W s (p + 2) 128 191) = true then 3 else 0)
  else if bt s p = 237 then (if (W s (p + 1) 128 159 && W s (p + 2) 128 191) = true then 3 else 0)
  else if bt s p < 240 then (if (W s (p + 1) 128 191 && W s (p + 2) 128 191) = true then 3 else 0)
  else if bt s p = 240 then (if (W s (p + 1) 144 191 && (W s (p + 2) 128 191 && W s (p + 3) 128 191)) = true then 4 else 0)
  else if bt s p < 244 then (if (W s (p + 1) 128 191 && (W s (p + 2) 128 191 && W s (p + 3) 128 191)) = true then 4 else 0)
  else if bt s p = 244 then (if (W s (p + 1) 128 143 && (W s (p + 2) 128 191 && W s (p + 3) 128 191)) = true then 4 else 0)
  else 0

theorem wr (x : Int) (h0 : 0 ≤ x) (h1 : x ≤ 9223372036854775807) : wrap64 x = x := by unfold wrap64; omega

theorem within_eq (s : ByteArray) (i lo hi : Int) (h : 0 ≤ i) : quipuref11_within.f s i lo hi = some (W s i lo hi) := by
  have hb := bt_range s i
  simp only [quipuref11_within.f, W, wr (bt s i) hb.1 (by omega)]
  by_cases h1 : i < s.size
  · rw [if_pos h1, if_pos h]
    by_cases h2 : bt s i ≥ lo
    · rw [if_pos h2]; simp [h1, h2]
    · rw [if_neg h2]; simp [h1, h2]
  · rw [if_neg h1]; simp [h1]


section
variable (s : ByteArray) (p c : Int) (v0 u2 u3 : Bool)
def T7 (x : Bool) : Int := if x = true then 4 else if c = 244 then (if (W s (p + 1) 128 143 && (u2 && u3)) = true then 4 else 0) else 0
def T6 (x : Bool) : Int := if x = true then 4 else if 241 ≤ c ∧ c ≤ 243 then T7 s p c u2 u3 (v0 && (u2 && u3)) else T7 s p c u2 u3 false
def T5 (x : Bool) : Int := if x = true then 3 else if c = 240 then T6 s p c v0 u2 u3 (W s (p + 1) 144 191 && (u2 && u3)) else T6 s p c v0 u2 u3 false
def T4 (x : Bool) : Int := if x = true then 3 else if c = 237 then T5 s p c v0 u2 u3 (W s (p + 1) 128 159 && u2) else T5 s p c v0 u2 u3 false
def T3 (x : Bool) : Int := if x = true then T4 s p c v0 u2 u3 x else if c = 238 ∨ c = 239 then T4 s p c v0 u2 u3 (v0 && u2) else T4 s p c v0 u2 u3 false
def T2 (x : Bool) : Int := if x = true then 3 else if 225 ≤ c ∧ c ≤ 236 then T3 s p c v0 u2 u3 (v0 && u2) else T3 s p c v0 u2 u3 false
def T1 (x : Bool) : Int := if x = true then 2 else if c = 224 then T2 s p c v0 u2 u3 (W s (p + 1) 160 191 && u2) else T2 s p c v0 u2 u3 false
variable (h0 : 0 ≤ p + 1) (e1 : wrap64 (p + 1) = p + 1)
include h0 e1
theorem t7 (k : Nat) (x : Bool) : quipuref11_Rune.j7 (k + 1) s p c u2 u3 x = some (T7 s p c u2 u3 x) := by
  simp only [quipuref11_Rune.j7, T7, e1, within_eq s (p + 1) _ _ h0, Option.bind_some]
  cases x <;> cases W s (p + 1) 128 143 <;> cases u2 <;> cases u3 <;> simp <;> split <;> rfl
theorem t6 (k : Nat) (x : Bool) : quipuref11_Rune.j6 (k + 2) s p c v0 u2 u3 x = some (T6 s p c v0 u2 u3 x) := by
  simp only [quipuref11_Rune.j6, T6, t7 s p c u2 u3 h0 e1]
  cases x <;> cases v0 <;> cases u2 <;> simp <;> (by_cases a : c ≥ 241 <;> by_cases b : c ≤ 243 <;> simp [a, b])
theorem t5 (k : Nat) (x : Bool) : quipuref11_Rune.j5 (k + 3) s p c v0 u2 u3 x = some (T5 s p c v0 u2 u3 x) := by
  simp only [quipuref11_Rune.j5, T5, t6 s p c v0 u2 u3 h0 e1, e1, within_eq s (p + 1) _ _ h0, Option.bind_some]
  cases x <;> cases W s (p + 1) 144 191 <;> cases u2 <;> simp <;> split <;> rfl
theorem t4 (k : Nat) (x : Bool) : quipuref11_Rune.j4 (k + 4) s p c v0 u2 u3 x = some (T4 s p c v0 u2 u3 x) := by
  simp only [quipuref11_Rune.j4, T4, t5 s p c v0 u2 u3 h0 e1, e1, within_eq s (p + 1) _ _ h0, Option.bind_some]
  cases x <;> cases W s (p + 1) 128 159 <;> simp <;> split <;> rfl
theorem t3 (k : Nat) (x : Bool) : quipuref11_Rune.j3 (k + 5) s p c v0 u2 u3 x = some (T3 s p c v0 u2 u3 x) := by
  simp only [quipuref11_Rune.j3, T3, t4 s p c v0 u2 u3 h0 e1]
  cases x <;> cases v0 <;> simp <;> (by_cases a : c = 238 <;> by_cases b : c = 239 <;> simp [a, b])
theorem t2 (k : Nat) (x : Bool) : quipuref11_Rune.j2 (k + 6) s p c v0 u2 u3 x = some (T2 s p c v0 u2 u3 x) := by
  simp only [quipuref11_Rune.j2, T2, t3 s p c v0 u2 u3 h0 e1]
  cases x <;> cases v0 <;> simp <;> (by_cases a : c ≥ 225 <;> by_cases b : c ≤ 236 <;> simp [a, b])
theorem t1 (k : Nat) (x : Bool) : quipuref11_Rune.j1 (k + 7) s p c v0 u2 u3 x = some (T1 s p c v0 u2 u3 x) := by
  simp only [quipuref11_Rune.j1, T1, t2 s p c v0 u2 u3 h0 e1, e1, within_eq s (p + 1) _ _ h0, Option.bind_some]
  cases x <;> cases W s (p + 1) 160 191 <;> simp <;> split <;> rfl
end

theorem refRune (s : ByteArray) (p : Int) (hs : s.size ≤ 281474976710656) (k : Nat) : quipuref11_Rune.f (k + 8) s p = some (runeS s p) := by
  have hb := bt_range s p
  by_cases h0 : p < 0
  · simp [quipuref11_Rune.f, quipuref11_Rune.j0, runeS, h0]
  by_cases h1 : (s.size : Int) ≤ p
  · simp [quipuref11_Rune.f, quipuref11_Rune.j0, runeS, h0, h1]
  have e1 : wrap64 (p + 1) = p + 1 := wr _ (by omega) (by omega)
  have e2 : wrap64 (p + 2) = p + 2 := wr _ (by omega) (by omega)
  have e3 : wrap64 (p + 3) = p + 3 := wr _ (by omega) (by omega)
  have hd : decide (p ≥ (s.size : Int)) = false := decide_eq_false (by omega)
  simp only [quipuref11_Rune.f, quipuref11_Rune.j0, hd, Bool.false_eq_true, if_false, if_neg h0, if_pos (show 0 ≤ p by omega), if_pos (show p < (s.size : Int) by omega), e1, e2, e3,
    within_eq s (p + 1) 128 191 (by omega), within_eq s (p + 2) 128 191 (by omega), within_eq s (p + 3) 128 191 (by omega), Option.bind_some, wr (bt s p) hb.1 (by omega), t1 s p _ _ _ _ (show 0 ≤ p + 1 by omega) e1]
  simp only [runeS, if_neg h0, if_neg h1]
  have hW1 : ∀ lo hi, (128 : Int) ≤ lo → hi ≤ 191 → W s (p + 1) lo hi = true → W s (p + 1) 128 191 = true := fun lo hi hl hh hw => by
    simp only [W, Bool.and_eq_true, decide_eq_true_eq] at hw ⊢
    omega
  have a1 := hW1 160 191 (by omega) (by omega)
  have a2 := hW1 128 159 (by omega) (by omega)
  have a3 := hW1 144 191 (by omega) (by omega)
  have a4 := hW1 128 143 (by omega) (by omega)
  simp only [T1, T2, T3, T4, T5, T6, T7]
  generalize bt s p = c at *
  generalize W s (p + 1) 128 191 = v0 at *
  generalize W s (p + 1) 160 191 = v1 at *
  generalize W s (p + 1) 128 159 = v2 at *
  generalize W s (p + 1) 144 191 = v3 at *
  generalize W s (p + 1) 128 143 = v4 at *
  generalize W s (p + 2) 128 191 = u2 at *
  generalize W s (p + 3) 128 191 = u3 at *
  clear hW1 hd
  have hc : c < 128 ∨ (128 ≤ c ∧ c < 194) ∨ (194 ≤ c ∧ c < 224) ∨ c = 224 ∨ (225 ≤ c ∧ c ≤ 236) ∨ c = 237 ∨ (238 ≤ c ∧ c ≤ 239) ∨ c = 240 ∨ (241 ≤ c ∧ c ≤ 243) ∨ c = 244 ∨ 244 < c := by omega
  rcases hc with hc | hc | hc | hc | hc | hc | hc | hc | hc | hc | hc
  all_goals
    (first | have f0 := eq_true (show c < 128 by omega) | have f0 := eq_false (show ¬ (c < 128) by omega))
    (first | have f1 := eq_true (show c ≥ 194 by omega) | have f1 := eq_false (show ¬ (c ≥ 194) by omega))
    (first | have f2 := eq_true (show c ≤ 223 by omega) | have f2 := eq_false (show ¬ (c ≤ 223) by omega))
    (first | have f3 := eq_true (show c = 224 by omega) | have f3 := eq_false (show ¬ (c = 224) by omega))
    (first | have f4 := eq_true (show 225 ≤ c ∧ c ≤ 236 by omega) | have f4 := eq_false (show ¬ (225 ≤ c ∧ c ≤ 236) by omega))
    (first | have f5 := eq_true (show c = 238 ∨ c = 239 by omega) | have f5 := eq_false (show ¬ (c = 238 ∨ c = 239) by omega))
    (first | have f6 := eq_true (show c = 237 by omega) | have f6 := eq_false (show ¬ (c = 237) by omega))
    (first | have f7 := eq_true (show c = 240 by omega) | have f7 := eq_false (show ¬ (c = 240) by omega))
    (first | have f8 := eq_true (show 241 ≤ c ∧ c ≤ 243 by omega) | have f8 := eq_false (show ¬ (241 ≤ c ∧ c ≤ 243) by omega))
    (first | have f9 := eq_true (show c = 244 by omega) | have f9 := eq_false (show ¬ (c = 244) by omega))
    (first | have f10 := eq_true (show c < 194 by omega) | have f10 := eq_false (show ¬ (c < 194) by omega))
    (first | have f11 := eq_true (show c < 224 by omega) | have f11 := eq_false (show ¬ (c < 224) by omega))
    (first | have f12 := eq_true (show c < 240 by omega) | have f12 := eq_false (show ¬ (c < 240) by omega))
    (first | have f13 := eq_true (show c < 244 by omega) | have f13 := eq_false (show ¬ (c < 244) by omega))
    try simp only [f0, f1, f2, f3, f4, f5, f6, f7, f8, f9, f10, f11, f12, f13, if_true, if_false, Bool.false_eq_true]
  all_goals
    clear hb hc f0 f1 f2 f3 f4 f5 f6 f7 f8 f9 f10 f11 f12 f13
    try (revert a1 a2 a3 a4; cases v0 <;> cases v1 <;> cases v2 <;> cases v3 <;> cases v4 <;> cases u2 <;> cases u3 <;> simp)

def ok (s : ByteArray) (p : Int) : Nat → Int → Int → Int → Bool
  | 0, _, _, _ => true
  | m + 1, lo, hi, i => (decide (lo ≤ bt s (p + i)) && decide (bt s (p + i) ≤ hi)) && ok s p m 128 191 (i + 1)

theorem loop_eq (s : ByteArray) (p n : Int) (hs : s.size ≤ 281474976710656) (h0 : 0 ≤ p) (h1 : p + n ≤ s.size) :
    ∀ (m k : Nat) (lo hi i : Int), i + m = n → 0 ≤ i → cursor_Rune.l0 (m + k + 1) s p lo hi n i = some (if ok s p m lo hi i = true then n else 0)
  | 0, k, lo, hi, i, hi1, hi0 => by
    rw [cursor_Rune.l0, if_neg (by omega)]; simp [ok]
  | m + 1, k, lo, hi, i, hi1, hi0 => by
    have e1 : wrap64 (p + i) = p + i := wr _ (by omega) (by omega)
    have e2 : wrap64 (i + 1) = i + 1 := wr _ (by omega) (by omega)
    rw [show m + 1 + k + 1 = (m + k + 1) + 1 by omega, cursor_Rune.l0, if_pos (by omega), e1, if_pos (by omega), if_pos (by omega), e2, loop_eq s p n hs h0 h1 m k 128 191 (i + 1) (by omega) (by omega)]
    simp only [ok]
    by_cases a : bt s (p + i) < lo
    · rw [if_pos a]; have : decide (lo ≤ bt s (p + i)) = false := decide_eq_false (by omega)
      simp [this]
    · rw [if_neg a]
      have : decide (lo ≤ bt s (p + i)) = true := decide_eq_true (by omega)
      by_cases b : bt s (p + i) > hi
      · rw [if_pos b]; have : decide (bt s (p + i) ≤ hi) = false := decide_eq_false (by omega)
        simp [this]
      · rw [if_neg b]; have h2 : decide (bt s (p + i) ≤ hi) = true := decide_eq_true (by omega)
        simp [this, h2]

theorem W_in (s : ByteArray) (i lo hi : Int) (h : i < s.size) : W s i lo hi = (decide (lo ≤ bt s i) && decide (bt s i ≤ hi)) := by simp [W, h]
theorem W_out (s : ByteArray) (i lo hi : Int) (h : ¬ i < s.size) : W s i lo hi = false := by simp [W, h]

theorem curRune (s : ByteArray) (p : Int) (hs : s.size ≤ 281474976710656) (k : Nat) : cursor_Rune.f (k + 5) s p = some (runeS s p) := by
  have hb := bt_range s p
  by_cases h0 : p < 0
  · simp [cursor_Rune.f, cursor_Rune.j0, runeS, h0]
  by_cases h1 : (s.size : Int) ≤ p
  · simp [cursor_Rune.f, cursor_Rune.j0, runeS, h0, h1]
  have hd : decide (p ≥ (s.size : Int)) = false := decide_eq_false (by omega)
  have e1 : wrap64 ((s.size : Int) - p) = s.size - p := wr _ (by omega) (by omega)
  simp only [cursor_Rune.f, cursor_Rune.j0, hd, Bool.false_eq_true, if_false, if_neg h0, if_pos (show 0 ≤ p by omega), if_pos (show p < (s.size : Int) by omega), e1]
  simp only [runeS, if_neg h0, if_neg h1, cursor_second.f]
  have three : ∀ lo hi : Int, (if 3 > (s.size : Int) - p then some 0 else cursor_Rune.l0 (k + 4) s p lo hi 3 1) = some (if (W s (p + 1) lo hi && W s (p + 2) 128 191) = true then 3 else 0) := by
    intro lo hi
    by_cases a : p + 3 ≤ s.size
    · rw [if_neg (by omega), show k + 4 = 2 + (k + 1) + 1 by omega, loop_eq s p 3 hs (by omega) a 2 (k + 1) lo hi 1 (by omega) (by omega)]
      simp only [ok, W_in s (p + 1) lo hi (by omega), W_in s (p + 2) 128 191 (by omega), Bool.and_true]
      rfl
    · rw [if_pos (by omega), W_out s (p + 2) 128 191 (by omega)]; simp
  have four : ∀ lo hi : Int, (if 4 > (s.size : Int) - p then some 0 else cursor_Rune.l0 (k + 4) s p lo hi 4 1) = some (if (W s (p + 1) lo hi && (W s (p + 2) 128 191 && W s (p + 3) 128 191)) = true then 4 else 0) := by
    intro lo hi
    by_cases a : p + 4 ≤ s.size
    · rw [if_neg (by omega), show k + 4 = 3 + k + 1 by omega, loop_eq s p 4 hs (by omega) a 3 k lo hi 1 (by omega) (by omega)]
      simp only [ok, W_in s (p + 1) lo hi (by omega), W_in s (p + 2) 128 191 (by omega), W_in s (p + 3) 128 191 (by omega), Bool.and_true]
      rfl
    · rw [if_pos (by omega), W_out s (p + 3) 128 191 (by omega)]; simp
  have two : (if 2 > (s.size : Int) - p then some 0 else cursor_Rune.l0 (k + 4) s p 128 191 2 1) = some (if W s (p + 1) 128 191 = true then 2 else 0) := by
    by_cases a : p + 2 ≤ s.size
    · rw [if_neg (by omega), show k + 4 = 1 + (k + 2) + 1 by omega, loop_eq s p 2 hs (by omega) a 1 (k + 2) 128 191 1 (by omega) (by omega)]
      simp only [ok, W_in s (p + 1) 128 191 (by omega), Bool.and_true]
    · rw [if_pos (by omega), W_out s (p + 1) 128 191 (by omega)]; simp
  have zero : ∀ (lo hi : Int), (if (0 : Int) > (s.size : Int) - p then some 0 else cursor_Rune.l0 (k + 4) s p lo hi 0 1) = some 0 := by
    intro lo hi; rw [if_neg (by omega), cursor_Rune.l0, if_neg (by omega)]
  have one : ∀ (lo hi : Int), (if (1 : Int) > (s.size : Int) - p then some 0 else cursor_Rune.l0 (k + 4) s p lo hi 1 1) = some 1 := by
    intro lo hi; rw [if_neg (by omega), cursor_Rune.l0, if_neg (by omega)]
  by_cases c0 : bt s p < 128
  · rw [if_pos c0, if_pos c0]; simpa using one 0 0
  rw [if_neg c0, if_neg c0]
  by_cases c1 : bt s p < 194
  · rw [if_pos c1, if_pos c1]; simpa using zero 0 0
  rw [if_neg c1, if_neg c1]
  by_cases c2 : bt s p < 224
  · rw [if_pos c2, if_pos c2]; simpa using two
  rw [if_neg c2, if_neg c2]
  by_cases c3 : bt s p = 224
  · rw [if_pos c3, if_pos c3]; simpa using three 160 191
  rw [if_neg c3, if_neg c3]
  by_cases c4 : bt s p = 237
  · rw [if_pos c4, if_pos c4]; simpa using three 128 159
  rw [if_neg c4, if_neg c4]
  by_cases c5 : bt s p < 240
  · rw [if_pos c5, if_pos c5]; simpa using three 128 191
  rw [if_neg c5, if_neg c5]
  by_cases c6 : bt s p = 240
  · rw [if_pos c6, if_pos c6]; simpa using four 144 191
  rw [if_neg c6, if_neg c6]
  by_cases c7 : bt s p < 244
  · rw [if_pos c7, if_pos c7]; simpa using four 128 191
  rw [if_neg c7, if_neg c7]
  by_cases c8 : bt s p = 244
  · rw [if_pos c8, if_pos c8]; simpa using four 128 143
  rw [if_neg c8, if_neg c8]; simpa using zero 0 0

theorem runeS_range (s : ByteArray) (p : Int) : 0 ≤ runeS s p ∧ runeS s p ≤ 4 := by
  unfold runeS
  repeat' split
  all_goals omega
theorem runeS_in (s : ByteArray) (p : Int) (h : runeS s p ≠ 0) : 0 ≤ p ∧ p + runeS s p ≤ s.size := by
  have hw : ∀ i lo hi, W s i lo hi = true → i < s.size := fun i lo hi hh => by
    simp only [W, Bool.and_eq_true, decide_eq_true_eq] at hh; omega
  have fin : ∀ (n : Int) (w : Bool), (w = true → 0 ≤ p ∧ p + n ≤ s.size) → (if w = true then n else 0) ≠ 0 → 0 ≤ p ∧ p + (if w = true then n else 0) ≤ s.size := fun n w h1 h2 => by
    cases w with
    | true => simpa using h1 rfl
    | false => exact absurd rfl h2
  by_cases a : p < 0
  · simp [runeS, a] at h
  by_cases b : (s.size : Int) ≤ p
  · simp [runeS, a, b] at h
  have h3 : ∀ lo hi, (W s (p + 1) lo hi && W s (p + 2) 128 191) = true → 0 ≤ p ∧ p + 3 ≤ s.size := fun lo hi hh => by
    simp only [Bool.and_eq_true] at hh; have := hw _ _ _ hh.2; omega
  have h4 : ∀ lo hi, (W s (p + 1) lo hi && (W s (p + 2) 128 191 && W s (p + 3) 128 191)) = true → 0 ≤ p ∧ p + 4 ≤ s.size := fun lo hi hh => by
    simp only [Bool.and_eq_true] at hh; have := hw _ _ _ hh.2.2; omega
  have h2 : W s (p + 1) 128 191 = true → 0 ≤ p ∧ p + 2 ≤ s.size := fun hh => by have := hw _ _ _ hh; omega
  revert h
  simp only [runeS, if_neg a, if_neg b]
  by_cases c0 : bt s p < 128
  · simp only [if_pos c0]; omega
  simp only [if_neg c0]
  by_cases c1 : bt s p < 194
  · simp only [if_pos c1]; intro h; exact absurd rfl h
  simp only [if_neg c1]
  by_cases c2 : bt s p < 224
  · simp only [if_pos c2]; exact fin 2 _ h2
  simp only [if_neg c2]
  by_cases c3 : bt s p = 224
  · simp only [if_pos c3]; exact fin 3 _ (h3 _ _)
  simp only [if_neg c3]
  by_cases c4 : bt s p = 237
  · simp only [if_pos c4]; exact fin 3 _ (h3 _ _)
  simp only [if_neg c4]
  by_cases c5 : bt s p < 240
  · simp only [if_pos c5]; exact fin 3 _ (h3 _ _)
  simp only [if_neg c5]
  by_cases c6 : bt s p = 240
  · simp only [if_pos c6]; exact fin 4 _ (h4 _ _)
  simp only [if_neg c6]
  by_cases c7 : bt s p < 244
  · simp only [if_pos c7]; exact fin 4 _ (h4 _ _)
  simp only [if_neg c7]
  by_cases c8 : bt s p = 244
  · simp only [if_pos c8]; exact fin 4 _ (h4 _ _)
  simp only [if_neg c8]; intro h; exact absurd rfl h

def cnt (s : ByteArray) : Nat → Int → Option Int
  | 0, _ => none
  | f + 1, p => if p < s.size then (if runeS s p = 0 then none else (cnt s f (p + runeS s p)).map (· + 1)) else some 0

def runesS (s : ByteArray) : Int := (cnt s (s.size + 1) 0).getD (-1)

theorem cnt_range (s : ByteArray) : ∀ (f : Nat) (p r : Int), 0 ≤ p → p ≤ s.size → cnt s f p = some r → 0 ≤ r ∧ r ≤ s.size - p
  | 0, p, r, _, _, h => by simp [cnt] at h
  | f + 1, p, r, h0, h1, h => by
    simp only [cnt] at h
    split at h
    · split at h
      · cases h
      · rename_i hz
        obtain ⟨q, hq, rfl⟩ := Option.map_eq_some_iff.1 h
        have := runeS_in s p hz
        have hr := runeS_range s p
        have := cnt_range s f _ q (by omega) (by omega) hq
        omega
    · cases h; omega

def told (n : Int) : Option Int → Int
  | some r => n + r
  | none => -1
theorem told_step (n : Int) (o : Option Int) : told (n + 1) o = told n (o.map (· + 1)) := by
  cases o with
  | none => rfl
  | some r => simp only [told, Option.map_some]; omega

theorem curRunes_l (s : ByteArray) (hs : s.size ≤ 281474976710656) (k : Nat) : ∀ (f : Nat) (n p : Int), 0 ≤ p → p ≤ s.size → (s.size : Int) - p < f → 0 ≤ n → n ≤ p →
    cursor_Runes.l0 (f + k + 5) s n p = some (told n (cnt s f p))
  | 0, n, p, h0, hp, h1, hn, hn1 => by omega
  | f + 1, n, p, h0, hp, h1, hn, hn1 => by
    have hr := runeS_range s p
    rw [show f + 1 + k + 5 = (f + k + 5) + 1 by omega, cursor_Runes.l0]
    simp only [cnt]
    by_cases a : p < s.size
    · rw [if_pos a, if_pos a, show f + k + 5 = (f + k) + 5 by omega, curRune s p hs, Option.bind_some]
      by_cases z : runeS s p = 0
      · rw [if_pos z, if_pos z]; rfl
      · rw [if_neg z, if_neg z]
        have hi := runeS_in s p z
        have e1 : wrap64 (n + 1) = n + 1 := wr _ (by omega) (by omega)
        have e2 : wrap64 (p + runeS s p) = p + runeS s p := wr _ (by omega) (by omega)
        rw [e1, e2, curRunes_l s hs k f (n + 1) (p + runeS s p) (by omega) (by omega) (by omega) (by omega) (by omega), told_step]
    · rw [if_neg a, if_neg a]; simp [told]

theorem refRunes_l (s : ByteArray) (hs : s.size ≤ 281474976710656) (k : Nat) : ∀ (f : Nat) (n p : Int), 0 ≤ p → p ≤ s.size → (s.size : Int) - p < f → 0 ≤ n → n ≤ p →
    quipuref11_Runes.l0 (f + k + 8) s n p = some (told n (cnt s f p))
  | 0, n, p, h0, hp, h1, hn, hn1 => by omega
  | f + 1, n, p, h0, hp, h1, hn, hn1 => by
    have hr := runeS_range s p
    rw [show f + 1 + k + 8 = (f + k + 8) + 1 by omega, quipuref11_Runes.l0]
    simp only [cnt]
    by_cases a : p < s.size
    · rw [if_pos a, if_pos a, show f + k + 8 = (f + k) + 8 by omega, refRune s p hs, Option.bind_some]
      by_cases z : runeS s p = 0
      · rw [if_pos z, if_pos z]; rfl
      · rw [if_neg z, if_neg z]
        have hi := runeS_in s p z
        have e1 : wrap64 (n + 1) = n + 1 := wr _ (by omega) (by omega)
        have e2 : wrap64 (p + runeS s p) = p + runeS s p := wr _ (by omega) (by omega)
        rw [e1, e2, refRunes_l s hs k f (n + 1) (p + runeS s p) (by omega) (by omega) (by omega) (by omega) (by omega), told_step]
    · rw [if_neg a, if_neg a]; simp [told]

theorem runesS_told (s : ByteArray) : told 0 (cnt s (s.size + 1) 0) = runesS s := by
  unfold runesS
  cases cnt s (s.size + 1) 0 with
  | none => rfl
  | some r => simp [told]
theorem curRunes (s : ByteArray) (hs : s.size ≤ 281474976710656) (k : Nat) : cursor_Runes.f (s.size + 1 + k + 5) s = some (runesS s) := by
  rw [cursor_Runes.f, curRunes_l s hs k (s.size + 1) 0 0 (by omega) (by omega) (by omega) (by omega) (by omega), runesS_told]
theorem refRunes (s : ByteArray) (hs : s.size ≤ 281474976710656) (k : Nat) : quipuref11_Runes.f (s.size + 1 + k + 8) s = some (runesS s) := by
  rw [quipuref11_Runes.f, refRunes_l s hs k (s.size + 1) 0 0 (by omega) (by omega) (by omega) (by omega) (by omega), runesS_told]
theorem curValid (s : ByteArray) (hs : s.size ≤ 281474976710656) (k : Nat) : cursor_Valid.f (s.size + 1 + k + 5) s = some (decide (runesS s ≥ 0)) := by
  rw [cursor_Valid.f, curRunes s hs k]; rfl
theorem runesS_le (s : ByteArray) : runesS s ≤ s.size := by
  unfold runesS
  cases h : cnt s (s.size + 1) 0 with
  | none => simp
  | some r => have := cnt_range s _ 0 r (by omega) (by omega) h; simp; omega

end Go.Proofs.Ytacnjemndfmbhaa.R1
end
section
namespace Go.Proofs.Ytacnjemndfmbhaa.R1
open Go.RowKit Go.Proofs.Ytacnjemndfmbhaa.Q Go.Proofs.YtacnjemndfmbhaaW.PrintWords Go.Proofs.YtacnjemndfmbhaaW.PrintLast
set_option linter.unusedVariables false
set_option linter.unusedSimpArgs false

def sec (c : Int) : Int × Int × Int :=
  if c < 128 then (0, 0, 1) else if c < 194 then (0, 0, 0) else if c < 224 then (128, 191, 2) else if c = 224 then (160, 191, 3) else if c = 237 then (128, 159, 3)
  else if c < 240 then (128, 191, 3) else if c = 240 then (144, 191, 4) else if c < 244 then (128, 191, 4) else if c = 244 then (128, 143, 4) else (0, 0, 0)
def G (x : Int × Int × Int) (w : Int → Int → Bool) (w2 w3 : Bool) : Int :=
  if x.2.2 ≤ 1 then x.2.2 else if (w x.1 x.2.1 && ((decide (x.2.2 < 3) || w2) && (decide (x.2.2 < 4) || w3))) = true then x.2.2 else 0

theorem runeS_sec (s : ByteArray) (p : Int) (h0 : 0 ≤ p) (h1 : p < s.size) :
    runeS s p = G (sec (bt s p)) (W s (p + 1)) (W s (p + 2) 128 191) (W s (p + 3) 128 191) := by
  unfold runeS
  rw [if_neg (by omega), if_neg (by omega)]
  unfold sec
  by_cases c0 : bt s p < 128
  · simp [c0, G]
  simp only [if_neg c0]
  by_cases c1 : bt s p < 194
  · simp [c1, G]
  simp only [if_neg c1]
  by_cases c2 : bt s p < 224
  · simp [c2, G]
  simp only [if_neg c2]
  by_cases c3 : bt s p = 224
  · simp [c3, G]
  simp only [if_neg c3]
  by_cases c4 : bt s p = 237
  · simp [c4, G]
  simp only [if_neg c4]
  by_cases c5 : bt s p < 240
  · simp [c5, G]
  simp only [if_neg c5]
  by_cases c6 : bt s p = 240
  · simp [c6, G]
  simp only [if_neg c6]
  by_cases c7 : bt s p < 244
  · simp [c7, G]
  simp only [if_neg c7]
  by_cases c8 : bt s p = 244
  · simp [c8, G]
  simp [if_neg c8, G]

theorem sec_range (c : Int) : 0 ≤ (sec c).2.2 ∧ (sec c).2.2 ≤ 4 := by
  unfold sec
  repeat' split
  all_goals decide

theorem runeS_out (s : ByteArray) (p : Int) (h : ¬ (0 ≤ p ∧ p < s.size)) : runeS s p = 0 := by
  unfold runeS
  by_cases a : p < 0
  · rw [if_pos a]
  · rw [if_neg a, if_pos (by omega)]

theorem runeS_mono (s t : ByteArray) (p q : Int) (h0 : 0 ≤ q) (h1 : q < t.size) (hb : bt s p = bt t q)
    (hw : ∀ j lo hi, 0 < j → W s (p + j) lo hi = true → W t (q + j) lo hi = true) (hn : runeS s p ≠ 0) : runeS t q = runeS s p := by
  have hp : 0 ≤ p ∧ p < s.size := Classical.byContradiction fun h => hn (runeS_out s p h)
  rw [runeS_sec s p hp.1 hp.2] at hn ⊢
  rw [runeS_sec t q h0 h1, ← hb]
  generalize sec (bt s p) = x at *
  unfold G at *
  by_cases c : x.2.2 ≤ 1
  · rw [if_pos c, if_pos c]
  rw [if_neg c] at hn
  rw [if_neg c, if_neg c]
  by_cases d : (W s (p + 1) x.1 x.2.1 && ((decide (x.2.2 < 3) || W s (p + 2) 128 191) && (decide (x.2.2 < 4) || W s (p + 3) 128 191))) = true
  · rw [if_pos d, if_pos ?_]
    simp only [Bool.and_eq_true, Bool.or_eq_true] at d ⊢
    exact ⟨hw _ _ _ (by omega) d.1, d.2.1.imp id (hw _ _ _ (by omega)), d.2.2.imp id (hw _ _ _ (by omega))⟩
  · rw [if_neg d] at hn; exact absurd rfl hn

theorem runeS_same (s t : ByteArray) (p q : Int) (h0 : 0 ≤ q) (h1 : q < t.size) (h2 : 0 ≤ p) (h3 : p < s.size) (hb : bt s p = bt t q)
    (hw : ∀ j lo hi, 0 < j → W s (p + j) lo hi = W t (q + j) lo hi) : runeS t q = runeS s p := by
  rw [runeS_sec s p h2 h3, runeS_sec t q h0 h1, ← hb]
  unfold G
  rw [hw 1 _ _ (by omega), hw 2 _ _ (by omega), hw 3 _ _ (by omega)]

theorem size_app (a b : ByteArray) : ((a ++ b).size : Int) = a.size + b.size := by rw [ByteArray.size_append]; omega
theorem bt_app_left (a b : ByteArray) (i : Int) (h0 : 0 ≤ i) (h : i < a.size) : bt (a ++ b) i = bt a i := by
  have h1 : i.toNat < a.size := by omega
  have h2 : i.toNat < (a ++ b).size := by rw [ByteArray.size_append]; omega
  simp only [bt, h1, h2, dite_true]
  rw [ByteArray.getElem_append_left h1]
theorem bt_app_right (a b : ByteArray) (i : Int) (h0 : 0 ≤ i) : bt (a ++ b) (a.size + i) = bt b i := by
  by_cases h : i < b.size
  · have h1 : i.toNat < b.size := by omega
    have h2 : (a.size + i : Int).toNat < (a ++ b).size := by rw [ByteArray.size_append]; omega
    simp only [bt, h1, h2, dite_true]
    rw [ByteArray.getElem_append_right (by omega)]
    congr 2
    have : (a.size + i : Int).toNat - a.size = i.toNat := by omega
    simp only [this]
  · have h1 : ¬ i.toNat < b.size := by omega
    have h2 : ¬ (a.size + i : Int).toNat < (a ++ b).size := by rw [ByteArray.size_append]; omega
    simp only [bt, h1, h2, dite_false]
theorem W_app_left (a b : ByteArray) (i lo hi : Int) (h0 : 0 ≤ i) (h : W a i lo hi = true) : W (a ++ b) i lo hi = true := by
  have hh : i < a.size := by simp only [W, Bool.and_eq_true, decide_eq_true_eq] at h; omega
  rw [W_in a i lo hi hh] at h
  rw [W_in _ _ _ _ (by rw [size_app]; omega), bt_app_left a b i h0 hh]; exact h
theorem W_app_right (a b : ByteArray) (i lo hi : Int) (h0 : 0 ≤ i) : W (a ++ b) (a.size + i) lo hi = W b i lo hi := by
  simp only [W, bt_app_right a b i h0]
  congr 1
  rw [size_app]
  exact decide_eq_decide.mpr (by omega)

theorem runeS_app_left (a b : ByteArray) (p : Int) (h : runeS a p ≠ 0) : runeS (a ++ b) p = runeS a p := by
  have hp : 0 ≤ p ∧ p < a.size := Classical.byContradiction fun hh => h (runeS_out a p hh)
  refine runeS_mono a (a ++ b) p p hp.1 (by rw [size_app]; omega) (bt_app_left a b p hp.1 hp.2).symm (fun j lo hi hj hw => W_app_left a b _ _ _ (by omega) hw) h
theorem runeS_app_right (a b : ByteArray) (p : Int) (h0 : 0 ≤ p) (h1 : p < b.size) : runeS (a ++ b) (a.size + p) = runeS b p := by
  refine runeS_same b (a ++ b) p (a.size + p) (by omega) (by rw [size_app]; omega) h0 h1 (bt_app_right a b p h0).symm (fun j lo hi hj => ?_)
  rw [show (a.size + p + j : Int) = a.size + (p + j) by omega, W_app_right a b _ _ _ (by omega)]

theorem cnt_succ (s : ByteArray) (f : Nat) (p : Int) : cnt s (f + 1) p = if p < s.size then (if runeS s p = 0 then none else (cnt s f (p + runeS s p)).map (· + 1)) else some 0 := rfl
theorem size_cut (a : ByteArray) (i m : Int) (h0 : 0 ≤ i) (h1 : 0 ≤ m) (h2 : i + m ≤ a.size) : ((a.extract i.toNat (i + m).toNat).size : Int) = m := by
  rw [ByteArray.size_extract]; omega
theorem bt_cut (a : ByteArray) (i m q : Int) (h0 : 0 ≤ i) (h1 : 0 ≤ q) (h2 : q < m) (h3 : i + m ≤ a.size) : bt (a.extract i.toNat (i + m).toNat) q = bt a (i + q) := by
  have a1 : q.toNat < (a.extract i.toNat (i + m).toNat).size := by rw [ByteArray.size_extract]; omega
  have a2 : (i + q).toNat < a.size := by omega
  simp only [bt, a1, a2, dite_true]
  rw [ByteArray.getElem_extract]
  have : i.toNat + q.toNat = (i + q).toNat := by omega
  simp only [this]
theorem W_cut (a : ByteArray) (i m q lo hi : Int) (h0 : 0 ≤ i) (h1 : 0 ≤ q) (h3 : i + m ≤ a.size) (hm : 0 ≤ m) : W (a.extract i.toNat (i + m).toNat) q lo hi = (decide (q < m) && W a (i + q) lo hi) := by
  by_cases h : q < m
  · rw [W_in _ _ _ _ (by rw [size_cut a i m h0 hm h3]; exact h), bt_cut a i m q h0 h1 h h3, W_in a (i + q) lo hi (by omega)]; simp [h]
  · rw [W_out _ _ _ _ (by rw [size_cut a i m h0 hm h3]; exact h)]; simp [h]

theorem runeS_form (s : ByteArray) (p : Int) (h : runeS s p ≠ 0) : runeS s p = (sec (bt s p)).2.2 := by
  have hp : 0 ≤ p ∧ p < s.size := Classical.byContradiction fun hh => h (runeS_out s p hh)
  rw [runeS_sec s p hp.1 hp.2] at h ⊢
  unfold G at *
  split
  · rfl
  · rename_i c
    rw [if_neg c] at h
    split
    · rfl
    · rename_i d; rw [if_neg d] at h; exact absurd rfl h

theorem runeS_cut (a : ByteArray) (i m : Int) (hz : runeS a i ≠ 0) (hm : 1 ≤ m) (hk : m ≤ runeS a i) :
    runeS (a.extract i.toNat (i + m).toNat) 0 = if m = runeS a i then m else 0 := by
  have hi := runeS_in a i hz
  have hf := runeS_form a i hz
  have hr := runeS_range a i
  rw [runeS_sec _ 0 (by omega) (by rw [size_cut a i m hi.1 (by omega) (by omega)]; omega), bt_cut a i m 0 hi.1 (by omega) (by omega) (by omega)]
  simp only [Int.zero_add, Int.add_zero]
  rw [runeS_sec a i hi.1 (by omega)] at hz
  rw [hf] at hk hr ⊢
  rw [W_cut a i m 2 _ _ hi.1 (by omega) (by omega) (by omega), W_cut a i m 3 _ _ hi.1 (by omega) (by omega) (by omega)]
  have hw1 := fun lo hi2 => W_cut a i m 1 lo hi2 hi.1 (by omega) (by omega) (by omega)
  generalize sec (bt a i) = x at *
  unfold G at *
  by_cases c : x.2.2 ≤ 1
  · rw [if_pos c, if_pos (by omega)]; omega
  rw [if_neg c] at hz
  rw [if_neg c, hw1]
  by_cases d : (W a (i + 1) x.1 x.2.1 && ((decide (x.2.2 < 3) || W a (i + 2) 128 191) && (decide (x.2.2 < 4) || W a (i + 3) 128 191))) = true
  · simp only [Bool.and_eq_true, Bool.or_eq_true, decide_eq_true_eq] at d ⊢
    by_cases e : m = x.2.2
    · rw [if_pos e, if_pos ?_, e]
      refine ⟨⟨by omega, d.1⟩, ?_, ?_⟩
      · rcases d.2.1 with h | h
        · exact .inl h
        · by_cases q : x.2.2 < 3
          · exact .inl q
          · exact .inr ⟨by omega, h⟩
      · rcases d.2.2 with h | h
        · exact .inl h
        · by_cases q : x.2.2 < 4
          · exact .inl q
          · exact .inr ⟨by omega, h⟩
    · rw [if_neg e, if_neg ?_]
      rintro ⟨⟨h1, _⟩, h2, h3⟩
      omega
  · rw [if_neg d] at hz; exact absurd rfl hz

end Go.Proofs.Ytacnjemndfmbhaa.R1
end
section
namespace Go.Proofs.Ytacnjemndfmbhaa.A
open Go.RowKit Go.Proofs.Ytacnjemndfmbhaa.Q Go.Proofs.Ytacnjemndfmbhaa.R1 Go.Proofs.YtacnjemndfmbhaaW.PrintWords Go.Proofs.YtacnjemndfmbhaaW.PrintLast
set_option linter.unusedVariables false
def cut (s : ByteArray) (p : Int) : ByteArray := s.extract p.toNat (p + runeS s p).toNat
def runesF (s : ByteArray) : Nat → Int → List ByteArray × Bool
  | 0, _ => ([], false)
  | d + 1, p => if p < s.size then (if runeS s p = 0 then ([], false) else (cut s p :: (runesF s d (p + runeS s p)).1, (runesF s d (p + runeS s p)).2)) else ([], true)
theorem rune_pos (s : ByteArray) (p : Int) (h : runeS s p ≠ 0) : 1 ≤ runeS s p ∧ runeS s p ≤ 4 ∧ 0 ≤ p ∧ p + runeS s p ≤ s.size := by
  have h0 := runeS_range s p
  have h1 := runeS_in s p h
  omega
theorem runesF_fuel (s : ByteArray) : ∀ (f g : Nat) (p : Int), 0 ≤ p → p ≤ s.size → (s.size : Int) - p < f → f ≤ g → runesF s g p = runesF s f p
  | 0, g, p, h0, h1, h2, h3 => by omega
  | f + 1, g, p, h0, h1, h2, h3 => by
    obtain ⟨g', rfl⟩ : ∃ g', g = g' + 1 := ⟨g - 1, by omega⟩
    simp only [runesF]
    by_cases hlt : p < s.size
    · rw [if_pos hlt, if_pos hlt]
      by_cases hz : runeS s p = 0
      · rw [if_pos hz, if_pos hz]
      · have hr := rune_pos s p hz
        rw [if_neg hz, if_neg hz, runesF_fuel s f g' (p + runeS s p) (by omega) (by omega) (by omega) (by omega)]
    · rw [if_neg hlt, if_neg hlt]
def runesAt (s : ByteArray) (p : Int) : List ByteArray × Bool := runesF s (((s.size : Int) - p).toNat + 1) p
theorem runesAt_end (s : ByteArray) (p : Int) (h : ¬ p < s.size) : runesAt s p = ([], true) := by
  unfold runesAt
  simp only [runesF]
  rw [if_neg h]
theorem runesAt_bad (s : ByteArray) (p : Int) (h : p < s.size) (hz : runeS s p = 0) : runesAt s p = ([], false) := by
  unfold runesAt
  simp only [runesF]
  rw [if_pos h, if_pos hz]
theorem runesAt_step (s : ByteArray) (p : Int) (hz : runeS s p ≠ 0) : runesAt s p = (cut s p :: (runesAt s (p + runeS s p)).1, (runesAt s (p + runeS s p)).2) := by
  have hr := rune_pos s p hz
  have e : runesF s ((s.size : Int) - p).toNat (p + runeS s p) = runesAt s (p + runeS s p) := by
    unfold runesAt
    exact runesF_fuel s _ _ _ (by omega) (by omega) (by omega) (by omega)
  rw [← e]
  unfold runesAt
  simp only [runesF]
  rw [if_pos (by omega), if_neg hz]
theorem cut_size (s : ByteArray) (p : Int) (hz : runeS s p ≠ 0) : ((cut s p).size : Int) = runeS s p := by
  have hr := rune_pos s p hz
  exact size_cut s p (runeS s p) (by omega) (by omega) (by omega)
def IsRune (c : ByteArray) : Prop := runeS c 0 = c.size ∧ c.size ≠ 0
theorem cut_rune (s : ByteArray) (p : Int) (hz : runeS s p ≠ 0) : IsRune (cut s p) := by
  have hr := rune_pos s p hz
  have h := runeS_cut s p (runeS s p) hz (by omega) (Int.le_refl _)
  rw [if_pos rfl] at h
  have hs := cut_size s p hz
  exact ⟨by rw [hs]; exact h, by omega⟩
theorem runesAt_runes (s : ByteArray) : ∀ (d : Nat) (p : Int), 0 ≤ p → p ≤ s.size → (s.size : Int) - p ≤ d → ∀ c ∈ (runesAt s p).1, IsRune c
  | d, p, h0, h1, h2 => by
    intro c hc
    by_cases hlt : p < s.size
    · by_cases hz : runeS s p = 0
      · rw [runesAt_bad s p hlt hz] at hc; simp at hc
      · have hr := rune_pos s p hz
        rw [runesAt_step s p hz] at hc
        simp only [List.mem_cons] at hc
        rcases hc with rfl | hc
        · exact cut_rune s p hz
        · obtain ⟨d', rfl⟩ : ∃ d', d = d' + 1 := ⟨d - 1, by omega⟩
          exact runesAt_runes s d' (p + runeS s p) (by omega) (by omega) (by omega) c hc
    · rw [runesAt_end s p hlt] at hc; simp at hc
theorem bt_first {c : ByteArray} {b : UInt8} {r : List UInt8} (h : c.data.toList = b :: r) : bt c 0 = b.toNat ∧ (c.size : Int) = r.length + 1 := by
  have hs : c.size = r.length + 1 := by
    have := congrArg List.length h
    simpa using this
  refine ⟨?_, by omega⟩
  simp only [bt]
  have h0 : (0 : Int).toNat < c.size := by omega
  rw [dif_pos h0]
  have e : c.data.toList[(0 : Int).toNat]? = some b := by rw [h]; rfl
  rw [Array.getElem?_toList] at e
  have e2 : c.data[(0 : Int).toNat]? = some (c[(0 : Int).toNat]'h0) := by
    exact Array.getElem?_eq_getElem (by simpa using h0)
  rw [e2] at e
  injection e with e
  rw [e]
theorem list_of {c : ByteArray} (h : c.size ≠ 0) : ∃ b r, c.data.toList = b :: r := by
  cases hc : c.data.toList with
  | nil =>
    exfalso
    have := congrArg List.length hc
    rw [show c.data.toList.length = c.size by simp] at this
    exact h this
  | cons b r => exact ⟨b, r, rfl⟩
theorem rune_first {c : ByteArray} (h : IsRune c) : (∃ b, c.data.toList = [b] ∧ b.toNat < 128) ∨ ∃ b r, c.data.toList = b :: r ∧ 194 ≤ b.toNat ∧ r ≠ [] := by
  obtain ⟨h0, h1⟩ := h
  obtain ⟨b, r, e⟩ := list_of h1
  obtain ⟨e1, e2⟩ := bt_first e
  have hf := runeS_form c 0 (by omega)
  rw [e1] at hf
  have hlt : b.toNat < 256 := b.toNat_lt
  rw [h0, e2] at hf
  by_cases c1 : b.toNat < 128
  · left
    have : (sec (b.toNat : Int)).2.2 = 1 := by unfold sec; rw [if_pos (by omega)]
    rw [this] at hf
    have : r = [] := List.eq_nil_of_length_eq_zero (by omega)
    subst this
    exact ⟨b, e, c1⟩
  · right
    by_cases c2 : b.toNat < 194
    · exfalso
      have : (sec (b.toNat : Int)).2.2 = 0 := by unfold sec; rw [if_neg (by omega), if_pos (by omega)]
      omega
    · refine ⟨b, r, e, by omega, ?_⟩
      rintro rfl
      have hge : 2 ≤ (sec (b.toNat : Int)).2.2 ∨ (sec (b.toNat : Int)).2.2 = 0 := by
        unfold sec
        rw [if_neg (by omega), if_neg (by omega)]
        (repeat' split) <;> simp
      simp at hf
      omega
def LETTERS : List UInt8 := [48, 49, 50, 51, 52, 53, 54, 55, 56, 57, 35, 64, 44, 46, 59, 42]
theorem no_contains (sub : List UInt8) (b : UInt8) (r : List UInt8) (h : sub = b :: r) (L : List UInt8) (hL : b ∉ L) : Lib.contains L sub = false := by
  subst h
  have : Lib.index L (b :: r) = -1 := by
    apply Lib.index_none
    intro j _
    unfold Lib.occAt
    cases hd : L.drop j with
    | nil => rfl
    | cons x y =>
      have hx : x ∈ L := List.mem_of_mem_drop (by rw [hd]; exact List.mem_cons_self)
      have : (b == x) = false := beq_eq_false_iff_ne.mpr (fun e => hL (e ▸ hx))
      simp [List.isPrefixOf, this]
  unfold Lib.contains
  rw [this]
  rfl
theorem bytes_of (c : ByteArray) (l : List UInt8) (h : c.data.toList = l) : c = ⟨l.toArray⟩ := by
  cases c with
  | mk d =>
    cases d with
    | mk x => subst h; rfl
theorem letter_one : ∀ n : Fin 256, quipuref13_Letter.f ⟨#[UInt8.ofNat n]⟩ = some (letB ⟨#[UInt8.ofNat n]⟩) := by decide +kernel
theorem letter_eq {c : ByteArray} (h : IsRune c) : quipuref13_Letter.f c = some (letB c) := by
  rcases rune_first h with ⟨b, e, _⟩ | ⟨b, r, e, h1, h2⟩
  · have hc := bytes_of c _ e
    have := letter_one ⟨b.toNat, b.toNat_lt⟩
    simp only [UInt8.ofNat_toNat] at this
    rw [hc]
    exact this
  · obtain ⟨_, e2⟩ := bt_first e
    have hr : 0 < r.length := List.length_pos_iff.2 h2
    unfold quipuref13_Letter.f
    rw [if_neg (by omega)]
    unfold letB
    rw [no_contains _ b r e _ (by
      intro hm
      have : ∀ x ∈ ([48, 49, 50, 51, 52, 53, 54, 55, 56, 57, 35, 64, 44, 46, 59, 42] : List UInt8), x.toNat < 194 := by decide
      have := this b hm
      omega)]
def kindS (c : ByteArray) : Int := if c.toList = ([45] : List UInt8) then 1 else if c.toList = ([43] : List UInt8) then 2 else if c.toList = ([37] : List UInt8) then 3 else if c.toList = ([226, 128, 176] : List UInt8) then 4 else if c.toList = ([194, 164] : List UInt8) then 5 else 0
theorem kind_eq (c : ByteArray) : affix_kind.f c = some (kindS c) := by
  unfold affix_kind.f kindS
  repeat' split
  all_goals rfl
theorem sign_eq (c : ByteArray) : quipuref13_Sign.f c = some (kindS c) := by
  unfold quipuref13_Sign.f kindS
  repeat' split
  all_goals rfl
theorem rd_get (l : List S53) (i : Nat) (h : i < l.length) : rd_T53 l (i : Int) = l[i] := by
  show l.getD (i : Int).toNat z53 = _
  rw [Int.toNat_natCast, List.getD_eq_getElem?_getD, List.getElem?_eq_getElem h]
  rfl
def singleS (t : S53) : Bool :=
  if t.f0 = 0 then (if t.f2.toList = ([] : List UInt8) then false else if t.f1 = 0 then decide (runesS t.f2 ≥ 0) else false)
  else if t.f0 = 1 ∨ t.f0 = 2 ∨ t.f0 = 3 ∨ t.f0 = 4 then (if t.f2.toList = ([] : List UInt8) then t.f1 == 0 else false)
  else if t.f0 = 5 then (if t.f2.toList = ([] : List UInt8) then (if t.f1 ≥ 1 then decide (t.f1 ≤ 3) else false) else false)
  else false
theorem single_eq (t : S53) (K : Nat) (hK : t.f2.size + 20 ≤ K) (hs : t.f2.size ≤ 281474976710656) : affix_single.f K t.f0 t.f1 t.f2 = some (singleS t) := by
  obtain ⟨k, rfl⟩ : ∃ k, K = t.f2.size + 1 + k + 5 := ⟨K - (t.f2.size + 6), by omega⟩
  have hv := curValid t.f2 hs k
  obtain ⟨m, hm⟩ : ∃ m, t.f2.size + 1 + k + 5 = m + 1 := ⟨_, rfl⟩
  unfold affix_single.f singleS
  rw [hv, Option.bind_some]
  by_cases h0 : t.f0 = 0
  · rw [if_pos h0, if_pos h0]
    repeat' split
    all_goals rfl
  rw [if_neg h0, if_neg h0]
  by_cases h1 : t.f0 = 1
  · rw [if_pos h1, if_pos (.inl h1), hm, h1]
    simp only [affix_single.j0]
    rw [if_pos (by decide)]
    repeat' split
    all_goals rfl
  rw [if_neg h1]
  by_cases h2 : t.f0 = 2
  · rw [if_pos h2, if_pos (.inr (.inl h2)), hm, h2]
    simp only [affix_single.j0]
    rw [if_pos (by decide)]
    repeat' split
    all_goals rfl
  rw [if_neg h2]
  by_cases h3 : t.f0 = 3
  · rw [if_pos h3, if_pos (.inr (.inr (.inl h3))), hm, h3]
    simp only [affix_single.j0]
    rw [if_pos (by decide)]
    repeat' split
    all_goals rfl
  rw [if_neg h3, hm]
  simp only [affix_single.j0]
  exact aP16
theorem one_eq (t : S53) (K : Nat) (hK : t.f2.size + 20 ≤ K) (hs : t.f2.size ≤ 281474976710656) : quipuref13_one.f K t.f0 t.f1 t.f2 = some (singleS t) := by
  obtain ⟨k, rfl⟩ : ∃ k, K = t.f2.size + 1 + k + 8 := ⟨K - (t.f2.size + 9), by omega⟩
  have hv := refRunes t.f2 hs k
  obtain ⟨m, hm⟩ : ∃ m, t.f2.size + 1 + k + 8 = m + 1 := ⟨_, rfl⟩
  unfold quipuref13_one.f singleS
  rw [hv, Option.bind_some]
  by_cases h0 : t.f0 = 0
  · rw [if_pos h0, if_pos h0]
    repeat' split
    all_goals rfl
  rw [if_neg h0, if_neg h0]
  by_cases h1 : t.f0 = 1
  · rw [if_pos h1, if_pos (.inl h1), hm, h1]
    simp only [quipuref13_one.j0]
    rw [if_pos (by decide)]
    repeat' split
    all_goals rfl
  rw [if_neg h1]
  by_cases h2 : t.f0 = 2
  · rw [if_pos h2, if_pos (.inr (.inl h2)), hm, h2]
    simp only [quipuref13_one.j0]
    rw [if_pos (by decide)]
    repeat' split
    all_goals rfl
  rw [if_neg h2]
  by_cases h3 : t.f0 = 3
  · rw [if_pos h3, if_pos (.inr (.inr (.inl h3))), hm, h3]
    simp only [quipuref13_one.j0]
    rw [if_pos (by decide)]
    repeat' split
    all_goals rfl
  rw [if_neg h3, hm]
  simp only [quipuref13_one.j0]
  exact aP16
def twice (p : Option S53) (t : S53) : Bool := match p with
  | none => false
  | some q => q.f0 == t.f0 && (t.f0 == 0 || t.f0 == 5)
theorem twice_none (t : S53) : twice none t = false := rfl
theorem twice_eq (q t : S53) (h : q.f0 = t.f0) : twice (some q) t = (t.f0 == 0 || t.f0 == 5) := by
  unfold twice
  simp only [h, beq_self_eq_true, Bool.true_and]
theorem twice_ne (q t : S53) (h : q.f0 ≠ t.f0) : twice (some q) t = false := by
  unfold twice
  simp only [beq_eq_false_iff_ne.mpr h, Bool.false_and]
def checkL (n : Nat) : Option S53 → List S53 → Int → Int
  | _, [], b => if (n : Int) > 64 then 132 else if b > 64 then 132 else 0
  | p, t :: r, b => if (twice p t || !singleS t) = true then 131 else checkL n (some t) r (wrap64 (b + t.f2.size))
def prevOf (l : List S53) (i : Nat) : Option S53 := if i = 0 then none else l[i - 1]?
def Texts (l : List S53) (N : Nat) : Prop := ∀ t ∈ l, t.f2.size ≤ N
theorem affixCheck_l (l : List S53) (N : Nat) (hN : N ≤ 281474976710656) (hl : Texts l N) (hb : l.length ≤ 4611686018427387904) (k : Nat) : ∀ (d i : Nat) (b : Int), i + d = l.length →
    affix_Check.l0 (N + 20 + k + d + 1) l b l (l.length : Int) (i : Int) = some (checkL l.length (prevOf l i) (l.drop i) b)
  | 0, i, b, hi => by
    simp only [affix_Check.l0]
    rw [if_neg (by omega), List.drop_eq_nil_of_le (by omega)]
    simp only [checkL]
    repeat' split
    all_goals rfl
  | d + 1, i, b, hi => by
    have hlt : i < l.length := by omega
    have ih := affixCheck_l l N hN hl hb k d (i + 1)
    have w1 : wrap64 ((i : Int) + 1) = ((i + 1 : Nat) : Int) := by unfold wrap64; omega
    have e1 := rd_get l i hlt
    have hs := single_eq l[i] (N + 20 + k + d + 1) (by have := hl _ (List.getElem_mem hlt); omega) (by have := hl _ (List.getElem_mem hlt); omega)
    have hp : prevOf l (i + 1) = some l[i] := by
      unfold prevOf
      rw [if_neg (by omega), Nat.add_sub_cancel, List.getElem?_eq_getElem hlt]
    rw [show N + 20 + k + (d + 1) + 1 = (N + 20 + k + d + 1) + 1 by omega]
    obtain ⟨m, hm⟩ : ∃ m, N + 20 + k + d + 1 = m := ⟨_, rfl⟩
    simp only [hm] at ih hs ⊢
    clear hm
    simp only [affix_Check.l0]
    rw [if_pos (by omega), if_pos (by omega), if_pos (by omega), e1, hs, Option.bind_some, w1, ih _ (by omega), hp, List.drop_eq_getElem_cons hlt]
    simp only [checkL]
    by_cases hz : i = 0
    · subst hz
      rw [if_neg (by decide)]
      have : prevOf l 0 = none := rfl
      rw [this, twice_none, Bool.false_or]
      cases singleS l[0] <;> rfl
    · have hpr : prevOf l i = some (l[i - 1]'(by omega)) := by
        unfold prevOf
        rw [if_neg hz, List.getElem?_eq_getElem (by omega)]
      have w2 : wrap64 ((i : Int) - 1) = ((i - 1 : Nat) : Int) := by unfold wrap64; omega
      rw [if_pos (by omega), w2, if_pos (by omega), if_pos (by omega), rd_get l (i - 1) (by omega), hpr]
      by_cases h : (l[i - 1]'(by omega)).f0 = l[i].f0
      · rw [if_pos h, twice_eq _ _ h]
        by_cases h0 : l[i].f0 = 0
        · rw [if_pos h0, beq_iff_eq.mpr h0]; rfl
        · rw [if_neg h0, beq_eq_false_iff_ne.mpr h0]
          by_cases h5 : l[i].f0 = 5
          · rw [if_pos h5, beq_iff_eq.mpr h5]; rfl
          · rw [if_neg h5, beq_eq_false_iff_ne.mpr h5]
            cases singleS l[i] <;> rfl
      · rw [if_neg h, twice_ne _ _ h]
        cases singleS l[i] <;> rfl
theorem refCheck_l (l : List S53) (N : Nat) (hN : N ≤ 281474976710656) (hl : Texts l N) (hb : l.length ≤ 4611686018427387904) (k : Nat) : ∀ (d i : Nat) (b : Int), i + d = l.length →
    quipuref13_Check.l0 (N + 20 + k + d + 1) l b (i : Int) = some (checkL l.length (prevOf l i) (l.drop i) b)
  | 0, i, b, hi => by
    simp only [quipuref13_Check.l0]
    rw [if_neg (by omega), List.drop_eq_nil_of_le (by omega)]
    simp only [checkL]
    repeat' split
    all_goals rfl
  | d + 1, i, b, hi => by
    have hlt : i < l.length := by omega
    have ih := refCheck_l l N hN hl hb k d (i + 1)
    have w1 : wrap64 ((i : Int) + 1) = ((i + 1 : Nat) : Int) := by unfold wrap64; omega
    have e1 := rd_get l i hlt
    have hs := one_eq l[i] (N + 20 + k + d + 1) (by have := hl _ (List.getElem_mem hlt); omega) (by have := hl _ (List.getElem_mem hlt); omega)
    have hp : prevOf l (i + 1) = some l[i] := by
      unfold prevOf
      rw [if_neg (by omega), Nat.add_sub_cancel, List.getElem?_eq_getElem hlt]
    rw [show N + 20 + k + (d + 1) + 1 = (N + 20 + k + d + 1) + 1 by omega]
    obtain ⟨m, hm⟩ : ∃ m, N + 20 + k + d + 1 = m := ⟨_, rfl⟩
    simp only [hm] at ih hs ⊢
    clear hm
    simp only [quipuref13_Check.l0]
    rw [if_pos (by omega), if_pos (by omega), e1, hs, Option.bind_some, w1, ih _ (by omega), hp, List.drop_eq_getElem_cons hlt]
    simp only [checkL]
    by_cases hz : i = 0
    · subst hz
      rw [if_neg (show ¬ (((0 : Nat) : Int) > 0) by decide)]
      have : prevOf l 0 = none := rfl
      rw [this, twice_none, Bool.false_or]
      cases singleS l[0] <;> rfl
    · have hpr : prevOf l i = some (l[i - 1]'(by omega)) := by
        unfold prevOf
        rw [if_neg hz, List.getElem?_eq_getElem (by omega)]
      have w2 : wrap64 ((i : Int) - 1) = ((i - 1 : Nat) : Int) := by unfold wrap64; omega
      rw [if_pos (show ((i : Int) > 0) by omega), w2, if_pos (show (0 : Int) ≤ ((i - 1 : Nat) : Int) by omega), if_pos (show (((i - 1 : Nat) : Int) < (l.length : Int)) by omega), rd_get l (i - 1) (by omega), hpr]
      cases hsg : singleS l[i]
      · rw [if_neg (by decide), Bool.not_false, Bool.or_true, if_pos rfl]
      · rw [if_pos rfl, Bool.not_true, Bool.or_false]
        by_cases h : (l[i - 1]'(by omega)).f0 = l[i].f0
        · rw [twice_eq _ _ h]
          by_cases h0 : l[i].f0 = 0
          · rw [if_pos h0, if_pos h, beq_iff_eq.mpr h0]; rfl
          · rw [if_neg h0, beq_eq_false_iff_ne.mpr h0]
            by_cases h5 : l[i].f0 = 5
            · rw [if_pos h5, if_pos h, beq_iff_eq.mpr h5]; rfl
            · rw [if_neg h5, beq_eq_false_iff_ne.mpr h5]; rfl
        · rw [twice_ne _ _ h, if_neg h, if_neg (show ¬ (false = true) by decide)]
          repeat' split
          all_goals rfl
def checkS (l : List S53) : Int := checkL l.length none l 0
theorem affixCheck_eq (l : List S53) (N : Nat) (hN : N ≤ 281474976710656) (hl : Texts l N) (hb : l.length ≤ 4611686018427387904) (K : Nat) (hK : N + l.length + 21 ≤ K) : affix_Check.f K l = some (checkS l) := by
  have h := affixCheck_l l N hN hl hb (K - (N + l.length + 21)) l.length 0 0 (by omega)
  rw [show N + 20 + (K - (N + l.length + 21)) + l.length + 1 = K by omega] at h
  exact h
theorem refCheck_eq (l : List S53) (N : Nat) (hN : N ≤ 281474976710656) (hl : Texts l N) (hb : l.length ≤ 4611686018427387904) (K : Nat) (hK : N + l.length + 21 ≤ K) : quipuref13_Check.f K l = some (checkS l) := by
  have h := refCheck_l l N hN hl hb (K - (N + l.length + 21)) l.length 0 0 (by omega)
  rw [show N + 20 + (K - (N + l.length + 21)) + l.length + 1 = K by omega] at h
  exact h
def quoteC (c : ByteArray) : Prop := c.toList = ([39] : List UInt8)
instance (c : ByteArray) : Decidable (quoteC c) := inferInstanceAs (Decidable (c.toList = ([39] : List UInt8)))
def nextQ : List ByteArray → Bool
  | [] => false
  | c :: _ => decide (quoteC c)
def finishS (whole : Bool) (x : Int) (l : List S53) : List S53 × Int :=
  if whole = false then ([], 131) else if x = 1 then ([], 130) else if checkS l = 0 then (l, 0) else ([], checkS l)
def parseS (whole : Bool) : List ByteArray → Bool → Int → List S53 → ByteArray → List S53 × Int
  | [], _, x, l, t => finishS whole x (endL l t)
  | c :: cs, true, x, l, t => parseS whole cs false x l (t ++ ⟨#[39]⟩)
  | c :: cs, false, x, l, t =>
    if quoteC c then (if nextQ cs = true then parseS whole cs true x l t else parseS whole cs false (1 - x) l t)
    else if x = 0 then
      (if 0 < kindS c then (if (signL (endL l t) (kindS c)).2 = true then parseS whole cs false x (signL (endL l t) (kindS c)).1 ⟨#[]⟩ else ([], 131))
       else if letB c = true then ([], 131) else parseS whole cs false x l (t ++ c))
    else parseS whole cs false x l (t ++ c)
theorem quote39 (s : ByteArray) (q : Int) (h0 : 0 ≤ q) (h1 : q < s.size) (hb : bt s q = 39) : runeS s q = 1 := by
  have h := runeS_sec s q h0 h1
  rw [hb] at h
  rw [h]
  unfold G
  rw [if_pos (show (sec 39).2.2 ≤ 1 by decide)]
  decide
theorem cut_first (s : ByteArray) (p : Int) (hz : runeS s p ≠ 0) : bt (cut s p) 0 = bt s p := by
  have hr := rune_pos s p hz
  have h := bt_cut s p (runeS s p) 0 (by omega) (by omega) (by omega) (by omega)
  rw [Int.add_zero] at h
  exact h
theorem quoteC_iff (s : ByteArray) (p : Int) (hz : runeS s p ≠ 0) : quoteC (cut s p) ↔ bt s p = 39 := by
  have hr := rune_pos s p hz
  have hs := cut_size s p hz
  have hf := cut_first s p hz
  obtain ⟨b, r, e⟩ := list_of (c := cut s p) (by omega)
  obtain ⟨e1, e2⟩ := bt_first e
  unfold quoteC
  rw [Lib.toList_data, e]
  constructor
  · intro h
    injection h with h _
    rw [← hf, e1, h]
    rfl
  · intro h
    have h1 := quote39 s p (by omega) (by omega) h
    have : r = [] := List.eq_nil_of_length_eq_zero (by omega)
    subst this
    rw [hf, h] at e1
    have hb : b = 39 := by
      apply UInt8.toNat_inj.mp
      have : (b.toNat : Int) = 39 := e1.symm
      have h39 : (39 : UInt8).toNat = 39 := rfl
      omega
    rw [hb]
theorem hasQ_bt (s : ByteArray) (q : Nat) (h : q < s.size) : hasQ (s.extract q s.size) = decide (bt s (q : Int) = 39) := by
  have hl : (s.extract q s.size).data.toList = s.data.toList.drop q := Lib.extract_to_end s q
  have hd : s.data.toList.drop q = s[q] :: s.data.toList.drop (q + 1) := by
    rw [List.drop_eq_getElem_cons (by simpa using h)]
    rfl
  have hb : bt s (q : Int) = (s[q].toNat : Int) := by
    have h1 : (q : Int).toNat < s.size := by omega
    simp only [bt]
    rw [dif_pos h1]
    simp
  unfold hasQ
  rw [hl, hd, hb]
  unfold Lib.hasPrefix
  simp only [List.isPrefixOf, Bool.and_true]
  by_cases c : s[q] = 39
  · rw [c]; rfl
  · have h1 : ((39 : UInt8) == s[q]) = false := beq_eq_false_iff_ne.mpr (fun e => c e.symm)
    rw [h1]
    symm
    apply decide_eq_false
    intro h2
    apply c
    apply UInt8.toNat_inj.mp
    have h39 : (39 : UInt8).toNat = 39 := rfl
    omega
theorem hasQ_next (s : ByteArray) (q : Int) (h0 : 0 ≤ q) (h1 : q ≤ s.size) : hasQ (s.extract q.toNat s.size) = nextQ (runesAt s q).1 := by
  by_cases hlt : q < s.size
  · have hb := hasQ_bt s q.toNat (by omega)
    rw [show ((q.toNat : Nat) : Int) = q by omega] at hb
    rw [hb]
    by_cases hz : runeS s q = 0
    · rw [runesAt_bad s q hlt hz]
      simp only [nextQ]
      apply decide_eq_false
      intro h
      have := quote39 s q h0 hlt h
      omega
    · rw [runesAt_step s q hz]
      simp only [nextQ]
      by_cases hq : quoteC (cut s q)
      · rw [decide_eq_true hq, decide_eq_true ((quoteC_iff s q hz).1 hq)]
      · rw [decide_eq_false hq, decide_eq_false (fun h => hq ((quoteC_iff s q hz).2 h))]
  · rw [runesAt_end s q hlt]
    simp only [nextQ]
    cases hh : hasQ (s.extract q.toNat s.size)
    · rfl
    · have := hasQ_pos s q.toNat hh
      omega
theorem texts_app {l : List S53} {N : Nat} (h : Texts l N) {t : S53} (ht : t.f2.size ≤ N) : Texts (l ++ [t]) N := by
  intro x hx
  rw [List.mem_append, List.mem_singleton] at hx
  rcases hx with hx | rfl
  · exact h x hx
  · exact ht
theorem texts_end {l : List S53} {N : Nat} (h : Texts l N) {t : ByteArray} (ht : t.size ≤ N) : Texts (endL l t) N := by
  unfold endL
  split
  · exact h
  · exact texts_app h ht
theorem texts_sign {l : List S53} {N : Nat} (h : Texts l N) (k : Int) : Texts (signL l k).1 N := by
  unfold signL
  split
  · rename_i c
    intro x hx
    rcases List.mem_or_eq_of_mem_set hx with hx | rfl
    · exact h x hx
    · have : rd_T53 l ((l.length - 1 : Nat) : Int) = l[l.length - 1]'(by omega) := rd_get l (l.length - 1) (by omega)
      rw [this]
      have h2 := h (l[l.length - 1]'(by omega)) (List.getElem_mem (by omega))
      exact h2
  · exact texts_app h (Nat.zero_le _)
theorem parse_runes (s : ByteArray) (K : Nat) (hs : s.size ≤ 1048576) (hK : 4 * s.size + 100 ≤ K) : ∀ (d : Nat) (x p : Int) (l : List S53) (t : ByteArray), 0 ≤ p → p ≤ s.size → (s.size : Int) - p < d → (x = 0 ∨ x = 1) → Texts l s.size → (l.length : Int) ≤ 2 * p → (t.size : Int) ≤ p →
    parseL s K d x p l t = some (parseS (runesAt s p).2 (runesAt s p).1 false x l t)
  | 0, x, p, l, t, h0, h1, h2, hx, hl, hn, ht => by omega
  | d + 1, x, p, l, t, h0, h1, h2, hx, hl, hn, ht => by
    have hR := curRune s p (by omega) 0
    rw [Nat.zero_add] at hR
    by_cases hlt : p < s.size
    case neg =>
      simp only [parseL]
      rw [if_neg hlt, runesAt_end s p hlt]
      simp only [parseS, finishS]
      rw [if_neg (show ¬ (true = false) by decide)]
      by_cases hx1 : x = 1
      · rw [if_pos hx1, if_pos hx1]
      · rw [if_neg hx1, if_neg hx1, affixCheck_eq (endL l t) s.size (by omega) (texts_end hl (by omega)) (by have := endL_len l t; omega) K (by have := endL_len l t; omega), Option.bind_some]
        split
        · rfl
        · rfl
    by_cases hz : runeS s p = 0
    · simp only [parseL]
      rw [if_pos hlt, hR, Option.bind_some, if_pos hz, runesAt_bad s p hlt hz]
      simp only [parseS, finishS, if_true]
    have hr := rune_pos s p hz
    have ih := fun x' l' t' h1 h2 h3 h4 => parse_runes s K hs hK d x' (p + runeS s p) l' t' (by omega) (by omega) (by omega) h1 h2 h3 h4
    have hcs := cut_size s p hz
    rw [runesAt_step s p hz]
    simp only [parseL]
    rw [if_pos hlt, hR, Option.bind_some, if_neg hz, if_pos (show 0 < runeS s p ∧ p + runeS s p ≤ s.size by omega)]
    rw [show s.extract p.toNat (p + runeS s p).toNat = cut s p from rfl]
    obtain ⟨q, hq⟩ : ∃ q, p + runeS s p = q := ⟨_, rfl⟩
    rw [hq] at ih hr ⊢
    by_cases h39 : (cut s p).toList = ([39] : List UInt8)
    · have hn1 : runeS s p = 1 := by
        have hb := (quoteC_iff s p hz).1 h39
        exact quote39 s p h0 hlt hb
      rw [if_pos h39, hasQ_next s q (by omega) (by omega)]
      simp only [parseS]
      rw [if_pos (show quoteC (cut s p) from h39)]
      by_cases hn2 : nextQ (runesAt s q).1 = true
      · rw [if_pos hn2, if_pos hn2]
        by_cases hlq : q < s.size
        · by_cases hzq : runeS s q = 0
          · rw [runesAt_bad s q hlq hzq] at hn2; exact absurd hn2 (by decide)
          · rw [runesAt_step s q hzq] at hn2 ⊢
            simp only [nextQ] at hn2
            have hb := (quoteC_iff s q hzq).1 (of_decide_eq_true hn2)
            have h1q := quote39 s q (by omega) hlq hb
            rw [h1q]
            simp only [parseS]
            exact parse_runes s K hs hK d x (q + 1) l (t ++ ⟨#[39]⟩) (by omega) (by omega) (by omega) hx hl (by omega) (by rw [ByteArray.size_append]; simp only [show (⟨#[39]⟩ : ByteArray).size = 1 from rfl]; omega)
        · rw [runesAt_end s q hlq] at hn2; exact absurd hn2 (by decide)
      · rw [if_neg hn2, if_neg hn2]
        exact ih (1 - x) l t (by omega) hl (by omega) (by omega)
    · rw [if_neg h39]
      simp only [parseS]
      rw [if_neg (show ¬ quoteC (cut s p) from h39)]
      by_cases hx0 : x = 0
      · rw [if_pos hx0, if_pos hx0, kind_eq, Option.bind_some]
        by_cases hk : 0 < kindS (cut s p)
        · rw [if_pos hk, if_pos hk]
          by_cases hs2 : (signL (endL l t) (kindS (cut s p))).2 = true
          · rw [if_pos hs2, if_pos hs2]
            exact ih x _ ⟨#[]⟩ hx (texts_sign (texts_end hl (by omega)) _) (by have := signL_len (endL l t) (kindS (cut s p)); have := endL_len l t; omega) (by simp only [show (⟨#[]⟩ : ByteArray).size = 0 from rfl]; omega)
          · rw [if_neg hs2, if_neg hs2]
        · rw [if_neg hk, if_neg hk]
          by_cases hlb : letB (cut s p) = true
          · rw [if_pos hlb, if_pos hlb]
          · rw [if_neg hlb, if_neg hlb]
            exact ih x l _ hx hl (by omega) (by rw [ByteArray.size_append]; omega)
      · rw [if_neg hx0, if_neg hx0]
        exact ih x l _ hx hl (by omega) (by rw [ByteArray.size_append]; omega)
def parseT (s : ByteArray) : List S53 × Int := parseS (runesAt s 0).2 (runesAt s 0).1 false 0 [] ⟨#[]⟩
theorem affixParse_eq (s : ByteArray) (hs : s.size ≤ 1048576) : affix_Parse.f s = some (parseT s) := by
  unfold affix_Parse.f
  rw [if_pos hs]
  obtain ⟨K, hK⟩ : ∃ K, 4 * s.size + 100 = K := ⟨_, rfl⟩
  rw [hK]
  have e1 : (([] : List S53).length : Int) ≤ 2 * 0 := by simp
  have e2 : ((⟨#[]⟩ : ByteArray).size : Int) ≤ 0 := Int.le_refl _
  have h := parse_runes s K hs (by omega) (s.size + 1) 0 0 [] ⟨#[]⟩ (Int.le_refl _) (by omega) (by omega) (.inl rfl) (fun _ h => by simp at h) e1 e2
  rw [h]
  rfl
theorem refRunes_l (s : ByteArray) (hs : s.size ≤ 1048576) (k : Nat) : ∀ (d : Nat) (p : Int) (acc : List ByteArray), 0 ≤ p → p ≤ s.size → (s.size : Int) - p < d → (acc.length : Int) ≤ p →
    quipuref13_Runes.l0 (k + 8 + d) s acc p = some (acc ++ (runesAt s p).1, (runesAt s p).2)
  | 0, p, acc, h0, h1, h2, h3 => by omega
  | d + 1, p, acc, h0, h1, h2, h3 => by
    obtain ⟨m, hm⟩ : ∃ m, k + 8 + d = m := ⟨_, rfl⟩
    have hR := refRune s p (by omega) (k + d)
    rw [show k + d + 8 = m by omega] at hR
    have ih := fun q a => refRunes_l s hs k d q a
    simp only [hm] at ih
    rw [show k + 8 + (d + 1) = m + 1 by omega]
    simp only [quipuref13_Runes.l0]
    by_cases hlt : p < s.size
    · rw [if_pos hlt, hR, Option.bind_some]
      by_cases hz : runeS s p = 0
      · rw [if_pos hz, runesAt_bad s p hlt hz, List.append_nil]
      · have hr := rune_pos s p hz
        have w1 : wrap64 (p + runeS s p) = p + runeS s p := by unfold wrap64; omega
        rw [if_neg hz, w1, if_pos h0, if_pos (by omega), if_pos (by omega), if_pos (by omega), ih _ _ (by omega) (by omega) (by omega) (by rw [List.length_append]; simp; omega), runesAt_step s p hz]
        simp only [List.append_assoc, List.singleton_append]
        rfl
    · rw [if_neg hlt, runesAt_end s p hlt, List.append_nil]
theorem refRunesT (s : ByteArray) (hs : s.size ≤ 1048576) (K : Nat) (hK : s.size + 9 ≤ K) : quipuref13_Runes.f K s = some (runesAt s 0) := by
  have h := refRunes_l s hs (K - (s.size + 9)) (s.size + 1) 0 [] (Int.le_refl _) (by omega) (by omega) (by simp)
  rw [show K - (s.size + 9) + 8 + (s.size + 1) = K by omega] at h
  unfold quipuref13_Runes.f
  rw [h, List.nil_append]
theorem nil_of (t : ByteArray) (h : t.toList = ([] : List UInt8)) : t = ⟨#[]⟩ := by
  rw [Lib.toList_data] at h
  exact bytes_of t [] h
theorem bytes_inj {a b : ByteArray} (h : a.data.toList = b.data.toList) : a = b := by
  rw [bytes_of a _ h, ← bytes_of b _ rfl]
theorem runesAt_size (s : ByteArray) : ∀ (d : Nat) (p : Int), 0 ≤ p → p ≤ s.size → (s.size : Int) - p ≤ d → (∀ c ∈ (runesAt s p).1, c.size ≤ 4) ∧ (((runesAt s p).1.length : Int) ≤ s.size - p)
  | d, p, h0, h1, h2 => by
    by_cases hlt : p < s.size
    · by_cases hz : runeS s p = 0
      · rw [runesAt_bad s p hlt hz]; exact ⟨fun c hc => by simp at hc, by simp; omega⟩
      · have hr := rune_pos s p hz
        have hs := cut_size s p hz
        obtain ⟨d', rfl⟩ : ∃ d', d = d' + 1 := ⟨d - 1, by omega⟩
        have ih := runesAt_size s d' (p + runeS s p) (by omega) (by omega) (by omega)
        rw [runesAt_step s p hz]
        refine ⟨fun c hc => ?_, by simp only [List.length_cons]; omega⟩
        simp only [List.mem_cons] at hc
        rcases hc with rfl | hc
        · omega
        · exact ih.1 c hc
    · rw [runesAt_end s p hlt]; exact ⟨fun c hc => by simp at hc, by simp; omega⟩
theorem cut_left (a b : ByteArray) (p : Int) (h : runeS a p ≠ 0) : cut (a ++ b) p = cut a p := by
  have hr := rune_pos a p h
  unfold cut
  rw [runeS_app_left a b p h]
  apply bytes_inj
  rw [ByteArray.data_extract, ByteArray.data_extract, Array.toList_extract, Array.toList_extract, ByteArray.data_append, Array.toList_append, List.extract_eq_take_drop, List.extract_eq_take_drop, List.drop_append_of_le_length (by rw [Array.length_toList]; show p.toNat ≤ a.size; omega), List.take_append_of_le_length]
  rw [List.length_drop, Array.length_toList]
  show (p + runeS a p).toNat - p.toNat ≤ a.size - p.toNat
  omega
theorem cut_right (a b : ByteArray) (p : Int) (h0 : 0 ≤ p) (h1 : p < b.size) : cut (a ++ b) (a.size + p) = cut b p := by
  have hr := runeS_range b p
  unfold cut
  rw [runeS_app_right a b p h0 h1]
  apply bytes_inj
  rw [ByteArray.data_extract, ByteArray.data_extract, Array.toList_extract, Array.toList_extract, ByteArray.data_append, Array.toList_append, List.extract_eq_take_drop, List.extract_eq_take_drop]
  have e1 : ((a.size : Int) + p).toNat = a.data.toList.length + p.toNat := by rw [Array.length_toList]; show _ = a.size + _; omega
  have e2 : ((a.size : Int) + p + runeS b p).toNat - ((a.size : Int) + p).toNat = (p + runeS b p).toNat - p.toNat := by omega
  rw [e2, e1, List.drop_append, List.drop_of_length_le (by omega), List.nil_append, Nat.add_sub_cancel_left]
theorem runesAt_right (a b : ByteArray) : ∀ (d : Nat) (p : Int), 0 ≤ p → p ≤ b.size → (b.size : Int) - p ≤ d → runesAt (a ++ b) (a.size + p) = runesAt b p
  | d, p, h0, h1, h2 => by
    by_cases hlt : p < b.size
    · have hs : ((a.size : Int) + p) < ((a ++ b).size : Int) := by rw [size_app]; omega
      have hrr := runeS_app_right a b p h0 hlt
      by_cases hz : runeS b p = 0
      · rw [runesAt_bad b p hlt hz, runesAt_bad (a ++ b) _ hs (by rw [hrr]; exact hz)]
      · have hr := rune_pos b p hz
        obtain ⟨d', rfl⟩ : ∃ d', d = d' + 1 := ⟨d - 1, by omega⟩
        have ih := runesAt_right a b d' (p + runeS b p) (by omega) (by omega) (by omega)
        rw [runesAt_step b p hz, runesAt_step (a ++ b) _ (by rw [hrr]; exact hz), hrr, cut_right a b p h0 hlt, Int.add_assoc, ih]
    · rw [runesAt_end b p hlt, runesAt_end (a ++ b) _ (by rw [size_app]; omega)]
theorem runesAt_left (a b : ByteArray) : ∀ (d : Nat) (p : Int), 0 ≤ p → p ≤ a.size → (a.size : Int) - p ≤ d → (runesAt a p).2 = true → runesAt (a ++ b) p = ((runesAt a p).1 ++ (runesAt b 0).1, (runesAt b 0).2)
  | d, p, h0, h1, h2, hw => by
    by_cases hlt : p < a.size
    · by_cases hz : runeS a p = 0
      · rw [runesAt_bad a p hlt hz] at hw; exact absurd hw (by decide)
      · have hr := rune_pos a p hz
        obtain ⟨d', rfl⟩ : ∃ d', d = d' + 1 := ⟨d - 1, by omega⟩
        have hrl := runeS_app_left a b p hz
        rw [runesAt_step a p hz] at hw
        have ih := runesAt_left a b d' (p + runeS a p) (by omega) (by omega) (by omega) hw
        rw [runesAt_step a p hz, runesAt_step (a ++ b) p (by rw [hrl]; exact hz), hrl, cut_left a b p hz, ih]
        rfl
    · have hp : p = a.size := by omega
      have h := runesAt_right a b b.size 0 (Int.le_refl _) (by omega) (by omega)
      rw [Int.add_zero, ← hp] at h
      rw [runesAt_end a p hlt, h]
      rfl
def runS : List ByteArray → Bool → Int → List S53 → ByteArray → Option (Int × List S53 × ByteArray)
  | [], _, x, l, t => some (x, l, t)
  | c :: cs, true, x, l, t => runS cs false x l (t ++ ⟨#[39]⟩)
  | c :: cs, false, x, l, t =>
    if quoteC c then (if nextQ cs = true then runS cs true x l t else runS cs false (1 - x) l t)
    else if x = 0 then
      (if 0 < kindS c then (if (signL (endL l t) (kindS c)).2 = true then runS cs false x (signL (endL l t) (kindS c)).1 ⟨#[]⟩ else none)
       else if letB c = true then none else runS cs false x l (t ++ c))
    else runS cs false x l (t ++ c)
def tellS (w : Bool) : Option (Int × List S53 × ByteArray) → List S53 × Int
  | none => ([], 131)
  | some (x, l, t) => finishS w x (endL l t)
theorem parse_run (w : Bool) : ∀ (cs : List ByteArray) (sk : Bool) (x : Int) (l : List S53) (t : ByteArray), parseS w cs sk x l t = tellS w (runS cs sk x l t)
  | [], sk, x, l, t => rfl
  | c :: cs, true, x, l, t => by simp only [parseS, runS]; exact parse_run w cs false x l _
  | c :: cs, false, x, l, t => by
    simp only [parseS, runS]
    by_cases hq : quoteC c
    · rw [if_pos hq, if_pos hq]
      by_cases hn : nextQ cs = true
      · rw [if_pos hn, if_pos hn]; exact parse_run w cs true x l t
      · rw [if_neg hn, if_neg hn]; exact parse_run w cs false _ l t
    · rw [if_neg hq, if_neg hq]
      by_cases hx : x = 0
      · rw [if_pos hx, if_pos hx]
        by_cases hk : 0 < kindS c
        · rw [if_pos hk, if_pos hk]
          by_cases hs : (signL (endL l t) (kindS c)).2 = true
          · rw [if_pos hs, if_pos hs]; exact parse_run w cs false x _ _
          · rw [if_neg hs, if_neg hs]; rfl
        · rw [if_neg hk, if_neg hk]
          by_cases hb : letB c = true
          · rw [if_pos hb, if_pos hb]; rfl
          · rw [if_neg hb, if_neg hb]; exact parse_run w cs false x l _
      · rw [if_neg hx, if_neg hx]; exact parse_run w cs false x l _
def LastNC (P : List S53) : Prop := 0 < P.length → (rd_T53 P ((P.length - 1 : Nat) : Int)).f0 ≠ 5
theorem run_x (s : Int × List S53 × ByteArray) : ∀ (cs : List ByteArray) (sk : Bool) (x : Int) (l : List S53) (t : ByteArray), (x = 0 ∨ x = 1) → runS cs sk x l t = some s → (s.1 = 0 ∨ s.1 = 1)
  | [], sk, x, l, t, hx, h => by simp only [runS, Option.some.injEq] at h; subst h; exact hx
  | c :: cs, true, x, l, t, hx, h => by simp only [runS] at h; exact run_x s cs false x l _ hx h
  | c :: cs, false, x, l, t, hx, h => by
    simp only [runS] at h
    by_cases hq : quoteC c
    · rw [if_pos hq] at h
      by_cases hn : nextQ cs = true
      · rw [if_pos hn] at h; exact run_x s cs true x l t hx h
      · rw [if_neg hn] at h; exact run_x s cs false _ l t (by omega) h
    · rw [if_neg hq] at h
      by_cases hx0 : x = 0
      · rw [if_pos hx0] at h
        by_cases hk : 0 < kindS c
        · rw [if_pos hk] at h
          by_cases hs : (signL (endL l t) (kindS c)).2 = true
          · rw [if_pos hs] at h; exact run_x s cs false x _ _ hx h
          · rw [if_neg hs] at h; exact absurd h (by simp)
        · rw [if_neg hk] at h
          by_cases hb : letB c = true
          · rw [if_pos hb] at h; exact absurd h (by simp)
          · rw [if_neg hb] at h; exact run_x s cs false x l _ hx h
      · rw [if_neg hx0] at h; exact run_x s cs false x l _ hx h
def goodL : Option S53 → List S53 → Bool
  | _, [] => true
  | p, t :: r => !twice p t && (singleS t && goodL (some t) r)
def bytesL : List S53 → Int → Int
  | [], b => b
  | t :: r, b => bytesL r (wrap64 (b + t.f2.size))
theorem checkL_cons (n : Nat) (p : Option S53) (t : S53) (r : List S53) (b : Int) : checkL n p (t :: r) b = if (twice p t || !singleS t) = true then 131 else checkL n (some t) r (wrap64 (b + t.f2.size)) := rfl
theorem goodL_cons (p : Option S53) (t : S53) (r : List S53) : goodL p (t :: r) = (!twice p t && (singleS t && goodL (some t) r)) := rfl
theorem bytesL_cons (t : S53) (r : List S53) (b : Int) : bytesL (t :: r) b = bytesL r (wrap64 (b + t.f2.size)) := rfl
theorem check_good (n : Nat) : ∀ (l : List S53) (p : Option S53) (b : Int), checkL n p l b = if goodL p l = true then (if (n : Int) > 64 then 132 else if bytesL l b > 64 then 132 else 0) else 131
  | [], p, b => rfl
  | t :: r, p, b => by
    rw [checkL_cons, goodL_cons, bytesL_cons, check_good n r (some t)]
    cases h1 : twice p t <;> cases h2 : singleS t <;> rfl
theorem check_cases (l : List S53) : (checkS l = 131 ∧ goodL none l = false) ∨ (goodL none l = true ∧ (checkS l = 0 ∨ checkS l = 132)) := by
  unfold checkS
  rw [check_good]
  cases goodL none l
  · left; exact ⟨rfl, rfl⟩
  · right
    refine ⟨rfl, ?_⟩
    rw [if_pos rfl]
    repeat' split
    all_goals simp
theorem tell_ok {w : Bool} {o : Option (Int × List S53 × ByteArray)} {L : List S53} (hx : ∀ s, o = some s → s.1 = 0 ∨ s.1 = 1) (h : tellS w o = (L, 0)) : w = true ∧ ∃ l t, o = some (0, l, t) ∧ endL l t = L ∧ checkS L = 0 := by
  cases o with
  | none => simp [tellS] at h
  | some s =>
    obtain ⟨x, l, t⟩ := s
    simp only [tellS, finishS] at h
    cases w with
    | false => simp at h
    | true =>
      rw [if_neg (by decide)] at h
      have hx1 := hx _ rfl
      by_cases h1 : x = 1
      · rw [if_pos h1] at h; simp at h
      · rw [if_neg h1] at h
        have : x = 0 := by rcases hx1 with h | h; exact h; exact absurd h h1
        subst this
        by_cases hc : checkS (endL l t) = 0
        · rw [if_pos hc] at h
          simp only [Prod.mk.injEq, and_true] at h
          exact ⟨rfl, l, t, rfl, h, h ▸ hc⟩
        · rw [if_neg hc] at h
          simp only [Prod.mk.injEq] at h
          exact absurd h.2 hc
def tot : List ByteArray → Nat
  | [] => 0
  | c :: cs => c.size + 1 + tot cs
theorem tot_runes (s : ByteArray) : ∀ (d : Nat) (p : Int), 0 ≤ p → p ≤ s.size → (s.size : Int) - p ≤ d → (tot (runesAt s p).1 : Int) ≤ 2 * (s.size - p)
  | d, p, h0, h1, h2 => by
    by_cases hlt : p < s.size
    · by_cases hz : runeS s p = 0
      · rw [runesAt_bad s p hlt hz]
        show ((0 : Nat) : Int) ≤ _
        omega
      · have hr := rune_pos s p hz
        obtain ⟨d', rfl⟩ : ∃ d', d = d' + 1 := ⟨d - 1, by omega⟩
        have ih := tot_runes s d' (p + runeS s p) (by omega) (by omega) (by omega)
        have hc := cut_size s p hz
        rw [runesAt_step s p hz]
        show (((cut s p).size + 1 + tot (runesAt s (p + runeS s p)).1 : Nat) : Int) ≤ _
        omega
    · rw [runesAt_end s p hlt]
      show ((0 : Nat) : Int) ≤ _
      omega
theorem end_len (l : List S53) (t : ByteArray) : (endL l t).length ≤ l.length + 1 := by
  unfold endL
  split
  · omega
  · rw [List.length_append, List.length_singleton]; exact Nat.le_refl _
theorem sign_len (l : List S53) (k : Int) : (signL l k).1.length ≤ l.length + 1 := by
  unfold signL
  split
  · simp
  · simp
theorem run_bound (N M : Nat) (s : Int × List S53 × ByteArray) : ∀ (cs : List ByteArray) (sk : Bool) (x : Int) (l : List S53) (t : ByteArray), runS cs sk x l t = some s → Texts l N → t.size + tot cs ≤ N → l.length + 2 * tot cs ≤ M →
    Texts s.2.1 N ∧ s.2.2.size ≤ N ∧ s.2.1.length ≤ M
  | [], sk, x, l, t, h, h1, h2, h3 => by
    simp only [runS, Option.some.injEq] at h
    subst h
    exact ⟨h1, h2, h3⟩
  | c :: cs, sk, x, l, t, h, h1, h2, h3 => by
    have e : tot (c :: cs) = c.size + 1 + tot cs := rfl
    rw [e] at h2 h3
    have ee := end_len l t
    have et : Texts (endL l t) N := texts_end h1 (by omega)
    cases sk with
    | true =>
      simp only [runS] at h
      exact run_bound N M s cs false x l _ h h1 (by rw [ByteArray.size_append]; show t.size + 1 + tot cs ≤ N; omega) (by omega)
    | false =>
      simp only [runS] at h
      by_cases hq : quoteC c
      · rw [if_pos hq] at h
        by_cases hn : nextQ cs = true
        · rw [if_pos hn] at h; exact run_bound N M s cs true x l t h h1 (by omega) (by omega)
        · rw [if_neg hn] at h; exact run_bound N M s cs false _ l t h h1 (by omega) (by omega)
      · rw [if_neg hq] at h
        by_cases hx0 : x = 0
        · rw [if_pos hx0] at h
          by_cases hk : 0 < kindS c
          · rw [if_pos hk] at h
            by_cases hs : (signL (endL l t) (kindS c)).2 = true
            · rw [if_pos hs] at h
              have es := sign_len (endL l t) (kindS c)
              exact run_bound N M s cs false x _ _ h (texts_sign et _) (by show 0 + tot cs ≤ N; omega) (by omega)
            · rw [if_neg hs] at h; exact absurd h (by simp)
          · rw [if_neg hk] at h
            by_cases hb : letB c = true
            · rw [if_pos hb] at h; exact absurd h (by simp)
            · rw [if_neg hb] at h; exact run_bound N M s cs false x l _ h h1 (by rw [ByteArray.size_append]; omega) (by omega)
        · rw [if_neg hx0] at h; exact run_bound N M s cs false x l _ h h1 (by rw [ByteArray.size_append]; omega) (by omega)
theorem parseT_run (s : ByteArray) : parseT s = tellS (runesAt s 0).2 (runS (runesAt s 0).1 false 0 [] ⟨#[]⟩) := parse_run _ _ _ _ _ _
theorem parse_ok (s : ByteArray) {L : List S53} (h : parseT s = (L, 0)) : (runesAt s 0).2 = true ∧ ∃ l t, runS (runesAt s 0).1 false 0 [] ⟨#[]⟩ = some (0, l, t) ∧ endL l t = L ∧ checkS L = 0 ∧ Texts L (2 * s.size) ∧ L.length ≤ 4 * s.size + 1 := by
  rw [parseT_run] at h
  obtain ⟨h1, l, t, h2, h3, h4⟩ := tell_ok (fun s => run_x s _ _ _ _ _ (.inl rfl)) h
  have ht := tot_runes s s.size 0 (Int.le_refl _) (by omega) (by omega)
  obtain ⟨b1, b2, b3⟩ := run_bound (2 * s.size) (4 * s.size) _ _ _ _ _ _ h2 (fun _ h => by simp at h) (by show 0 + _ ≤ _; omega) (by show 0 + _ ≤ _; omega)
  have := end_len l t
  exact ⟨h1, l, t, h2, h3, h4, by rw [← h3]; exact texts_end b1 b2, by rw [← h3]; exact Nat.le_trans this (by simp only at b3; omega)⟩
def minusC : ByteArray := ⟨#[45]⟩
end Go.Proofs.Ytacnjemndfmbhaa.A
end
section
namespace Go.Proofs.Ytacnjemndfmbhaa.A
open Go.RowKit Go.Proofs.Ytacnjemndfmbhaa.Q Go.Proofs.Ytacnjemndfmbhaa.R1 Go.Proofs.YtacnjemndfmbhaaW.PrintWords Go.Proofs.YtacnjemndfmbhaaW.PrintLast
set_option linter.unusedVariables false
set_option linter.unusedSimpArgs false
def joinB : List ByteArray → ByteArray
  | [] => ⟨#[]⟩
  | c :: cs => c ++ joinB cs
theorem nil_app (a : ByteArray) : (⟨#[]⟩ : ByteArray) ++ a = a := by apply bytes_inj; simp [ByteArray.data_append]
theorem app_empty (a : ByteArray) : a ++ (⟨#[]⟩ : ByteArray) = a := by apply bytes_inj; simp [ByteArray.data_append]
theorem app_assoc (a b c : ByteArray) : a ++ b ++ c = a ++ (b ++ c) := by apply bytes_inj; simp [ByteArray.data_append]
theorem join_app (a b : List ByteArray) : joinB (a ++ b) = joinB a ++ joinB b := by
  induction a with
  | nil => exact (nil_app _).symm
  | cons c cs ih => show c ++ joinB (cs ++ b) = c ++ joinB cs ++ joinB b; rw [ih, app_assoc]
theorem join_one (c : ByteArray) : joinB [c] = c := app_empty c
theorem runes_one (c : ByteArray) (h : IsRune c) : runesAt c 0 = ([c], true) := by
  have hz : runeS c 0 ≠ 0 := by rw [h.1]; have := h.2; omega
  rw [runesAt_step c 0 hz, h.1, Int.zero_add, runesAt_end c _ (by omega)]
  have : cut c 0 = c := by
    unfold cut
    rw [h.1]
    apply bytes_inj
    rw [ByteArray.data_extract, Array.toList_extract, List.extract_eq_take_drop]
    simp only [Int.zero_add, Int.toNat_natCast, Int.toNat_zero, List.drop_zero, Nat.sub_zero]
    exact List.take_of_length_le (by rw [Array.length_toList]; exact Nat.le_refl _)
  rw [this]
theorem runes_join : ∀ (l : List ByteArray), (∀ c ∈ l, IsRune c) → runesAt (joinB l) 0 = (l, true)
  | [], _ => rfl
  | c :: cs, h => by
    have hc := runes_one c (h c (by simp))
    have ih := runes_join cs (fun x hx => h x (by simp [hx]))
    have := runesAt_left c (joinB cs) c.size 0 (Int.le_refl _) (by omega) (by omega) (by rw [hc])
    rw [hc, ih] at this
    exact this
theorem join_runes (s : ByteArray) : ∀ (d : Nat) (p : Int), 0 ≤ p → p ≤ s.size → (s.size : Int) - p ≤ d → (runesAt s p).2 = true → joinB (runesAt s p).1 = s.extract p.toNat s.size
  | d, p, h0, h1, h2, hw => by
    by_cases hlt : p < s.size
    · by_cases hz : runeS s p = 0
      · rw [runesAt_bad s p hlt hz] at hw; exact absurd hw (by decide)
      · have hr := rune_pos s p hz
        obtain ⟨d', rfl⟩ : ∃ d', d = d' + 1 := ⟨d - 1, by omega⟩
        rw [runesAt_step s p hz] at hw ⊢
        have ih := join_runes s d' (p + runeS s p) (by omega) (by omega) (by omega) hw
        show cut s p ++ joinB (runesAt s (p + runeS s p)).1 = _
        rw [ih]
        unfold cut
        exact ByteArray.extract_append_extract.trans (by rw [Nat.min_eq_left (by omega), Nat.max_eq_right (by omega)])
    · rw [runesAt_end s p hlt]
      apply bytes_inj
      rw [ByteArray.data_extract, Array.toList_extract, List.extract_eq_take_drop, List.drop_of_length_le (by rw [Array.length_toList]; show s.size ≤ _; omega), List.take_nil]
      rfl
theorem runes_whole (s : ByteArray) : ∀ (f : Nat) (p : Int), 0 ≤ p → p ≤ s.size → (s.size : Int) - p < f → cnt s f p ≠ none → (runesAt s p).2 = true
  | 0, p, h0, h1, h2, h => by omega
  | f + 1, p, h0, h1, h2, h => by
    rw [R1.cnt_succ] at h
    by_cases hlt : p < s.size
    · rw [if_pos hlt] at h
      by_cases hz : runeS s p = 0
      · rw [if_pos hz] at h; exact absurd rfl h
      · rw [if_neg hz] at h
        have hr := rune_pos s p hz
        rw [runesAt_step s p hz]
        exact runes_whole s f (p + runeS s p) (by omega) (by omega) (by omega) (fun e => h (by rw [e]; rfl))
    · rw [runesAt_end s p hlt]
theorem runes_valid (s : ByteArray) (h : 0 ≤ runesS s) : (runesAt s 0).2 = true := by
  apply runes_whole s (s.size + 1) 0 (Int.le_refl _) (by omega) (by omega)
  intro e
  unfold runesS at h
  rw [e] at h
  exact absurd h (by decide)
def Qc : ByteArray := ⟨#[39]⟩
theorem Qc_quote : quoteC Qc := by unfold quoteC; decide +kernel
theorem Qc_rune : IsRune Qc := by unfold IsRune; decide +kernel
theorem quote_is {c : ByteArray} (h : quoteC c) : c = Qc := by
  have : c.data.toList = [39] := by rw [← Lib.toList_data]; exact h
  exact bytes_of c _ this
def dbl : List ByteArray → List ByteArray
  | [] => []
  | c :: cs => if quoteC c then Qc :: Qc :: dbl cs else c :: dbl cs
def wrapR (raw : List ByteArray) (bare : Bool) : List ByteArray := if bare then dbl raw else Qc :: (dbl raw ++ [Qc])
def quoteR : List ByteArray → List ByteArray → Bool → List ByteArray
  | [], raw, bare => wrapR raw bare
  | c :: cs, raw, bare =>
    if quoteC c then quoteR cs (raw ++ [c]) bare
    else if (decide (0 < kindS c) || letB c) = true then quoteR cs (raw ++ [c]) false
    else wrapR raw bare ++ (c :: quoteR cs [] true)
theorem dbl_app (a b : List ByteArray) : dbl (a ++ b) = dbl a ++ dbl b := by
  induction a with
  | nil => rfl
  | cons c cs ih =>
    simp only [List.cons_append, dbl]
    by_cases h : quoteC c
    · rw [if_pos h, if_pos h, ih]; rfl
    · rw [if_neg h, if_neg h, ih]; rfl
theorem flush_eq (bs : List UInt8) (raw : List ByteArray) (bare : Bool) : flushB bs (joinB (dbl raw)) bare = bs ++ (joinB (wrapR raw bare)).data.toList := by
  unfold flushB wrapR
  cases bare
  · simp only [Bool.false_eq_true, if_false]
    show _ = bs ++ (Qc ++ joinB (dbl raw ++ [Qc])).data.toList
    rw [join_app, join_one]
    simp [ByteArray.data_append, Qc]
  · simp only [if_true]
theorem quote_runes (s : ByteArray) (hs : s.size ≤ 1048576) : ∀ (d : Nat) (p : Int) (bs : List UInt8) (raw : List ByteArray) (bare : Bool), 0 ≤ p → p ≤ s.size → (s.size : Int) - p < d → (runesAt s p).2 = true →
    quoteL s d p bs (joinB (dbl raw)) bare = some ⟨(bs ++ (joinB (quoteR (runesAt s p).1 raw bare)).data.toList).toArray⟩
  | 0, p, bs, raw, bare, h0, h1, h2, hw => by omega
  | d + 1, p, bs, raw, bare, h0, h1, h2, hw => by
    have hR := curRune s p (by omega) 0
    rw [Nat.zero_add] at hR
    by_cases hlt : p < s.size
    case neg =>
      simp only [quoteL]
      rw [if_neg hlt, runesAt_end s p hlt, flush_eq]
      rfl
    by_cases hz : runeS s p = 0
    · rw [runesAt_bad s p hlt hz] at hw; exact absurd hw (by decide)
    have hr := rune_pos s p hz
    rw [runesAt_step s p hz] at hw ⊢
    have ih := fun bs raw bare => quote_runes s hs d (p + runeS s p) bs raw bare (by omega) (by omega) (by omega) hw
    simp only [quoteL]
    rw [if_pos hlt, hR, Option.bind_some, if_pos (show 0 < runeS s p ∧ p + runeS s p ≤ s.size by omega)]
    rw [show s.extract p.toNat (p + runeS s p).toNat = cut s p from rfl]
    simp only [quoteR]
    by_cases hq : quoteC (cut s p)
    · rw [if_pos (show (cut s p).toList = ([39] : List UInt8) from hq), if_pos hq]
      have e : joinB (dbl raw) ++ (⟨#[39, 39]⟩ : ByteArray) = joinB (dbl (raw ++ [cut s p])) := by
        rw [dbl_app, join_app]
        simp only [dbl]
        rw [if_pos hq]
        rfl
      rw [e, ih]
    · rw [if_neg (show ¬ (cut s p).toList = ([39] : List UInt8) from hq), if_neg hq, kind_eq, Option.bind_some]
      by_cases hn : (decide (0 < kindS (cut s p)) || letB (cut s p)) = true
      · rw [if_pos hn, if_pos hn]
        have e : joinB (dbl raw) ++ cut s p = joinB (dbl (raw ++ [cut s p])) := by
          rw [dbl_app, join_app]
          simp only [dbl]
          rw [if_neg hq, join_one]
        rw [e, ih]
      · rw [if_neg hn, if_neg hn, flush_eq]
        have := ih (bs ++ (joinB (wrapR raw bare)).data.toList ++ (cut s p).data.toList) [] true
        have e0 : joinB (dbl []) = (⟨#[]⟩ : ByteArray) := rfl
        rw [e0] at this
        rw [this, join_app]
        show _ = some (⟨(bs ++ (joinB (wrapR raw bare) ++ (cut s p ++ joinB (quoteR (runesAt s (p + runeS s p)).1 [] true))).data.toList).toArray⟩ : ByteArray)
        simp [ByteArray.data_append]
def quoteT (t : ByteArray) : List ByteArray := quoteR (runesAt t 0).1 [] true
theorem quote_eq (t : ByteArray) (hs : t.size ≤ 1048576) (hv : 0 ≤ runesS t) : affix_quote.f t = some (joinB (quoteT t)) := by
  unfold affix_quote.f
  rw [if_pos hs]
  have := quote_runes t hs (t.size + 1) 0 [] [] true (Int.le_refl _) (by omega) (by omega) (runes_valid t hv)
  have e0 : joinB (dbl []) = (⟨#[]⟩ : ByteArray) := rfl
  rw [e0] at this
  rw [this, List.nil_append]
  rfl
theorem dbl_rune (l : List ByteArray) (h : ∀ c ∈ l, IsRune c) : ∀ c ∈ dbl l, IsRune c := by
  induction l with
  | nil => intro c hc; cases hc
  | cons x xs ih =>
    intro c hc
    simp only [dbl] at hc
    split at hc
    · simp only [List.mem_cons] at hc
      rcases hc with rfl | rfl | hc
      · exact Qc_rune
      · exact Qc_rune
      · exact ih (fun c hc => h c (by simp [hc])) c hc
    · simp only [List.mem_cons] at hc
      rcases hc with rfl | hc
      · exact h _ (by simp)
      · exact ih (fun c hc => h c (by simp [hc])) c hc
theorem wrap_rune (l : List ByteArray) (b : Bool) (h : ∀ c ∈ l, IsRune c) : ∀ c ∈ wrapR l b, IsRune c := by
  intro c hc
  unfold wrapR at hc
  cases b
  · simp only [Bool.false_eq_true, if_false, List.mem_cons, List.mem_append, List.not_mem_nil, or_false] at hc
    rcases hc with rfl | hc | rfl
    · exact Qc_rune
    · exact dbl_rune l h c hc
    · exact Qc_rune
  · exact dbl_rune l h c hc
theorem quoteR_rune : ∀ (cs raw : List ByteArray) (b : Bool), (∀ c ∈ cs, IsRune c) → (∀ c ∈ raw, IsRune c) → ∀ c ∈ quoteR cs raw b, IsRune c
  | [], raw, b, h1, h2 => wrap_rune raw b h2
  | x :: cs, raw, b, h1, h2 => by
    have hx := h1 x (by simp)
    have h1' : ∀ c ∈ cs, IsRune c := fun c hc => h1 c (by simp [hc])
    have h2' : ∀ c ∈ raw ++ [x], IsRune c := by
      intro c hc
      rw [List.mem_append, List.mem_singleton] at hc
      rcases hc with hc | rfl
      · exact h2 c hc
      · exact hx
    simp only [quoteR]
    split
    · exact quoteR_rune cs _ b h1' h2'
    · split
      · exact quoteR_rune cs _ false h1' h2'
      · intro c hc
        rw [List.mem_append, List.mem_cons] at hc
        rcases hc with hc | rfl | hc
        · exact wrap_rune raw b h2 c hc
        · exact hx
        · exact quoteR_rune cs [] true h1' (fun c hc => by cases hc) c hc
theorem row_inside (rest : List ByteArray) (l : List S53) : ∀ (raw : List ByteArray) (t : ByteArray), runS (dbl raw ++ rest) false 1 l t = runS rest false 1 l (t ++ joinB raw)
  | [], t => by rw [show joinB [] = (⟨#[]⟩ : ByteArray) from rfl, app_empty]; rfl
  | c :: cs, t => by
    have ih := row_inside rest l cs (t ++ c)
    show _ = runS rest false 1 l (t ++ (c ++ joinB cs))
    rw [← app_assoc, ← ih]
    simp only [dbl]
    by_cases h : quoteC c
    · rw [if_pos h]
      simp only [List.cons_append, runS]
      rw [if_pos Qc_quote, if_pos (show nextQ (Qc :: (dbl cs ++ rest)) = true from decide_eq_true Qc_quote), quote_is h]
      rfl
    · rw [if_neg h]
      simp only [List.cons_append, runS]
      rw [if_neg h, if_neg (by decide)]
theorem run_bare (rest : List ByteArray) (l : List S53) : ∀ (raw : List ByteArray) (t : ByteArray), (∀ c ∈ raw, quoteC c) → runS (dbl raw ++ rest) false 0 l t = runS rest false 0 l (t ++ joinB raw)
  | [], t, _ => by rw [show joinB [] = (⟨#[]⟩ : ByteArray) from rfl, app_empty]; rfl
  | c :: cs, t, hq => by
    have ih := run_bare rest l cs (t ++ c) (fun x hx => hq x (by simp [hx]))
    have h := hq c (by simp)
    show _ = runS rest false 0 l (t ++ (c ++ joinB cs))
    rw [← app_assoc, ← ih]
    simp only [dbl]
    rw [if_pos h]
    simp only [List.cons_append, runS]
    rw [if_pos Qc_quote, if_pos (show nextQ (Qc :: (dbl cs ++ rest)) = true from decide_eq_true Qc_quote), quote_is h]
    rfl
theorem run_wrap (rest : List ByteArray) (hr : nextQ rest = false) (l : List S53) : ∀ (raw : List ByteArray) (t : ByteArray), (∃ c ∈ raw, ¬ quoteC c) → runS (Qc :: (dbl raw ++ (Qc :: rest))) false 0 l t = runS rest false 0 l (t ++ joinB raw)
  | [], t, h => by obtain ⟨c, hc, _⟩ := h; cases hc
  | c :: cs, t, h => by
    show _ = runS rest false 0 l (t ++ (c ++ joinB cs))
    rw [← app_assoc]
    by_cases hq : quoteC c
    · have ih := run_wrap rest hr l cs (t ++ c) (by
        obtain ⟨x, hx, hn⟩ := h
        rw [List.mem_cons] at hx
        rcases hx with rfl | hx
        · exact absurd hq hn
        · exact ⟨x, hx, hn⟩)
      rw [← ih, quote_is hq]
      have e : dbl (Qc :: cs) = Qc :: Qc :: dbl cs := by simp only [dbl]; rw [if_pos Qc_quote]
      rw [e]
      simp only [List.cons_append]
      rw [show runS (Qc :: Qc :: Qc :: (dbl cs ++ Qc :: rest)) false 0 l t = runS (Qc :: Qc :: (dbl cs ++ Qc :: rest)) true 0 l t by
        conv => lhs; unfold runS
        rw [if_pos Qc_quote, if_pos (show nextQ (Qc :: Qc :: (dbl cs ++ Qc :: rest)) = true from decide_eq_true Qc_quote)]]
      conv => lhs; unfold runS
      rfl
    · have e : dbl (c :: cs) = c :: dbl cs := by simp only [dbl]; rw [if_neg hq]
      have h1 : runS (Qc :: (dbl (c :: cs) ++ (Qc :: rest))) false 0 l t = runS (dbl (c :: cs) ++ (Qc :: rest)) false 1 l t := by
        rw [e]
        conv => lhs; unfold runS
        rw [if_pos Qc_quote, if_neg (show ¬ nextQ ((c :: dbl cs) ++ (Qc :: rest)) = true by show ¬ decide (quoteC c) = true; simpa using hq)]
        rfl
      rw [h1, row_inside]
      show runS (Qc :: rest) false 1 l (t ++ (c ++ joinB cs)) = _
      rw [← app_assoc]
      conv => lhs; unfold runS
      rw [if_pos Qc_quote, if_neg (by rw [hr]; decide)]
      rfl
def Rows_ (raw : List ByteArray) (bare : Bool) : Prop := if bare = true then (∀ c ∈ raw, quoteC c) else (∃ c ∈ raw, ¬ quoteC c)
theorem run_row (rest : List ByteArray) (hr : nextQ rest = false) (l : List S53) (raw : List ByteArray) (bare : Bool) (t : ByteArray) (h : Rows_ raw bare) : runS (wrapR raw bare ++ rest) false 0 l t = runS rest false 0 l (t ++ joinB raw) := by
  unfold wrapR
  cases bare
  · simp only [Bool.false_eq_true, if_false]
    have := run_wrap rest hr l raw t (by unfold Rows_ at h; simpa using h)
    rw [← this]
    simp
  · simp only [if_true]
    exact run_bare rest l raw t (by unfold Rows_ at h; simpa using h)
theorem run_quote (rest : List ByteArray) (hr : nextQ rest = false) (l : List S53) : ∀ (cs raw : List ByteArray) (bare : Bool) (t : ByteArray), Rows_ raw bare → runS (quoteR cs raw bare ++ rest) false 0 l t = runS rest false 0 l (t ++ joinB raw ++ joinB cs)
  | [], raw, bare, t, h => by
    rw [show joinB [] = (⟨#[]⟩ : ByteArray) from rfl, app_empty]
    exact run_row rest hr l raw bare t h
  | c :: cs, raw, bare, t, h => by
    show _ = runS rest false 0 l (t ++ joinB raw ++ (c ++ joinB cs))
    have e : t ++ joinB raw ++ (c ++ joinB cs) = t ++ joinB (raw ++ [c]) ++ joinB cs := by
      rw [join_app, join_one, app_assoc, app_assoc, app_assoc]
    simp only [quoteR]
    by_cases hq : quoteC c
    · rw [if_pos hq, e]
      refine run_quote rest hr l cs _ bare t ?_
      exact aP17
    · rw [if_neg hq]
      by_cases hn : (decide (0 < kindS c) || letB c) = true
      · rw [if_pos hn, e]
        refine run_quote rest hr l cs _ false t ?_
        unfold Rows_
        simp only [Bool.false_eq_true, if_false]
        exact ⟨c, by simp, hq⟩
      · rw [if_neg hn]
        have ih := run_quote rest hr l cs [] true (t ++ joinB raw ++ c) (by unfold Rows_; simp)
        rw [show joinB [] = (⟨#[]⟩ : ByteArray) from rfl, app_empty, app_assoc (t ++ joinB raw)] at ih
        rw [← ih, List.append_assoc, run_row _ (by show decide (quoteC c) = false; exact decide_eq_false hq) l raw bare t h]
        simp only [List.cons_append]
        conv => lhs; unfold runS
        simp only [Bool.or_eq_true, decide_eq_true_eq, not_or] at hn
        rw [if_neg hq, if_pos rfl, if_neg hn.1, if_neg hn.2]
def plusC : ByteArray := ⟨#[43]⟩
def percC : ByteArray := ⟨#[37]⟩
def permC : ByteArray := ⟨#[226, 128, 176]⟩
def currC : ByteArray := ⟨#[194, 164]⟩
def signC (k : Int) : ByteArray := if k = 1 then minusC else if k = 2 then plusC else if k = 3 then percC else permC
def tokR (t : S53) : List ByteArray := if t.f0 = 0 then quoteT t.f2 else if t.f0 = 5 then List.replicate t.f1.toNat currC else [signC t.f0]
def allR (l : List S53) : List ByteArray := (l.map tokR).flatten
theorem signs_rune : IsRune minusC ∧ IsRune plusC ∧ IsRune percC ∧ IsRune permC ∧ IsRune currC := by unfold IsRune; decide +kernel
theorem signs_kind : kindS minusC = 1 ∧ kindS plusC = 2 ∧ kindS percC = 3 ∧ kindS permC = 4 ∧ kindS currC = 5 := by decide +kernel
theorem signs_quote : ¬ quoteC minusC ∧ ¬ quoteC plusC ∧ ¬ quoteC percC ∧ ¬ quoteC permC ∧ ¬ quoteC currC := by unfold quoteC; decide +kernel
theorem sign_rune (k : Int) : IsRune (signC k) := by
  obtain ⟨h1, h2, h3, h4, _⟩ := signs_rune
  unfold signC
  split
  · exact h1
  split
  · exact h2
  split
  · exact h3
  exact h4
theorem signC_quote (k : Int) : ¬ quoteC (signC k) := by
  obtain ⟨h1, h2, h3, h4, _⟩ := signs_quote
  unfold signC
  split
  · exact h1
  split
  · exact h2
  split
  · exact h3
  exact h4
theorem signC_kind {k : Int} (h : k = 1 ∨ k = 2 ∨ k = 3 ∨ k = 4) : kindS (signC k) = k := by
  obtain ⟨h1, h2, h3, h4, _⟩ := signs_kind
  rcases h with rfl | rfl | rfl | rfl
  · exact h1
  · exact h2
  · exact h3
  · exact h4
theorem single_tells {t : S53} (h : singleS t = true) : (t.f0 = 0 ∧ t.f2.toList ≠ [] ∧ t = ⟨0, 0, t.f2⟩ ∧ 0 ≤ runesS t.f2) ∨ ((t.f0 = 1 ∨ t.f0 = 2 ∨ t.f0 = 3 ∨ t.f0 = 4) ∧ t = ⟨t.f0, 0, ⟨#[]⟩⟩) ∨ (t = ⟨5, 1, ⟨#[]⟩⟩ ∨ t = ⟨5, 2, ⟨#[]⟩⟩ ∨ t = ⟨5, 3, ⟨#[]⟩⟩) := by
  obtain ⟨a, b, c⟩ := t
  have hnil : c.toList = [] → c = ⟨#[]⟩ := fun e => bytes_of c [] (by rw [← Lib.toList_data]; exact e)
  unfold singleS at h
  simp only at h ⊢
  by_cases h0 : a = 0
  · rw [if_pos h0] at h
    by_cases h2 : c.toList = []
    · rw [if_pos h2] at h; exact absurd h (by decide)
    · rw [if_neg h2] at h
      by_cases h1 : b = 0
      · rw [if_pos h1] at h
        subst h0; subst h1
        exact .inl ⟨rfl, h2, rfl, of_decide_eq_true h⟩
      · rw [if_neg h1] at h; exact absurd h (by decide)
  · rw [if_neg h0] at h
    by_cases h14 : a = 1 ∨ a = 2 ∨ a = 3 ∨ a = 4
    · rw [if_pos h14] at h
      by_cases h2 : c.toList = []
      · rw [if_pos h2] at h
        have : b = 0 := by simpa using h
        subst this
        exact .inr (.inl ⟨h14, by rw [hnil h2]⟩)
      · rw [if_neg h2] at h; exact absurd h (by decide)
    · rw [if_neg h14] at h
      by_cases h5 : a = 5
      · rw [if_pos h5] at h
        by_cases h2 : c.toList = []
        · rw [if_pos h2] at h
          by_cases h1 : b ≥ 1
          · rw [if_pos h1] at h
            have h3 : b ≤ 3 := of_decide_eq_true h
            subst h5
            rw [hnil h2]
            have : b = 1 ∨ b = 2 ∨ b = 3 := by omega
            rcases this with rfl | rfl | rfl
            · exact .inr (.inr (.inl rfl))
            · exact .inr (.inr (.inr (.inl rfl)))
            · exact .inr (.inr (.inr (.inr rfl)))
          · rw [if_neg h1] at h; exact absurd h (by decide)
        · rw [if_neg h2] at h; exact absurd h (by decide)
      · rw [if_neg h5] at h; exact absurd h (by decide)
theorem tok_rune (t : S53) : ∀ c ∈ tokR t, IsRune c := by
  intro c hc
  unfold tokR at hc
  split at hc
  · exact quoteR_rune _ _ _ (runesAt_runes t.f2 t.f2.size 0 (Int.le_refl _) (by omega) (by omega)) (fun c hc => by cases hc) c hc
  · split at hc
    · rw [(List.mem_replicate.1 hc).2]; exact signs_rune.2.2.2.2
    · rw [List.mem_singleton.1 hc]; exact sign_rune _
theorem all_rune (l : List S53) : ∀ c ∈ allR l, IsRune c := by
  intro c hc
  unfold allR at hc
  rw [List.mem_flatten] at hc
  obtain ⟨x, hx, hc⟩ := hc
  obtain ⟨t, _, rfl⟩ := List.mem_map.1 hx
  exact tok_rune t c hc
theorem all_cons (t : S53) (r : List S53) : allR (t :: r) = tokR t ++ allR r := rfl
theorem next_all {t : S53} {r : List S53} (h : goodL (some t) r = true) (h0 : t.f0 = 0) : nextQ (allR r) = false := by
  cases r with
  | nil => rfl
  | cons u r =>
    rw [goodL_cons, Bool.and_eq_true, Bool.and_eq_true] at h
    obtain ⟨h1, h2, _⟩ := h
    rw [all_cons]
    unfold tokR
    by_cases hu : u.f0 = 0
    · rw [twice_eq t u (by omega), hu] at h1; exact absurd h1 (by decide)
    rw [if_neg hu]
    rcases single_tells h2 with ⟨h, _⟩ | ⟨h, _⟩ | h | h | h
    · exact absurd h hu
    · rw [if_neg (by omega)]
      exact decide_eq_false (signC_quote _)
    all_goals
      subst h
      exact decide_eq_false signs_quote.2.2.2.2
theorem end_nil (l : List S53) : endL l ⟨#[]⟩ = l := by
  unfold endL
  rw [if_pos (by rw [Lib.toList_data])]
theorem run_sign {c : ByteArray} {k : Int} (hq : ¬ quoteC c) (hk : kindS c = k) (h0 : 0 < k) (rest : List ByteArray) (L : List S53) (t : ByteArray) (hs : (signL (endL L t) k).2 = true) : runS (c :: rest) false 0 L t = runS rest false 0 (signL (endL L t) k).1 ⟨#[]⟩ := by
  conv => lhs; unfold runS
  rw [if_neg hq, if_pos rfl, hk, if_pos h0, if_pos hs]
theorem sign_first (P : List S53) (k : Int) (h : k ≠ 5 ∨ LastNC P) : signL P k = (P ++ [⟨k, if k = 5 then 1 else 0, ⟨#[]⟩⟩], true) := by
  unfold signL
  rw [if_neg]
  rintro ⟨h1, h2, h3⟩
  rcases h with h | h
  · exact h h1
  · exact h h2 h3
theorem sign_more (P : List S53) (n : Int) (hn : n = 1 ∨ n = 2) : signL (P ++ [⟨5, n, ⟨#[]⟩⟩]) 5 = (P ++ [⟨5, n + 1, ⟨#[]⟩⟩], true) := by
  have e : (P ++ [(⟨5, n, ⟨#[]⟩⟩ : S53)]).length - 1 = P.length := by rw [List.length_append]; simp
  have er : rd_T53 (P ++ [(⟨5, n, ⟨#[]⟩⟩ : S53)]) ((P.length : Nat) : Int) = ⟨5, n, ⟨#[]⟩⟩ := by
    rw [rd_get _ _ (by rw [List.length_append]; simp), List.getElem_append_right (Nat.le_refl _)]
    simp
  have w : wrap64 (n + 1) = n + 1 := by unfold wrap64; omega
  unfold signL
  rw [e, er]
  simp only
  rw [if_pos ⟨trivial, by rw [List.length_append]; simp, trivial⟩, w, List.set_append_right _ _ (Nat.le_refl _), Nat.sub_self, List.set_cons_zero]
  rw [decide_eq_true (by omega)]
def Tied (p : Option S53) (L : List S53) (t : ByteArray) : Prop :=
  (∀ q, p = some q → ∃ P, endL L t = P ++ [q]) ∧ (p = none → endL L t = []) ∧ (t.toList ≠ [] → ∃ q, p = some q ∧ q.f0 = 0)
theorem tied_lastNC {p : Option S53} {L : List S53} {t : ByteArray} (h : Tied p L t) {u : S53} (hu : u.f0 = 5) (ht : twice p u = false) : LastNC (endL L t) := by
  cases p with
  | none => rw [h.2.1 rfl]; intro h; exact absurd h (by simp)
  | some q =>
    obtain ⟨P, e⟩ := h.1 q rfl
    rw [e]
    intro _
    have e1 : (P ++ [q]).length - 1 = P.length := by rw [List.length_append]; simp
    rw [e1, rd_get _ _ (by rw [List.length_append]; simp), List.getElem_append_right (Nat.le_refl _)]
    simp only [Nat.sub_self, List.getElem_cons_zero]
    intro hq
    rw [twice_eq q u (by omega), hu] at ht
    exact absurd ht (by decide)
theorem run_all : ∀ (l : List S53) (p : Option S53) (L : List S53) (t : ByteArray), goodL p l = true → Tied p L t → ∃ L' t', runS (allR l) false 0 L t = some (0, L', t') ∧ endL L' t' = endL L t ++ l
  | [], p, L, t, _, _ => ⟨L, t, rfl, by rw [List.append_nil]⟩
  | u :: r, p, L, t, hg, ht => by
    rw [goodL_cons, Bool.and_eq_true, Bool.and_eq_true] at hg
    obtain ⟨h1, h2, h3⟩ := hg
    have h1' : twice p u = false := by simpa using h1
    rw [all_cons]
    have fin : ∀ L1 t1, runS (tokR u ++ allR r) false 0 L t = runS (allR r) false 0 L1 t1 → endL L1 t1 = endL L t ++ [u] → (t1.toList ≠ [] → u.f0 = 0) → ∃ L' t', runS (tokR u ++ allR r) false 0 L t = some (0, L', t') ∧ endL L' t' = endL L t ++ (u :: r) := by
      intro L1 t1 e1 e2 e3
      obtain ⟨L', t', a, b⟩ := run_all r (some u) L1 t1 h3 ⟨fun q hq => ⟨endL L t, by cases hq; exact e2⟩, (fun h => by cases h), fun h => ⟨u, rfl, e3 h⟩⟩
      refine ⟨L', t', by rw [e1]; exact a, ?_⟩
      rw [b, e2, List.append_assoc]
      rfl
    rcases single_tells h2 with ⟨h0, hn, hu, hv⟩ | ⟨hk, hu⟩ | hu
    · have htn : t = ⟨#[]⟩ := by
        by_cases e : t.toList = []
        · exact bytes_of t [] (by rw [← Lib.toList_data]; exact e)
        · obtain ⟨q, hq, hq0⟩ := ht.2.2 e
          rw [hq, twice_eq q u (by omega), h0] at h1'
          exact absurd h1' (by decide)
      subst htn
      have hnx := next_all h3 h0
      refine fin L u.f2 ?_ ?_ (fun _ => h0)
      · unfold tokR
        rw [if_pos h0]
        unfold quoteT
        rw [run_quote (allR r) hnx L (runesAt u.f2 0).1 [] true ⟨#[]⟩ (by unfold Rows_; simp)]
        rw [show joinB [] = (⟨#[]⟩ : ByteArray) from rfl, app_empty, nil_app, join_runes u.f2 u.f2.size 0 (Int.le_refl _) (by omega) (by omega) (runes_valid _ hv)]
        congr 1
        exact ByteArray.extract_zero_size
      · rw [end_nil]
        unfold endL
        rw [if_neg hn, ← hu]
    · have hsf := sign_first (endL L t) u.f0 (.inl (by omega))
      refine fin (endL L t ++ [u]) ⟨#[]⟩ ?_ (end_nil _) (fun h => absurd (by rw [Lib.toList_data]) h)
      have et : tokR u = [signC u.f0] := aP46
      rw [et, List.singleton_append, run_sign (signC_quote _) (signC_kind hk) (by omega) _ L t (by rw [hsf]), hsf]
      simp only
      rw [if_neg (show ¬ u.f0 = 5 by omega), ← hu]
    · have h5 : u.f0 = 5 := by rcases hu with rfl | rfl | rfl <;> rfl
      have hl := tied_lastNC ht h5 h1'
      have hsf := sign_first (endL L t) 5 (.inr hl)
      rw [if_pos rfl] at hsf
      have q := signs_quote.2.2.2.2
      have k := signs_kind.2.2.2.2
      have s1 : ∀ rest, runS (currC :: rest) false 0 L t = runS rest false 0 (endL L t ++ [⟨5, 1, ⟨#[]⟩⟩]) ⟨#[]⟩ := by
        intro rest
        rw [run_sign q k (by decide) rest L t (by rw [hsf]), hsf]
      have s2 : ∀ rest n, n = 1 ∨ n = 2 → runS (currC :: rest) false 0 (endL L t ++ [⟨5, n, ⟨#[]⟩⟩]) ⟨#[]⟩ = runS rest false 0 (endL L t ++ [⟨5, n + 1, ⟨#[]⟩⟩]) ⟨#[]⟩ := by
        intro rest n hn
        have hm := sign_more (endL L t) n hn
        rw [run_sign q k (by decide) rest _ _ (by rw [end_nil, hm]), end_nil, hm]
      refine fin (endL L t ++ [u]) ⟨#[]⟩ ?_ (end_nil _) (fun h => absurd (by rw [Lib.toList_data]) h)
      rcases hu with rfl | rfl | rfl
      · show runS (currC :: allR r) false 0 L t = _
        rw [s1]
      · show runS (currC :: currC :: allR r) false 0 L t = _
        rw [s1, s2 _ 1 (.inl rfl)]
        rfl
      · show runS (currC :: currC :: currC :: allR r) false 0 L t = _
        rw [s1, s2 _ 1 (.inl rfl)]
        have := s2 (allR r) 2 (.inr rfl)
        exact this
theorem parse_all (l : List S53) (h : checkS l = 0) : parseT (joinB (allR l)) = (l, 0) := by
  have hg : goodL none l = true := by
    rcases check_cases l with ⟨h', _⟩ | ⟨h', _⟩
    · rw [h'] at h; exact absurd h (by decide)
    · exact h'
  obtain ⟨L', t', a, b⟩ := run_all l none [] ⟨#[]⟩ hg ⟨fun q hq => (by cases hq), fun _ => end_nil [], fun h => absurd (by rw [Lib.toList_data]) h⟩
  rw [parseT_run, runes_join _ (all_rune l), a]
  simp only [tellS, finishS]
  rw [b, end_nil, List.nil_append, if_neg (by simp), if_neg (by decide), if_pos h]
theorem join_size (l : List ByteArray) : (joinB l).size ≤ tot l := by
  induction l with
  | nil => exact Nat.le_refl _
  | cons c cs ih => show (c ++ joinB cs).size ≤ c.size + 1 + tot cs; rw [ByteArray.size_append]; omega
theorem tot_app (a b : List ByteArray) : tot (a ++ b) = tot a + tot b := by
  induction a with
  | nil => simp [tot]
  | cons c cs ih => show c.size + 1 + tot (cs ++ b) = c.size + 1 + tot cs + tot b; rw [ih]; omega
theorem tot_dbl (l : List ByteArray) : tot (dbl l) ≤ 4 * tot l := by
  induction l with
  | nil => exact Nat.le_refl _
  | cons c cs ih =>
    simp only [dbl]
    split
    · show Qc.size + 1 + (Qc.size + 1 + tot (dbl cs)) ≤ 4 * (c.size + 1 + tot cs)
      have : Qc.size = 1 := rfl
      omega
    · show c.size + 1 + tot (dbl cs) ≤ 4 * (c.size + 1 + tot cs)
      omega
theorem tot_wrap (l : List ByteArray) (b : Bool) : tot (wrapR l b) ≤ 4 * tot l + 4 := by
  have := tot_dbl l
  unfold wrapR
  cases b
  · show Qc.size + 1 + tot (dbl l ++ [Qc]) ≤ _
    rw [tot_app]
    have : Qc.size = 1 := rfl
    have : tot [Qc] = 2 := rfl
    omega
  · show tot (dbl l) ≤ _
    omega
theorem tot_quote : ∀ (cs raw : List ByteArray) (b : Bool), tot (quoteR cs raw b) ≤ 4 * tot raw + 8 * tot cs + 4
  | [], raw, b => by have := tot_wrap raw b; show tot (wrapR raw b) ≤ 4 * tot raw + 8 * 0 + 4; omega
  | c :: cs, raw, b => by
    have e : tot (raw ++ [c]) = tot raw + (c.size + 1) := by rw [tot_app]; rfl
    have ec : tot (c :: cs) = c.size + 1 + tot cs := rfl
    simp only [quoteR]
    split
    · have := tot_quote cs (raw ++ [c]) b; omega
    · split
      · have := tot_quote cs (raw ++ [c]) false; omega
      · have h1 := tot_quote cs [] true
        have h2 := tot_wrap raw b
        have h3 : tot ([] : List ByteArray) = 0 := rfl
        rw [tot_app]
        show tot (wrapR raw b) + (c.size + 1 + tot (quoteR cs [] true)) ≤ _
        omega
theorem tok_size (t : S53) (h : singleS t = true) : tot (tokR t) ≤ 16 * t.f2.size + 12 := by
  rcases single_tells h with ⟨h0, hn, hu, hv⟩ | ⟨hk, hu⟩ | hu
  · unfold tokR
    rw [if_pos h0]
    have h1 := tot_quote (runesAt t.f2 0).1 [] true
    have h2 := tot_runes t.f2 t.f2.size 0 (Int.le_refl _) (by omega) (by omega)
    have h3 : tot ([] : List ByteArray) = 0 := rfl
    unfold quoteT
    omega
  · have et : tokR t = [signC t.f0] := aP46
    rw [et]
    have : (signC t.f0).size ≤ 3 := by unfold signC; repeat' split
                                       all_goals decide
    show (signC t.f0).size + 1 + 0 ≤ _
    omega
  · rcases hu with rfl | rfl | rfl <;> decide
def sumT : List S53 → Nat
  | [] => 0
  | t :: r => t.f2.size + sumT r
theorem good_single : ∀ (l : List S53) (p : Option S53), goodL p l = true → ∀ t ∈ l, singleS t = true
  | [], p, _, t, ht => by cases ht
  | u :: r, p, h, t, ht => by
    rw [goodL_cons, Bool.and_eq_true, Bool.and_eq_true] at h
    rw [List.mem_cons] at ht
    rcases ht with rfl | ht
    · exact h.2.1
    · exact good_single r _ h.2.2 t ht
theorem all_size : ∀ (l : List S53), (∀ t ∈ l, singleS t = true) → tot (allR l) ≤ 16 * sumT l + 12 * l.length
  | [], _ => Nat.le_refl _
  | t :: r, h => by
    have h1 := tok_size t (h t (by simp))
    have h2 := all_size r (fun u hu => h u (by simp [hu]))
    rw [all_cons, tot_app]
    show _ ≤ 16 * (t.f2.size + sumT r) + 12 * (r.length + 1)
    omega
theorem bytes_sum (N : Nat) (hN : N ≤ 4194304) : ∀ (l : List S53) (b : Int), Texts l N → 0 ≤ b → b + 4194304 * l.length ≤ 4611686018427387904 → bytesL l b = b + sumT l
  | [], b, _, _, _ => by show b = b + ((0 : Nat) : Int); omega
  | t :: r, b, ht, h0, h1 => by
    have h2 := ht t (by simp)
    rw [List.length_cons] at h1
    have w : wrap64 (b + t.f2.size) = b + t.f2.size := by unfold wrap64; omega
    rw [bytesL_cons, w, bytes_sum N hN r (b + t.f2.size) (fun u hu => ht u (by simp [hu])) (by omega) (by omega)]
    show _ = b + ((t.f2.size + sumT r : Nat) : Int)
    omega
theorem check_zero {l : List S53} (h : checkS l = 0) : goodL none l = true ∧ l.length ≤ 64 ∧ bytesL l 0 ≤ 64 := by
  unfold checkS at h
  rw [check_good] at h
  by_cases hg : goodL none l = true
  · rw [if_pos hg] at h
    by_cases h1 : (l.length : Int) > 64
    · rw [if_pos h1] at h; exact absurd h (by decide)
    · rw [if_neg h1] at h
      by_cases h2 : bytesL l 0 > 64
      · rw [if_pos h2] at h; exact absurd h (by decide)
      · exact ⟨hg, by omega, by omega⟩
  · rw [if_neg hg] at h; exact absurd h (by decide)
theorem sum_mem : ∀ (l : List S53) (t : S53), t ∈ l → t.f2.size ≤ sumT l
  | [], t, h => by cases h
  | u :: r, t, h => by
    rw [List.mem_cons] at h
    show _ ≤ u.f2.size + sumT r
    rcases h with rfl | h
    · omega
    · have := sum_mem r t h; omega
theorem rep1 : strings_Repeat.f (⟨#[194, 164]⟩ : ByteArray) 1 = some (joinB [currC]) := by decide +kernel
theorem rep2 : strings_Repeat.f (⟨#[194, 164]⟩ : ByteArray) 2 = some (joinB [currC, currC]) := by decide +kernel
theorem rep3 : strings_Repeat.f (⟨#[194, 164]⟩ : ByteArray) 3 = some (joinB [currC, currC, currC]) := by decide +kernel
theorem print_l (l : List S53) (hl : l.length ≤ 64) (hs : ∀ t ∈ l, singleS t = true) (ht : Texts l 64) (K : Nat) : ∀ (d i : Nat) (x : ByteArray), i + d = l.length → x.size ≤ 2000 * i →
    affix_Print.l0 (K + d + 1) x l (l.length : Int) (i : Int) = some (x ++ joinB (allR (l.drop i)), 0)
  | 0, i, x, hi, hx => by
    simp only [affix_Print.l0]
    rw [if_neg (by omega), List.drop_eq_nil_of_le (by omega)]
    show _ = some (x ++ (⟨#[]⟩ : ByteArray), 0)
    rw [app_empty]
  | d + 1, i, x, hi, hx => by
    have hlt : i < l.length := by omega
    have W1 := Aside0.mk (show wrap64 ((i : Int) + 1) = ((i + 1 : Nat) : Int) by unfold wrap64; omega)
    have ih := fun x => print_l l hl hs ht K d (i + 1) x (by omega)
    obtain ⟨m, hm⟩ : ∃ m, K + d + 1 = m := ⟨_, rfl⟩
    rw [show K + (d + 1) + 1 = m + 1 by omega]
    rw [hm] at ih
    have hsg := hs l[i] (List.getElem_mem hlt)
    have htx := ht l[i] (List.getElem_mem hlt)
    have hsz := tok_size l[i] hsg
    have hjs := join_size (tokR l[i])
    have fin : ∀ y : ByteArray, y = joinB (tokR l[i]) → (x.size + y.size ≤ 9223372036854775807 ∧ affix_Print.l0 m (x ++ y) l (l.length : Int) ((i + 1 : Nat) : Int) = some (x ++ joinB (allR (l.drop i)), 0)) := by
      intro y hy
      subst hy
      refine ⟨by omega, ?_⟩
      rw [ih _ (by rw [ByteArray.size_append]; omega), List.drop_eq_getElem_cons hlt, all_cons, join_app, app_assoc]
    have e1 := rd_get l i hlt
    simp only [affix_Print.l0]
    rw [if_pos (show ((i : Int) < (l.length : Int)) by omega), if_pos (show (0 : Int) ≤ (i : Int) by omega), if_pos (show ((i : Int) < (l.length : Int)) by omega), e1, W1.out]
    rcases single_tells hsg with ⟨h0, hn, hu, hv⟩ | ⟨hk, hu⟩ | hu
    · rw [if_pos h0, quote_eq _ (by omega) hv, Option.bind_some]
      obtain ⟨f1, f2⟩ := fin (joinB (quoteT l[i].f2)) (by unfold tokR; rw [if_pos h0])
      rw [if_pos f1, f2]
    · have et : tokR l[i] = [signC l[i].f0] := aP46
      rw [et, join_one] at fin
      rw [if_neg (by omega)]
      rcases hk with hk | hk | hk | hk
      · rw [hk] at fin ⊢
        obtain ⟨f1, f2⟩ := fin ⟨#[45]⟩ rfl
        rw [if_pos rfl, if_pos (show x.size + 1 ≤ 9223372036854775807 from f1), f2]
      · rw [hk] at fin ⊢
        obtain ⟨f1, f2⟩ := fin ⟨#[43]⟩ rfl
        rw [if_neg (by decide), if_pos rfl, if_pos (show x.size + 1 ≤ 9223372036854775807 from f1), f2]
      · rw [hk] at fin ⊢
        obtain ⟨f1, f2⟩ := fin ⟨#[37]⟩ rfl
        rw [if_neg (by decide), if_neg (by decide), if_pos rfl, if_pos (show x.size + 1 ≤ 9223372036854775807 from f1), f2]
      · rw [hk] at fin ⊢
        obtain ⟨f1, f2⟩ := fin ⟨#[226, 128, 176]⟩ rfl
        rw [if_neg (by decide), if_neg (by decide), if_neg (by decide), if_pos rfl, if_pos (show x.size + 3 ≤ 9223372036854775807 from f1), f2]
    · rcases hu with hu | hu | hu
      · rw [hu] at fin ⊢
        obtain ⟨f1, f2⟩ := fin (joinB [currC]) rfl
        simp only
        rw [if_neg (by decide), if_neg (by decide), if_neg (by decide), if_neg (by decide), if_neg (by decide), rep1, Option.bind_some, if_pos f1, f2]
      · rw [hu] at fin ⊢
        obtain ⟨f1, f2⟩ := fin (joinB [currC, currC]) rfl
        simp only
        rw [if_neg (by decide), if_neg (by decide), if_neg (by decide), if_neg (by decide), if_neg (by decide), rep2, Option.bind_some, if_pos f1, f2]
      · rw [hu] at fin ⊢
        obtain ⟨f1, f2⟩ := fin (joinB [currC, currC, currC]) rfl
        simp only
        rw [if_neg (by decide), if_neg (by decide), if_neg (by decide), if_neg (by decide), if_neg (by decide), rep3, Option.bind_some, if_pos f1, f2]
def printT (l : List S53) : ByteArray × Int := if checkS l = 0 then (joinB (allR l), 0) else (⟨#[]⟩, checkS l)
theorem texts_zero (l : List S53) (N : Nat) (hN : N ≤ 4194304) (hl : Texts l N) (hb : l.length ≤ 16777216) (h : checkS l = 0) : goodL none l = true ∧ l.length ≤ 64 ∧ sumT l ≤ 64 ∧ Texts l 64 := by
  obtain ⟨h1, h2, h3⟩ := check_zero h
  have := bytes_sum N hN l 0 hl (Int.le_refl _) (by omega)
  exact ⟨h1, h2, by omega, fun t ht => Nat.le_trans (sum_mem l t ht) (by omega)⟩
theorem print_size (l : List S53) (N : Nat) (hN : N ≤ 4194304) (hl : Texts l N) (hb : l.length ≤ 16777216) : (printT l).1.size ≤ 2000 := by
  unfold printT
  by_cases h : checkS l = 0
  · rw [if_pos h]
    obtain ⟨h1, h2, h3, h4⟩ := texts_zero l N hN hl hb h
    have := all_size l (good_single l none h1)
    have := join_size (allR l)
    show (joinB (allR l)).size ≤ 2000
    omega
  · rw [if_neg h]; exact Nat.zero_le _
theorem parse_error (s : ByteArray) (h : (parseT s).2 ≠ 0) : (parseT s).1 = [] := by
  rw [parseT_run] at h ⊢
  generalize runS (runesAt s 0).1 false 0 [] ⟨#[]⟩ = o at h ⊢
  cases o with
  | none => rfl
  | some x =>
    obtain ⟨a, b, c⟩ := x
    simp only [tellS, finishS] at h ⊢
    split
    · rfl
    · rename_i h1
      rw [if_neg h1] at h
      split
      · rfl
      · rename_i h2
        rw [if_neg h2] at h
        split
        · rename_i h3
          rw [if_pos h3] at h
          exact absurd rfl h
        · rfl
end Go.Proofs.Ytacnjemndfmbhaa.A
end
