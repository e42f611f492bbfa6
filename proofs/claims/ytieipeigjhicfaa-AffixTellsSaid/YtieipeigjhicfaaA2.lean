/- Plain law: Check of tokens, the program's and the document's. -/
import Derived.Test.YtieipeigjhicfaaA1
namespace Go.Proofs.Ytieipeigjhicfaa.A
open Go.RowKit Go.Proofs.Ytieipeigjhicfaa.Q Go.Proofs.Ytieipeigjhicfaa.R1 Go.Proofs.YtieipeigjhicfaaW.PrintWords Go.Proofs.YtieipeigjhicfaaW.PrintLast
set_option linter.unusedVariables false
/-- May a token be by itself? -/
def singleS (t : S32) : Bool :=
  if t.f0 = 0 then (if t.f2.toList = ([] : List UInt8) then false else if t.f1 = 0 then decide (runesS t.f2 ≥ 0) else false)
  else if t.f0 = 1 ∨ t.f0 = 2 ∨ t.f0 = 3 ∨ t.f0 = 4 then (if t.f2.toList = ([] : List UInt8) then t.f1 == 0 else false)
  else if t.f0 = 5 then (if t.f2.toList = ([] : List UInt8) then (if t.f1 ≥ 1 then decide (t.f1 ≤ 3) else false) else false)
  else false
theorem single_eq (t : S32) (K : Nat) (hK : t.f2.size + 20 ≤ K) (hs : t.f2.size ≤ 281474976710656) : affix_single.f K t.f0 t.f1 t.f2 = some (singleS t) := by
  obtain ⟨k, rfl⟩ : ∃ k, K = t.f2.size + 1 + k + 5 := ⟨K - (t.f2.size + 6), by omega⟩
  have hv := curValid t.f2 hs k
  obtain ⟨m, hm⟩ : ∃ m, t.f2.size + 1 + k + 5 = m + 1 := ⟨_, rfl⟩
  unfold affix_single.f singleS
  rw [hv, Option.bind_some]
  by_cases h0 : t.f0 = 0
  · rw [if_pos h0, if_pos h0]
    repeat' split
    all_goals rfl
  rw [if_neg h0, if_neg h0]
  by_cases h1 : t.f0 = 1
  · rw [if_pos h1, if_pos (.inl h1), hm, h1]
    simp only [affix_single.j0]
    rw [if_pos (by decide)]
    repeat' split
    all_goals rfl
  rw [if_neg h1]
  by_cases h2 : t.f0 = 2
  · rw [if_pos h2, if_pos (.inr (.inl h2)), hm, h2]
    simp only [affix_single.j0]
    rw [if_pos (by decide)]
    repeat' split
    all_goals rfl
  rw [if_neg h2]
  by_cases h3 : t.f0 = 3
  · rw [if_pos h3, if_pos (.inr (.inr (.inl h3))), hm, h3]
    simp only [affix_single.j0]
    rw [if_pos (by decide)]
    repeat' split
    all_goals rfl
  rw [if_neg h3, hm]
  simp only [affix_single.j0]
  by_cases h4 : t.f0 = 4
  · rw [if_pos (show t.f0 = 1 ∨ t.f0 = 2 ∨ t.f0 = 3 ∨ t.f0 = 4 from .inr (.inr (.inr h4))), if_pos (show (t.f0 == 4) = true from beq_iff_eq.mpr h4)]
    repeat' split
    all_goals rfl
  rw [if_neg (show ¬ (t.f0 == 4) = true by simpa using h4), if_neg (show ¬ (t.f0 = 1 ∨ t.f0 = 2 ∨ t.f0 = 3 ∨ t.f0 = 4) by omega)]
  repeat' split
  all_goals rfl
theorem one_eq (t : S32) (K : Nat) (hK : t.f2.size + 20 ≤ K) (hs : t.f2.size ≤ 281474976710656) : quipuref13_one.f K t.f0 t.f1 t.f2 = some (singleS t) := by
  obtain ⟨k, rfl⟩ : ∃ k, K = t.f2.size + 1 + k + 8 := ⟨K - (t.f2.size + 9), by omega⟩
  have hv := refRunes t.f2 hs k
  obtain ⟨m, hm⟩ : ∃ m, t.f2.size + 1 + k + 8 = m + 1 := ⟨_, rfl⟩
  unfold quipuref13_one.f singleS
  rw [hv, Option.bind_some]
  by_cases h0 : t.f0 = 0
  · rw [if_pos h0, if_pos h0]
    repeat' split
    all_goals rfl
  rw [if_neg h0, if_neg h0]
  by_cases h1 : t.f0 = 1
  · rw [if_pos h1, if_pos (.inl h1), hm, h1]
    simp only [quipuref13_one.j0]
    rw [if_pos (by decide)]
    repeat' split
    all_goals rfl
  rw [if_neg h1]
  by_cases h2 : t.f0 = 2
  · rw [if_pos h2, if_pos (.inr (.inl h2)), hm, h2]
    simp only [quipuref13_one.j0]
    rw [if_pos (by decide)]
    repeat' split
    all_goals rfl
  rw [if_neg h2]
  by_cases h3 : t.f0 = 3
  · rw [if_pos h3, if_pos (.inr (.inr (.inl h3))), hm, h3]
    simp only [quipuref13_one.j0]
    rw [if_pos (by decide)]
    repeat' split
    all_goals rfl
  rw [if_neg h3, hm]
  simp only [quipuref13_one.j0]
  by_cases h4 : t.f0 = 4
  · rw [if_pos (show t.f0 = 1 ∨ t.f0 = 2 ∨ t.f0 = 3 ∨ t.f0 = 4 from .inr (.inr (.inr h4))), if_pos (show (t.f0 == 4) = true from beq_iff_eq.mpr h4)]
    repeat' split
    all_goals rfl
  rw [if_neg (show ¬ (t.f0 == 4) = true by simpa using h4), if_neg (show ¬ (t.f0 = 1 ∨ t.f0 = 2 ∨ t.f0 = 3 ∨ t.f0 = 4) by omega)]
  repeat' split
  all_goals rfl
/-- Two tokens one behind the other that may not be. -/
def twice (p : Option S32) (t : S32) : Bool := match p with
  | none => false
  | some q => q.f0 == t.f0 && (t.f0 == 0 || t.f0 == 5)
theorem twice_none (t : S32) : twice none t = false := rfl
theorem twice_eq (q t : S32) (h : q.f0 = t.f0) : twice (some q) t = (t.f0 == 0 || t.f0 == 5) := by
  unfold twice
  simp only [h, beq_self_eq_true, Bool.true_and]
theorem twice_ne (q t : S32) (h : q.f0 ≠ t.f0) : twice (some q) t = false := by
  unfold twice
  simp only [beq_eq_false_iff_ne.mpr h, Bool.false_and]
/-- Check, from a token on. -/
def checkL (n : Nat) : Option S32 → List S32 → Int → Int
  | _, [], b => if (n : Int) > 64 then 132 else if b > 64 then 132 else 0
  | p, t :: r, b => if (twice p t || !singleS t) = true then 131 else checkL n (some t) r (wrap64 (b + t.f2.size))
def prevOf (l : List S32) (i : Nat) : Option S32 := if i = 0 then none else l[i - 1]?
def Texts (l : List S32) (N : Nat) : Prop := ∀ t ∈ l, t.f2.size ≤ N
theorem affixCheck_l (l : List S32) (N : Nat) (hN : N ≤ 281474976710656) (hl : Texts l N) (hb : l.length ≤ 4611686018427387904) (k : Nat) : ∀ (d i : Nat) (b : Int), i + d = l.length →
    affix_Check.l0 (N + 20 + k + d + 1) l b l (l.length : Int) (i : Int) = some (checkL l.length (prevOf l i) (l.drop i) b)
  | 0, i, b, hi => by
    simp only [affix_Check.l0]
    rw [if_neg (by omega), List.drop_eq_nil_of_le (by omega)]
    simp only [checkL]
    repeat' split
    all_goals rfl
  | d + 1, i, b, hi => by
    have hlt : i < l.length := by omega
    have ih := affixCheck_l l N hN hl hb k d (i + 1)
    have w1 : wrap64 ((i : Int) + 1) = ((i + 1 : Nat) : Int) := by unfold wrap64; omega
    have e1 := rd_get l i hlt
    have hs := single_eq l[i] (N + 20 + k + d + 1) (by have := hl _ (List.getElem_mem hlt); omega) (by have := hl _ (List.getElem_mem hlt); omega)
    have hp : prevOf l (i + 1) = some l[i] := by
      unfold prevOf
      rw [if_neg (by omega), Nat.add_sub_cancel, List.getElem?_eq_getElem hlt]
    rw [show N + 20 + k + (d + 1) + 1 = (N + 20 + k + d + 1) + 1 by omega]
    obtain ⟨m, hm⟩ : ∃ m, N + 20 + k + d + 1 = m := ⟨_, rfl⟩
    simp only [hm] at ih hs ⊢
    clear hm
    simp only [affix_Check.l0]
    rw [if_pos (by omega), if_pos (by omega), if_pos (by omega), e1, hs, Option.bind_some, w1, ih _ (by omega), hp, List.drop_eq_getElem_cons hlt]
    simp only [checkL]
    by_cases hz : i = 0
    · subst hz
      rw [if_neg (by decide)]
      have : prevOf l 0 = none := rfl
      rw [this, twice_none, Bool.false_or]
      cases singleS l[0] <;> rfl
    · have hpr : prevOf l i = some (l[i - 1]'(by omega)) := by
        unfold prevOf
        rw [if_neg hz, List.getElem?_eq_getElem (by omega)]
      have w2 : wrap64 ((i : Int) - 1) = ((i - 1 : Nat) : Int) := by unfold wrap64; omega
      rw [if_pos (by omega), w2, if_pos (by omega), if_pos (by omega), rd_get l (i - 1) (by omega), hpr]
      by_cases h : (l[i - 1]'(by omega)).f0 = l[i].f0
      · rw [if_pos h, twice_eq _ _ h]
        by_cases h0 : l[i].f0 = 0
        · rw [if_pos h0, beq_iff_eq.mpr h0]; rfl
        · rw [if_neg h0, beq_eq_false_iff_ne.mpr h0]
          by_cases h5 : l[i].f0 = 5
          · rw [if_pos h5, beq_iff_eq.mpr h5]; rfl
          · rw [if_neg h5, beq_eq_false_iff_ne.mpr h5]
            cases singleS l[i] <;> rfl
      · rw [if_neg h, twice_ne _ _ h]
        cases singleS l[i] <;> rfl
theorem refCheck_l (l : List S32) (N : Nat) (hN : N ≤ 281474976710656) (hl : Texts l N) (hb : l.length ≤ 4611686018427387904) (k : Nat) : ∀ (d i : Nat) (b : Int), i + d = l.length →
    quipuref13_Check.l0 (N + 20 + k + d + 1) l b (i : Int) = some (checkL l.length (prevOf l i) (l.drop i) b)
  | 0, i, b, hi => by
    simp only [quipuref13_Check.l0]
    rw [if_neg (by omega), List.drop_eq_nil_of_le (by omega)]
    simp only [checkL]
    repeat' split
    all_goals rfl
  | d + 1, i, b, hi => by
    have hlt : i < l.length := by omega
    have ih := refCheck_l l N hN hl hb k d (i + 1)
    have w1 : wrap64 ((i : Int) + 1) = ((i + 1 : Nat) : Int) := by unfold wrap64; omega
    have e1 := rd_get l i hlt
    have hs := one_eq l[i] (N + 20 + k + d + 1) (by have := hl _ (List.getElem_mem hlt); omega) (by have := hl _ (List.getElem_mem hlt); omega)
    have hp : prevOf l (i + 1) = some l[i] := by
      unfold prevOf
      rw [if_neg (by omega), Nat.add_sub_cancel, List.getElem?_eq_getElem hlt]
    rw [show N + 20 + k + (d + 1) + 1 = (N + 20 + k + d + 1) + 1 by omega]
    obtain ⟨m, hm⟩ : ∃ m, N + 20 + k + d + 1 = m := ⟨_, rfl⟩
    simp only [hm] at ih hs ⊢
    clear hm
    simp only [quipuref13_Check.l0]
    rw [if_pos (by omega), if_pos (by omega), e1, hs, Option.bind_some, w1, ih _ (by omega), hp, List.drop_eq_getElem_cons hlt]
    simp only [checkL]
    by_cases hz : i = 0
    · subst hz
      rw [if_neg (show ¬ (((0 : Nat) : Int) > 0) by decide)]
      have : prevOf l 0 = none := rfl
      rw [this, twice_none, Bool.false_or]
      cases singleS l[0] <;> rfl
    · have hpr : prevOf l i = some (l[i - 1]'(by omega)) := by
        unfold prevOf
        rw [if_neg hz, List.getElem?_eq_getElem (by omega)]
      have w2 : wrap64 ((i : Int) - 1) = ((i - 1 : Nat) : Int) := by unfold wrap64; omega
      rw [if_pos (show ((i : Int) > 0) by omega), w2, if_pos (show (0 : Int) ≤ ((i - 1 : Nat) : Int) by omega), if_pos (show (((i - 1 : Nat) : Int) < (l.length : Int)) by omega), rd_get l (i - 1) (by omega), hpr]
      cases hsg : singleS l[i]
      · rw [if_neg (by decide), Bool.not_false, Bool.or_true, if_pos rfl]
      · rw [if_pos rfl, Bool.not_true, Bool.or_false]
        by_cases h : (l[i - 1]'(by omega)).f0 = l[i].f0
        · rw [twice_eq _ _ h]
          by_cases h0 : l[i].f0 = 0
          · rw [if_pos h0, if_pos h, beq_iff_eq.mpr h0]; rfl
          · rw [if_neg h0, beq_eq_false_iff_ne.mpr h0]
            by_cases h5 : l[i].f0 = 5
            · rw [if_pos h5, if_pos h, beq_iff_eq.mpr h5]; rfl
            · rw [if_neg h5, beq_eq_false_iff_ne.mpr h5]; rfl
        · rw [twice_ne _ _ h, if_neg h, if_neg (show ¬ (false = true) by decide)]
          repeat' split
          all_goals rfl
def checkS (l : List S32) : Int := checkL l.length none l 0
theorem affixCheck_eq (l : List S32) (N : Nat) (hN : N ≤ 281474976710656) (hl : Texts l N) (hb : l.length ≤ 4611686018427387904) (K : Nat) (hK : N + l.length + 21 ≤ K) : affix_Check.f K l = some (checkS l) := by
  have h := affixCheck_l l N hN hl hb (K - (N + l.length + 21)) l.length 0 0 (by omega)
  rw [show N + 20 + (K - (N + l.length + 21)) + l.length + 1 = K by omega] at h
  exact h
theorem refCheck_eq (l : List S32) (N : Nat) (hN : N ≤ 281474976710656) (hl : Texts l N) (hb : l.length ≤ 4611686018427387904) (K : Nat) (hK : N + l.length + 21 ≤ K) : quipuref13_Check.f K l = some (checkS l) := by
  have h := refCheck_l l N hN hl hb (K - (N + l.length + 21)) l.length 0 0 (by omega)
  rw [show N + 20 + (K - (N + l.length + 21)) + l.length + 1 = K by omega] at h
  exact h
end Go.Proofs.Ytieipeigjhicfaa.A
