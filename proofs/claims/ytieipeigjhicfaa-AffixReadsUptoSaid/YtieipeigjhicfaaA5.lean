/- Plain law: fixed tells true; AffixTurns tells true. -/
import Derived.Test.YtieipeigjhicfaaA4
import Derived.Test.YtieipeigjhicfaaQx12
namespace Go.Proofs.Ytieipeigjhicfaa.A
open Go.RowKit Go.Proofs.Ytieipeigjhicfaa.Q Go.Proofs.Ytieipeigjhicfaa.R1 Go.Proofs.YtieipeigjhicfaaW.PrintWords Go.Proofs.YtieipeigjhicfaaW.PrintLast
set_option linter.unusedVariables false
set_option maxRecDepth 100000 in
theorem fixed200 : quipulaw13_fixed.f 200 = some true := by decide +kernel
theorem fixed_ge (K : Nat) (h : 200 ≤ K) : quipulaw13_fixed.f K = some true := more (fun k => quipulaw13_fixed.mono k) h fixed200
theorem turn_f0 (x y : Int) (t : S32) : (turnTok x y t).f0 = if t.f0 = x then y else t.f0 := by
  unfold turnTok
  split <;> rfl
theorem any_turn_from (l : List S32) (x y : Int) (h : x ≠ y) : (l.map (turnTok x y)).any (fun t => t.f0 == x) = false := by
  rw [List.any_map, List.any_eq_false]
  intro t _
  simp only [Function.comp, turn_f0]
  split
  · simpa using fun e => h e.symm
  · rename_i c; simpa using c
theorem any_turn_to (l : List S32) (x y : Int) (h : l.any (fun t => t.f0 == x) = true) : (l.map (turnTok x y)).any (fun t => t.f0 == y) = true := by
  rw [List.any_eq_true] at h
  obtain ⟨t, ht, e⟩ := h
  rw [List.any_map, List.any_eq_true]
  refine ⟨t, ht, ?_⟩
  simp only [Function.comp, turn_f0]
  rw [if_pos (by simpa using e)]
  simp
theorem turn_none (l : List S32) (x y : Int) (h : l.any (fun t => t.f0 == x) = false) : l.map (turnTok x y) = l := by
  rw [List.any_eq_false] at h
  conv => rhs; rw [← List.map_id l]
  apply List.map_congr_left
  intro t ht
  unfold turnTok
  rw [if_neg (by simpa using h t ht)]
  rfl
theorem turns_l (l : List S32) (a b : Int) (hl : l.length < 4398046511104) (k : Nat) (hk : 200 ≤ k) : ∀ (d i : Nat), i + d = l.length →
    quipulaw13_AffixTurns.l0 (k + d + 1) l a b (l.map (turnTok a b)) (i : Int) = some true
  | 0, i, hi => by
    have h1 : ∀ m c, m.length < 4398046511104 → affix_Has.f m c = some (m.any (fun t => t.f0 == c)) := fun m c hm => by unfold affix_Has.f; rw [if_pos (by omega)]
    simp only [quipulaw13_AffixTurns.l0]
    rw [if_neg (by omega), h1 _ _ (by rw [List.length_map]; exact hl), Option.bind_some, h1 _ _ hl, Option.bind_some]
    cases ha : l.any (fun t => t.f0 == a)
    · rw [if_neg (by decide), h1 _ _ hl, Option.bind_some, turn_none l a b ha, if_pos (by simp), fixed_ge _ (by omega)]
      rfl
    · rw [if_pos rfl, any_turn_to l a b ha, if_pos (by decide), fixed_ge _ (by omega)]
      rfl
  | d + 1, i, hi => by
    have hlt : i < l.length := by omega
    have ih := turns_l l a b hl k hk d (i + 1) (by omega)
    obtain ⟨m, hm⟩ : ∃ m, k + d + 1 = m := ⟨_, rfl⟩
    rw [show k + (d + 1) + 1 = m + 1 by omega]
    rw [hm] at ih
    have W1 := Aside0.mk (show wrap64 ((i : Int) + 1) = ((i + 1 : Nat) : Int) by unfold wrap64; omega)
    have e1 := rd_get l i hlt
    have e2 : rd_T32 (l.map (turnTok a b)) (i : Int) = turnTok a b l[i] := by
      rw [rd_get _ i (by rw [List.length_map]; exact hlt), List.getElem_map]
    simp only [quipulaw13_AffixTurns.l0]
    rw [if_pos (show ((i : Int) < (l.length : Int)) by omega), if_pos (show (0 : Int) ≤ (i : Int) by omega), e1, e2, if_pos (show ((i : Int) < ((l.map (turnTok a b)).length : Int)) by rw [List.length_map]; omega), W1.out, ih]
    by_cases h : l[i].f0 = a
    · have ht : turnTok a b l[i] = ⟨b, 0, ⟨#[]⟩⟩ := by unfold turnTok; rw [if_pos h]
      have hz : ((⟨#[]⟩ : ByteArray).toList == ([] : List UInt8)) = true := by rw [Lib.toList_data]; rfl
      rw [if_pos h, ht]
      simp only [hz, beq_self_eq_true, Bool.not_true, Bool.or_false]
      rw [if_neg (by decide)]
    · have ht : turnTok a b l[i] = l[i] := by unfold turnTok; rw [if_neg h]
      rw [if_neg h, ht, if_pos (show ((i : Int) < ((l.map (turnTok a b)).length : Int)) by rw [List.length_map]; omega)]
      simp only [beq_self_eq_true, Bool.not_true, Bool.or_false]
      rw [if_neg (by decide)]
theorem AffixTurns_true (l : List S32) (a b : Int) (hl : l.length < 4398046511104) : ∃ K, quipulaw13_AffixTurns.f K l a b = some true := by
  refine ⟨201 + l.length + 1, ?_⟩
  have h := turns_l l a b hl 200 (Nat.le_refl _) l.length 0 (by omega)
  have hj : quipulaw13_AffixTurns.j0 (200 + l.length + 1 + 1) l a b (l.map (turnTok a b)) false = some true := by
    simp only [quipulaw13_AffixTurns.j0]
    rw [if_neg (by decide)]
    exact h
  unfold quipulaw13_AffixTurns.f affix_Turn.f
  rw [if_pos hl, Option.bind_some, if_pos (by rw [List.length_map])]
  rw [show 201 + l.length + 1 = 200 + l.length + 1 + 1 by omega]
  by_cases hab : a = b
  · rw [if_pos hab]; exact hj
  · have hh : affix_Has.f (l.map (turnTok a b)) a = some false := by
      unfold affix_Has.f
      rw [if_pos (by rw [List.length_map]; omega), any_turn_from l a b hab]
    rw [if_neg hab, hh, Option.bind_some]
    exact hj
end Go.Proofs.Ytieipeigjhicfaa.A
