/- Plain law: AffixTells. -/
import Derived.Test.YtieipeigjhicfaaA10
namespace Go.Proofs.Ytieipeigjhicfaa.A
open Go.RowKit Go.Proofs.Ytieipeigjhicfaa.Q Go.Proofs.Ytieipeigjhicfaa.R1 Go.Proofs.YtieipeigjhicfaaW.PrintWords Go.Proofs.YtieipeigjhicfaaW.PrintLast
set_option linter.unusedVariables false
set_option linter.unusedSimpArgs false
theorem bytes_wide : ∀ (l : List S32) (b : Int), Texts l 281474976710656 → 0 ≤ b → b + 281474976710656 * l.length ≤ 4611686018427387904 → bytesL l b = b + sumT l
  | [], b, _, _, _ => by show b = b + ((0 : Nat) : Int); omega
  | t :: r, b, ht, h0, h1 => by
    have h2 := ht t (by simp)
    rw [List.length_cons] at h1
    have w : wrap64 (b + t.f2.size) = b + t.f2.size := by unfold wrap64; omega
    rw [bytesL_cons, w, bytes_wide r (b + t.f2.size) (fun u hu => ht u (by simp [hu])) (by omega) (by omega)]
    show _ = b + ((t.f2.size + sumT r : Nat) : Int)
    omega
theorem texts_wide (l : List S32) (hl : Texts l 281474976710656) (h : checkS l = 0) : goodL none l = true ∧ l.length ≤ 64 ∧ sumT l ≤ 64 ∧ Texts l 64 := by
  obtain ⟨h1, h2, h3⟩ := check_zero h
  have := bytes_wide l 0 hl (Int.le_refl _) (by omega)
  exact ⟨h1, h2, by omega, fun t ht => Nat.le_trans (sum_mem l t ht) (by omega)⟩
theorem print_wide (l : List S32) (hl : Texts l 281474976710656) (hb : l.length ≤ 4398046511104) (K : Nat) (hK : 281474976710656 + l.length + 10000 ≤ K) : affix_Print.f K l = some (printT l) ∧ quipuref13_Print.f K l = some (printT l) := by
  have e1 := affixCheck_eq l 281474976710656 (Nat.le_refl _) hl (by omega) K (by omega)
  have e2 := refCheck_eq l 281474976710656 (Nat.le_refl _) hl (by omega) K (by omega)
  unfold affix_Print.f quipuref13_Print.f printT
  rw [e1, e2, Option.bind_some, Option.bind_some]
  by_cases h : checkS l = 0
  · obtain ⟨h1, h2, h3, h4⟩ := texts_wide l hl h
    have hp := print_l l h2 (good_single l none h1) h4 (K - l.length - 1) l.length 0 ⟨#[]⟩ (by omega) (Nat.zero_le _)
    rw [show K - l.length - 1 + l.length + 1 = K by omega, nil_app] at hp
    have hq := refPrint_l l h2 (good_single l none h1) h4 l.length 0 K ⟨#[]⟩ (by omega) (Nat.zero_le _) (by omega)
    rw [nil_app] at hq
    rw [if_pos h, if_pos h, if_pos h]
    exact ⟨hp, hq⟩
  · rw [if_neg h, if_neg h, if_neg h]
    exact ⟨rfl, rfl⟩
theorem refTurn_l (l : List S32) (x y : Int) (hl : l.length < 4398046511104) : ∀ (d i K : Nat), i + d = l.length → d + 1 ≤ K → quipuref13_Turn.l0 K l x y ((l.take i).map (turnTok x y)) (i : Int) = some (l.map (turnTok x y))
  | 0, i, K, hi, hK => by
    obtain ⟨k, rfl⟩ : ∃ k, K = k + 1 := ⟨K - 1, by omega⟩
    simp only [quipuref13_Turn.l0]
    rw [if_neg (by omega), List.take_of_length_le (by omega)]
  | d + 1, i, K, hi, hK => by
    obtain ⟨k, rfl⟩ : ∃ k, K = k + 1 := ⟨K - 1, by omega⟩
    have hlt : i < l.length := by omega
    have W1 := Aside0.mk (show wrap64 ((i : Int) + 1) = ((i + 1 : Nat) : Int) by unfold wrap64; omega)
    have ih := refTurn_l l x y hl d (i + 1) k (by omega) (by omega)
    rw [List.take_succ_eq_append_getElem hlt, List.map_append, List.map_cons, List.map_nil] at ih
    have e1 := rd_get l i hlt
    have c1 : (i : Int) < (l.length : Int) := by omega
    have c2 : (0 : Int) ≤ (i : Int) := by omega
    have c3 : ((l.take i).map (turnTok x y)).length < 4398046511104 := by rw [List.length_map, List.length_take]; omega
    simp only [quipuref13_Turn.l0]
    rw [if_pos c1, if_pos c2, e1, W1.out]
    by_cases h : l[i].f0 = x
    · have ht : turnTok x y l[i] = ⟨y, 0, ⟨#[]⟩⟩ := by unfold turnTok; rw [if_pos h]
      rw [ht] at ih
      rw [if_pos h, if_pos c3, ih]
    · have ht : turnTok x y l[i] = l[i] := by unfold turnTok; rw [if_neg h]
      rw [ht] at ih
      rw [if_neg h, if_pos c3]
      exact ih
theorem refHas_l (l : List S32) (x : Int) (hl : l.length < 4398046511104) : ∀ (d i K : Nat), i + d = l.length → d + 1 ≤ K → quipuref13_Has.l0 K l x (i : Int) = some ((l.drop i).any (fun t => t.f0 == x))
  | 0, i, K, hi, hK => by
    obtain ⟨k, rfl⟩ : ∃ k, K = k + 1 := ⟨K - 1, by omega⟩
    simp only [quipuref13_Has.l0]
    rw [if_neg (by omega), List.drop_eq_nil_of_le (by omega)]
    rfl
  | d + 1, i, K, hi, hK => by
    obtain ⟨k, rfl⟩ : ∃ k, K = k + 1 := ⟨K - 1, by omega⟩
    have hlt : i < l.length := by omega
    have W1 := Aside0.mk (show wrap64 ((i : Int) + 1) = ((i + 1 : Nat) : Int) by unfold wrap64; omega)
    have ih := refHas_l l x hl d (i + 1) k (by omega) (by omega)
    have e1 := rd_get l i hlt
    have c1 : (i : Int) < (l.length : Int) := by omega
    have c2 : (0 : Int) ≤ (i : Int) := by omega
    simp only [quipuref13_Has.l0]
    rw [if_pos c1, if_pos c2, e1, W1.out, ih, List.drop_eq_getElem_cons hlt, List.any_cons]
    by_cases h : l[i].f0 = x
    · rw [if_pos h, beq_iff_eq.mpr h, Bool.true_or]
    · rw [if_neg h, beq_eq_false_iff_ne.mpr h, Bool.false_or]
/-- What the walk of AffixTells asks. -/
theorem AffixTells_true (l : List S32) (x y : Int) (hl : l.length < 4398046511102) (ht : Texts l 281474976710656) : ∃ m s e c b k1 k2 k3 k4 k5 k6 k8 k9 k10, m = l.map (turnTok x y) ∧ affix_Print.f k1 l = some (s, e) ∧ quipuref13_Print.f k2 l = some (s, e) ∧ quipuref13_Turn.f k3 l x y = some m ∧ affix_Check.f k4 l = some c ∧ quipuref13_Check.f k5 l = some c ∧
    quipuref13_Same.f k6 m m = some true ∧ affix_Has.f l x = some b ∧ quipuref13_Has.f k8 l x = some b ∧ quipuref13_Same.f k9 l l = some true ∧ quipulaw13_fixed.f k10 = some true := by
  obtain ⟨K, hK⟩ : ∃ K, 281474976710656 + l.length + 10000 = K := ⟨_, rfl⟩
  obtain ⟨p1, p2⟩ := print_wide l ht (by omega) K (by omega)
  have c1 := affixCheck_eq l 281474976710656 (Nat.le_refl _) ht (by omega) K (by omega)
  have c2 := refCheck_eq l 281474976710656 (Nat.le_refl _) ht (by omega) K (by omega)
  have t1 := refTurn_l l x y (by omega) l.length 0 K (by omega) (by omega)
  have h1 := refHas_l l x (by omega) l.length 0 K (by omega) (by omega)
  have s1 := same_self (l.map (turnTok x y)) (by rw [List.length_map]; omega) K (by rw [List.length_map]; omega)
  have s2 := same_self l (by omega) K (by omega)
  have a1 : affix_Has.f l x = some (l.any (fun t => t.f0 == x)) := by unfold affix_Has.f; rw [if_pos (by omega)]
  exact ⟨l.map (turnTok x y), (printT l).1, (printT l).2, checkS l, l.any (fun t => t.f0 == x), K, K, K, K, K, K, K, K, 200, rfl, p1, p2, t1, c1, c2, s1, a1, h1, s2, fixed200⟩
end Go.Proofs.Ytieipeigjhicfaa.A
