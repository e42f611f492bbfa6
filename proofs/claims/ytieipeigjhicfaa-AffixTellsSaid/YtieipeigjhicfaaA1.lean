/- Plain law: the runes of a text; what affix.Parse reads, told of its runes. -/
import Derived.Test.YtieipeigjhicfaaR3
import Derived.Test.YtieipeigjhicfaaQx9
namespace Go.Proofs.Ytieipeigjhicfaa.A
open Go.RowKit Go.Proofs.Ytieipeigjhicfaa.Q Go.Proofs.Ytieipeigjhicfaa.R1 Go.Proofs.YtieipeigjhicfaaW.PrintWords Go.Proofs.YtieipeigjhicfaaW.PrintLast
set_option linter.unusedVariables false
/-- The rune that begins at a place. -/
def cut (s : ByteArray) (p : Int) : ByteArray := s.extract p.toNat (p + runeS s p).toNat
/-- The runes from a place on; false: they end where none begins. -/
def runesF (s : ByteArray) : Nat → Int → List ByteArray × Bool
  | 0, _ => ([], false)
  | d + 1, p => if p < s.size then (if runeS s p = 0 then ([], false) else (cut s p :: (runesF s d (p + runeS s p)).1, (runesF s d (p + runeS s p)).2)) else ([], true)
theorem rune_pos (s : ByteArray) (p : Int) (h : runeS s p ≠ 0) : 1 ≤ runeS s p ∧ runeS s p ≤ 4 ∧ 0 ≤ p ∧ p + runeS s p ≤ s.size := by
  have h0 := runeS_range s p
  have h1 := runeS_in s p h
  omega
theorem runesF_fuel (s : ByteArray) : ∀ (f g : Nat) (p : Int), 0 ≤ p → p ≤ s.size → (s.size : Int) - p < f → f ≤ g → runesF s g p = runesF s f p
  | 0, g, p, h0, h1, h2, h3 => by omega
  | f + 1, g, p, h0, h1, h2, h3 => by
    obtain ⟨g', rfl⟩ : ∃ g', g = g' + 1 := ⟨g - 1, by omega⟩
    simp only [runesF]
    by_cases hlt : p < s.size
    · rw [if_pos hlt, if_pos hlt]
      by_cases hz : runeS s p = 0
      · rw [if_pos hz, if_pos hz]
      · have hr := rune_pos s p hz
        rw [if_neg hz, if_neg hz, runesF_fuel s f g' (p + runeS s p) (by omega) (by omega) (by omega) (by omega)]
    · rw [if_neg hlt, if_neg hlt]
def runesAt (s : ByteArray) (p : Int) : List ByteArray × Bool := runesF s (((s.size : Int) - p).toNat + 1) p
theorem runesAt_end (s : ByteArray) (p : Int) (h : ¬ p < s.size) : runesAt s p = ([], true) := by
  unfold runesAt
  simp only [runesF]
  rw [if_neg h]
theorem runesAt_bad (s : ByteArray) (p : Int) (h : p < s.size) (hz : runeS s p = 0) : runesAt s p = ([], false) := by
  unfold runesAt
  simp only [runesF]
  rw [if_pos h, if_pos hz]
theorem runesAt_step (s : ByteArray) (p : Int) (hz : runeS s p ≠ 0) : runesAt s p = (cut s p :: (runesAt s (p + runeS s p)).1, (runesAt s (p + runeS s p)).2) := by
  have hr := rune_pos s p hz
  have e : runesF s ((s.size : Int) - p).toNat (p + runeS s p) = runesAt s (p + runeS s p) := by
    unfold runesAt
    exact runesF_fuel s _ _ _ (by omega) (by omega) (by omega) (by omega)
  rw [← e]
  unfold runesAt
  simp only [runesF]
  rw [if_pos (by omega), if_neg hz]
theorem cut_size (s : ByteArray) (p : Int) (hz : runeS s p ≠ 0) : ((cut s p).size : Int) = runeS s p := by
  have hr := rune_pos s p hz
  exact size_cut s p (runeS s p) (by omega) (by omega) (by omega)
/-- A whole rune. -/
def IsRune (c : ByteArray) : Prop := runeS c 0 = c.size ∧ c.size ≠ 0
theorem cut_rune (s : ByteArray) (p : Int) (hz : runeS s p ≠ 0) : IsRune (cut s p) := by
  have hr := rune_pos s p hz
  have h := runeS_cut s p (runeS s p) hz (by omega) (Int.le_refl _)
  rw [if_pos rfl] at h
  have hs := cut_size s p hz
  exact ⟨by rw [hs]; exact h, by omega⟩
theorem runesAt_runes (s : ByteArray) : ∀ (d : Nat) (p : Int), 0 ≤ p → p ≤ s.size → (s.size : Int) - p ≤ d → ∀ c ∈ (runesAt s p).1, IsRune c
  | d, p, h0, h1, h2 => by
    intro c hc
    by_cases hlt : p < s.size
    · by_cases hz : runeS s p = 0
      · rw [runesAt_bad s p hlt hz] at hc; simp at hc
      · have hr := rune_pos s p hz
        rw [runesAt_step s p hz] at hc
        simp only [List.mem_cons] at hc
        rcases hc with rfl | hc
        · exact cut_rune s p hz
        · obtain ⟨d', rfl⟩ : ∃ d', d = d' + 1 := ⟨d - 1, by omega⟩
          exact runesAt_runes s d' (p + runeS s p) (by omega) (by omega) (by omega) c hc
    · rw [runesAt_end s p hlt] at hc; simp at hc
theorem bt_first {c : ByteArray} {b : UInt8} {r : List UInt8} (h : c.data.toList = b :: r) : bt c 0 = b.toNat ∧ (c.size : Int) = r.length + 1 := by
  have hs : c.size = r.length + 1 := by
    have := congrArg List.length h
    simpa using this
  refine ⟨?_, by omega⟩
  simp only [bt]
  have h0 : (0 : Int).toNat < c.size := by omega
  rw [dif_pos h0]
  have e : c.data.toList[(0 : Int).toNat]? = some b := by rw [h]; rfl
  rw [Array.getElem?_toList] at e
  have e2 : c.data[(0 : Int).toNat]? = some (c[(0 : Int).toNat]'h0) := by
    exact Array.getElem?_eq_getElem (by simpa using h0)
  rw [e2] at e
  injection e with e
  rw [e]
theorem list_of {c : ByteArray} (h : c.size ≠ 0) : ∃ b r, c.data.toList = b :: r := by
  cases hc : c.data.toList with
  | nil =>
    exfalso
    have := congrArg List.length hc
    rw [show c.data.toList.length = c.size by simp] at this
    exact h this
  | cons b r => exact ⟨b, r, rfl⟩
/-- A rune is one byte below 128, or begins with one above. -/
theorem rune_first {c : ByteArray} (h : IsRune c) : (∃ b, c.data.toList = [b] ∧ b.toNat < 128) ∨ ∃ b r, c.data.toList = b :: r ∧ 194 ≤ b.toNat ∧ r ≠ [] := by
  obtain ⟨h0, h1⟩ := h
  obtain ⟨b, r, e⟩ := list_of h1
  obtain ⟨e1, e2⟩ := bt_first e
  have hf := runeS_form c 0 (by omega)
  rw [e1] at hf
  have hlt : b.toNat < 256 := b.toNat_lt
  rw [h0, e2] at hf
  by_cases c1 : b.toNat < 128
  · left
    have : (sec (b.toNat : Int)).2.2 = 1 := by unfold sec; rw [if_pos (by omega)]
    rw [this] at hf
    have : r = [] := List.eq_nil_of_length_eq_zero (by omega)
    subst this
    exact ⟨b, e, c1⟩
  · right
    by_cases c2 : b.toNat < 194
    · exfalso
      have : (sec (b.toNat : Int)).2.2 = 0 := by unfold sec; rw [if_neg (by omega), if_pos (by omega)]
      omega
    · refine ⟨b, r, e, by omega, ?_⟩
      rintro rfl
      have hge : 2 ≤ (sec (b.toNat : Int)).2.2 ∨ (sec (b.toNat : Int)).2.2 = 0 := by
        unfold sec
        rw [if_neg (by omega), if_neg (by omega)]
        (repeat' split) <;> simp
      simp at hf
      omega
def LETTERS : List UInt8 := [48, 49, 50, 51, 52, 53, 54, 55, 56, 57, 35, 64, 44, 46, 59, 42]
theorem no_contains (sub : List UInt8) (b : UInt8) (r : List UInt8) (h : sub = b :: r) (L : List UInt8) (hL : b ∉ L) : Lib.contains L sub = false := by
  subst h
  have : Lib.index L (b :: r) = -1 := by
    apply Lib.index_none
    intro j _
    unfold Lib.occAt
    cases hd : L.drop j with
    | nil => rfl
    | cons x y =>
      have hx : x ∈ L := List.mem_of_mem_drop (by rw [hd]; exact List.mem_cons_self)
      have : (b == x) = false := beq_eq_false_iff_ne.mpr (fun e => hL (e ▸ hx))
      simp [List.isPrefixOf, this]
  unfold Lib.contains
  rw [this]
  rfl
theorem bytes_of (c : ByteArray) (l : List UInt8) (h : c.data.toList = l) : c = ⟨l.toArray⟩ := by
  cases c with
  | mk d =>
    cases d with
    | mk x => subst h; rfl
theorem letter_one : ∀ n : Fin 256, quipuref13_Letter.f ⟨#[UInt8.ofNat n]⟩ = some (letB ⟨#[UInt8.ofNat n]⟩) := by decide +kernel
theorem letter_eq {c : ByteArray} (h : IsRune c) : quipuref13_Letter.f c = some (letB c) := by
  rcases rune_first h with ⟨b, e, _⟩ | ⟨b, r, e, h1, h2⟩
  · have hc := bytes_of c _ e
    have := letter_one ⟨b.toNat, b.toNat_lt⟩
    simp only [UInt8.ofNat_toNat] at this
    rw [hc]
    exact this
  · obtain ⟨_, e2⟩ := bt_first e
    have hr : 0 < r.length := List.length_pos_iff.2 h2
    unfold quipuref13_Letter.f
    rw [if_neg (by omega)]
    unfold letB
    rw [no_contains _ b r e _ (by
      intro hm
      have : ∀ x ∈ ([48, 49, 50, 51, 52, 53, 54, 55, 56, 57, 35, 64, 44, 46, 59, 42] : List UInt8), x.toNat < 194 := by decide
      have := this b hm
      omega)]
def kindS (c : ByteArray) : Int := if c.toList = ([45] : List UInt8) then 1 else if c.toList = ([43] : List UInt8) then 2 else if c.toList = ([37] : List UInt8) then 3 else if c.toList = ([226, 128, 176] : List UInt8) then 4 else if c.toList = ([194, 164] : List UInt8) then 5 else 0
theorem kind_eq (c : ByteArray) : affix_kind.f c = some (kindS c) := by
  unfold affix_kind.f kindS
  repeat' split
  all_goals rfl
theorem sign_eq (c : ByteArray) : quipuref13_Sign.f c = some (kindS c) := by
  unfold quipuref13_Sign.f kindS
  repeat' split
  all_goals rfl
theorem kind_range (c : ByteArray) : 0 ≤ kindS c ∧ kindS c ≤ 5 := by
  unfold kindS
  repeat' split
  all_goals decide
end Go.Proofs.Ytieipeigjhicfaa.A
