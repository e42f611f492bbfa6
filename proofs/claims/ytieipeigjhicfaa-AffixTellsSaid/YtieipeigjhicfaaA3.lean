/- Plain law: what Parse answers, the program's and the document's, told of a text's runes. -/
import Derived.Test.YtieipeigjhicfaaA2
import Derived.Test.YtieipeigjhicfaaQx11
namespace Go.Proofs.Ytieipeigjhicfaa.A
open Go.RowKit Go.Proofs.Ytieipeigjhicfaa.Q Go.Proofs.Ytieipeigjhicfaa.R1 Go.Proofs.YtieipeigjhicfaaW.PrintWords Go.Proofs.YtieipeigjhicfaaW.PrintLast
set_option linter.unusedVariables false
def quoteC (c : ByteArray) : Prop := c.toList = ([39] : List UInt8)
instance (c : ByteArray) : Decidable (quoteC c) := inferInstanceAs (Decidable (c.toList = ([39] : List UInt8)))
def nextQ : List ByteArray → Bool
  | [] => false
  | c :: _ => decide (quoteC c)
def finishS (whole : Bool) (x : Int) (l : List S32) : List S32 × Int :=
  if whole = false then ([], 131) else if x = 1 then ([], 130) else if checkS l = 0 then (l, 0) else ([], checkS l)
/-- Parse, over runes: skip: the second one of two quotes comes; x: 1 inside of quotes; l: tokens; t: the text under way. -/
def parseS (whole : Bool) : List ByteArray → Bool → Int → List S32 → ByteArray → List S32 × Int
  | [], _, x, l, t => finishS whole x (endL l t)
  | c :: cs, true, x, l, t => parseS whole cs false x l (t ++ ⟨#[39]⟩)
  | c :: cs, false, x, l, t =>
    if quoteC c then (if nextQ cs = true then parseS whole cs true x l t else parseS whole cs false (1 - x) l t)
    else if x = 0 then
      (if 0 < kindS c then (if (signL (endL l t) (kindS c)).2 = true then parseS whole cs false x (signL (endL l t) (kindS c)).1 ⟨#[]⟩ else ([], 131))
       else if letB c = true then ([], 131) else parseS whole cs false x l (t ++ c))
    else parseS whole cs false x l (t ++ c)
theorem quote39 (s : ByteArray) (q : Int) (h0 : 0 ≤ q) (h1 : q < s.size) (hb : bt s q = 39) : runeS s q = 1 := by
  have h := runeS_sec s q h0 h1
  rw [hb] at h
  rw [h]
  unfold G
  rw [if_pos (show (sec 39).2.2 ≤ 1 by decide)]
  decide
theorem cut_first (s : ByteArray) (p : Int) (hz : runeS s p ≠ 0) : bt (cut s p) 0 = bt s p := by
  have hr := rune_pos s p hz
  have h := bt_cut s p (runeS s p) 0 (by omega) (by omega) (by omega) (by omega)
  rw [Int.add_zero] at h
  exact h
theorem quoteC_iff (s : ByteArray) (p : Int) (hz : runeS s p ≠ 0) : quoteC (cut s p) ↔ bt s p = 39 := by
  have hr := rune_pos s p hz
  have hs := cut_size s p hz
  have hf := cut_first s p hz
  obtain ⟨b, r, e⟩ := list_of (c := cut s p) (by omega)
  obtain ⟨e1, e2⟩ := bt_first e
  unfold quoteC
  rw [Lib.toList_data, e]
  constructor
  · intro h
    injection h with h _
    rw [← hf, e1, h]
    rfl
  · intro h
    have h1 := quote39 s p (by omega) (by omega) h
    have : r = [] := List.eq_nil_of_length_eq_zero (by omega)
    subst this
    rw [hf, h] at e1
    have hb : b = 39 := by
      apply UInt8.toNat_inj.mp
      have : (b.toNat : Int) = 39 := e1.symm
      have h39 : (39 : UInt8).toNat = 39 := rfl
      omega
    rw [hb]
theorem hasQ_bt (s : ByteArray) (q : Nat) (h : q < s.size) : hasQ (s.extract q s.size) = decide (bt s (q : Int) = 39) := by
  have hl : (s.extract q s.size).data.toList = s.data.toList.drop q := Lib.extract_to_end s q
  have hd : s.data.toList.drop q = s[q] :: s.data.toList.drop (q + 1) := by
    rw [List.drop_eq_getElem_cons (by simpa using h)]
    rfl
  have hb : bt s (q : Int) = (s[q].toNat : Int) := by
    have h1 : (q : Int).toNat < s.size := by omega
    simp only [bt]
    rw [dif_pos h1]
    simp
  unfold hasQ
  rw [hl, hd, hb]
  unfold Lib.hasPrefix
  simp only [List.isPrefixOf, Bool.and_true]
  by_cases c : s[q] = 39
  · rw [c]; rfl
  · have h1 : ((39 : UInt8) == s[q]) = false := beq_eq_false_iff_ne.mpr (fun e => c e.symm)
    rw [h1]
    symm
    apply decide_eq_false
    intro h2
    apply c
    apply UInt8.toNat_inj.mp
    have h39 : (39 : UInt8).toNat = 39 := rfl
    omega
theorem hasQ_next (s : ByteArray) (q : Int) (h0 : 0 ≤ q) (h1 : q ≤ s.size) : hasQ (s.extract q.toNat s.size) = nextQ (runesAt s q).1 := by
  by_cases hlt : q < s.size
  · have hb := hasQ_bt s q.toNat (by omega)
    rw [show ((q.toNat : Nat) : Int) = q by omega] at hb
    rw [hb]
    by_cases hz : runeS s q = 0
    · rw [runesAt_bad s q hlt hz]
      simp only [nextQ]
      apply decide_eq_false
      intro h
      have := quote39 s q h0 hlt h
      omega
    · rw [runesAt_step s q hz]
      simp only [nextQ]
      by_cases hq : quoteC (cut s q)
      · rw [decide_eq_true hq, decide_eq_true ((quoteC_iff s q hz).1 hq)]
      · rw [decide_eq_false hq, decide_eq_false (fun h => hq ((quoteC_iff s q hz).2 h))]
  · rw [runesAt_end s q hlt]
    simp only [nextQ]
    cases hh : hasQ (s.extract q.toNat s.size)
    · rfl
    · have := hasQ_pos s q.toNat hh
      omega
theorem texts_app {l : List S32} {N : Nat} (h : Texts l N) {t : S32} (ht : t.f2.size ≤ N) : Texts (l ++ [t]) N := by
  intro x hx
  rw [List.mem_append, List.mem_singleton] at hx
  rcases hx with hx | rfl
  · exact h x hx
  · exact ht
theorem texts_end {l : List S32} {N : Nat} (h : Texts l N) {t : ByteArray} (ht : t.size ≤ N) : Texts (endL l t) N := by
  unfold endL
  split
  · exact h
  · exact texts_app h ht
theorem texts_sign {l : List S32} {N : Nat} (h : Texts l N) (k : Int) : Texts (signL l k).1 N := by
  unfold signL
  split
  · rename_i c
    intro x hx
    rcases List.mem_or_eq_of_mem_set hx with hx | rfl
    · exact h x hx
    · have : rd_T32 l ((l.length - 1 : Nat) : Int) = l[l.length - 1]'(by omega) := rd_get l (l.length - 1) (by omega)
      rw [this]
      have h2 := h (l[l.length - 1]'(by omega)) (List.getElem_mem (by omega))
      exact h2
  · exact texts_app h (Nat.zero_le _)
/-- The program's way, place by place, is the way over runes. -/
theorem parse_runes (s : ByteArray) (K : Nat) (hs : s.size ≤ 1048576) (hK : 4 * s.size + 100 ≤ K) : ∀ (d : Nat) (x p : Int) (l : List S32) (t : ByteArray), 0 ≤ p → p ≤ s.size → (s.size : Int) - p < d → (x = 0 ∨ x = 1) → Texts l s.size → (l.length : Int) ≤ 2 * p → (t.size : Int) ≤ p →
    parseL s K d x p l t = some (parseS (runesAt s p).2 (runesAt s p).1 false x l t)
  | 0, x, p, l, t, h0, h1, h2, hx, hl, hn, ht => by omega
  | d + 1, x, p, l, t, h0, h1, h2, hx, hl, hn, ht => by
    have hR := curRune s p (by omega) 0
    rw [Nat.zero_add] at hR
    by_cases hlt : p < s.size
    case neg =>
      simp only [parseL]
      rw [if_neg hlt, runesAt_end s p hlt]
      simp only [parseS, finishS]
      rw [if_neg (show ¬ (true = false) by decide)]
      by_cases hx1 : x = 1
      · rw [if_pos hx1, if_pos hx1]
      · rw [if_neg hx1, if_neg hx1, affixCheck_eq (endL l t) s.size (by omega) (texts_end hl (by omega)) (by have := endL_len l t; omega) K (by have := endL_len l t; omega), Option.bind_some]
        split
        · rfl
        · rfl
    by_cases hz : runeS s p = 0
    · simp only [parseL]
      rw [if_pos hlt, hR, Option.bind_some, if_pos hz, runesAt_bad s p hlt hz]
      simp only [parseS, finishS, if_true]
    have hr := rune_pos s p hz
    have ih := fun x' l' t' h1 h2 h3 h4 => parse_runes s K hs hK d x' (p + runeS s p) l' t' (by omega) (by omega) (by omega) h1 h2 h3 h4
    have hcs := cut_size s p hz
    rw [runesAt_step s p hz]
    simp only [parseL]
    rw [if_pos hlt, hR, Option.bind_some, if_neg hz, if_pos (show 0 < runeS s p ∧ p + runeS s p ≤ s.size by omega)]
    rw [show s.extract p.toNat (p + runeS s p).toNat = cut s p from rfl]
    obtain ⟨q, hq⟩ : ∃ q, p + runeS s p = q := ⟨_, rfl⟩
    rw [hq] at ih hr ⊢
    by_cases h39 : (cut s p).toList = ([39] : List UInt8)
    · have hn1 : runeS s p = 1 := by
        have hb := (quoteC_iff s p hz).1 h39
        exact quote39 s p h0 hlt hb
      rw [if_pos h39, hasQ_next s q (by omega) (by omega)]
      simp only [parseS]
      rw [if_pos (show quoteC (cut s p) from h39)]
      by_cases hn2 : nextQ (runesAt s q).1 = true
      · rw [if_pos hn2, if_pos hn2]
        by_cases hlq : q < s.size
        · by_cases hzq : runeS s q = 0
          · rw [runesAt_bad s q hlq hzq] at hn2; exact absurd hn2 (by decide)
          · rw [runesAt_step s q hzq] at hn2 ⊢
            simp only [nextQ] at hn2
            have hb := (quoteC_iff s q hzq).1 (of_decide_eq_true hn2)
            have h1q := quote39 s q (by omega) hlq hb
            rw [h1q]
            simp only [parseS]
            exact parse_runes s K hs hK d x (q + 1) l (t ++ ⟨#[39]⟩) (by omega) (by omega) (by omega) hx hl (by omega) (by rw [ByteArray.size_append]; simp only [show (⟨#[39]⟩ : ByteArray).size = 1 from rfl]; omega)
        · rw [runesAt_end s q hlq] at hn2; exact absurd hn2 (by decide)
      · rw [if_neg hn2, if_neg hn2]
        exact ih (1 - x) l t (by omega) hl (by omega) (by omega)
    · rw [if_neg h39]
      simp only [parseS]
      rw [if_neg (show ¬ quoteC (cut s p) from h39)]
      by_cases hx0 : x = 0
      · rw [if_pos hx0, if_pos hx0, kind_eq, Option.bind_some]
        by_cases hk : 0 < kindS (cut s p)
        · rw [if_pos hk, if_pos hk]
          by_cases hs2 : (signL (endL l t) (kindS (cut s p))).2 = true
          · rw [if_pos hs2, if_pos hs2]
            exact ih x _ ⟨#[]⟩ hx (texts_sign (texts_end hl (by omega)) _) (by have := signL_len (endL l t) (kindS (cut s p)); have := endL_len l t; omega) (by simp only [show (⟨#[]⟩ : ByteArray).size = 0 from rfl]; omega)
          · rw [if_neg hs2, if_neg hs2]
        · rw [if_neg hk, if_neg hk]
          by_cases hlb : letB (cut s p) = true
          · rw [if_pos hlb, if_pos hlb]
          · rw [if_neg hlb, if_neg hlb]
            exact ih x l _ hx hl (by omega) (by rw [ByteArray.size_append]; omega)
      · rw [if_neg hx0, if_neg hx0]
        exact ih x l _ hx hl (by omega) (by rw [ByteArray.size_append]; omega)
/-- What Parse tells of a text. -/
def parseT (s : ByteArray) : List S32 × Int := parseS (runesAt s 0).2 (runesAt s 0).1 false 0 [] ⟨#[]⟩
theorem affixParse_eq (s : ByteArray) (hs : s.size ≤ 1048576) : affix_Parse.f s = some (parseT s) := by
  unfold affix_Parse.f
  rw [if_pos hs]
  obtain ⟨K, hK⟩ : ∃ K, 4 * s.size + 100 = K := ⟨_, rfl⟩
  rw [hK]
  have e1 : (([] : List S32).length : Int) ≤ 2 * 0 := by simp
  have e2 : ((⟨#[]⟩ : ByteArray).size : Int) ≤ 0 := Int.le_refl _
  have h := parse_runes s K hs (by omega) (s.size + 1) 0 0 [] ⟨#[]⟩ (Int.le_refl _) (by omega) (by omega) (.inl rfl) (fun _ h => by simp at h) e1 e2
  rw [h]
  rfl
end Go.Proofs.Ytieipeigjhicfaa.A
