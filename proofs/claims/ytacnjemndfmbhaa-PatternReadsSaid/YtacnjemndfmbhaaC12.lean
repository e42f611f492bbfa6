import Derived.Test.YtacnjemndfmbhaaC6
import Derived.Test.YtacnjemndfmbhaaC8
import Derived.Test.YtacnjemndfmbhaaC11
namespace Go.Proofs.Ytacnjemndfmbhaa
open Go.RowKit
theorem aP124 {p : Prop} (h : p := by first | exact HQ.out | exact HQ.out.drew1 | exact HQ.out.drewN _) : p := h
theorem aP123 {p : Prop} (h : p := by unfold leastS mx; (repeat' split) <;> omega) : p := h
theorem aP54 {p : Prop} (h : p := by
    by_cases c0 : l[i].f0 = 0
    · rw [if_pos c0] at hb ⊢
      rw [if_pos c0, hr, Option.bind_some, wr2 (by omega) (by omega), ih _ (by omega) (by omega)]
      congr 1; omega
    · rw [if_neg c0] at hb ⊢
      rw [if_neg c0]
      by_cases c5 : l[i].f0 = 5
      · rw [if_pos c5] at hb ⊢
        rw [if_pos c5, wr2 (by omega) (by omega), ih _ (by omega) (by omega)]
        congr 1; omega
      · rw [if_neg c5] at hb ⊢
        rw [if_neg c5, wr2 (by omega) (by omega), ih _ (by omega) (by omega)]
        congr 1; omega) : p := h
theorem aP122 {p : Prop} (h : p := by unfold tokR; rw [if_neg (by omega), if_neg (by omega)]) : p := h
theorem aP53 {p : Prop} (h : p := by
    unfold Rows_ at h ⊢
    cases bare
    · simp only [Bool.false_eq_true, if_false] at h ⊢
      obtain ⟨x, hx, hn⟩ := h
      exact ⟨x, by simp [hx], hn⟩
    · simp only [if_true] at h ⊢
      intro x hx
      rw [List.mem_append, List.mem_singleton] at hx
      rcases hx with hx | rfl
      · exact h x hx
      · exact hq) : p := h
end Go.Proofs.Ytacnjemndfmbhaa
section
namespace Go.Proofs.Ytacnjemndfmbhaa.A
open Go.RowKit Go.Proofs.Ytacnjemndfmbhaa.Q Go.Proofs.Ytacnjemndfmbhaa.R1 Go.Proofs.YtacnjemndfmbhaaW.PrintWords Go.Proofs.YtacnjemndfmbhaaW.PrintLast
set_option linter.unusedVariables false
def quoteC (c : ByteArray) : Prop := c.toList = ([39] : List UInt8)
instance (c : ByteArray) : Decidable (quoteC c) := inferInstanceAs (Decidable (c.toList = ([39] : List UInt8)))
def nextQ : List ByteArray → Bool
 | [] => false
 | c :: _ => decide (quoteC c)
def finishS (whole : Bool) (x : Int) (l : List S53) : List S53 × Int :=
 if whole = false then ([], 131) else if x = 1 then ([], 130) else if checkS l = 0 then (l, 0) else ([], checkS l)
def parseS (whole : Bool) : List ByteArray → Bool → Int → List S53 → ByteArray → List S53 × Int
 | [], _, x, l, t => finishS whole x (endL l t)
 | c :: cs, true, x, l, t => parseS whole cs false x l (t ++ ⟨#[39]⟩)
 | c :: cs, false, x, l, t =>
  if quoteC c then (if nextQ cs = true then parseS whole cs true x l t else parseS whole cs false (1 - x) l t)
  else if x = 0 then
   (if 0 < kindS c then (if (signL (endL l t) (kindS c)).2 = true then parseS whole cs false x (signL (endL l t) (kindS c)).1 ⟨#[]⟩ else ([], 131))
    else if letB c = true then ([], 131) else parseS whole cs false x l (t ++ c))
  else parseS whole cs false x l (t ++ c)
theorem quote39 (s : ByteArray) (q : Int) (h0 : 0 ≤ q) (h1 : q < s.size) (hb : bt s q = 39) : runeS s q = 1 := by
 have h := runeS_sec s q h0 h1
 rw [hb] at h
 rw [h]
 unfold G
 rw [if_pos (show (sec 39).2.2 ≤ 1 by decide)]
 decide
theorem cut_first (s : ByteArray) (p : Int) (hz : runeS s p ≠ 0) : bt (cut s p) 0 = bt s p := by
 have hr := rune_pos s p hz
 have h := bt_cut s p (runeS s p) 0 (by omega) (by omega) (by omega) (by omega)
 rw [Int.add_zero] at h
 exact h
theorem quoteC_iff (s : ByteArray) (p : Int) (hz : runeS s p ≠ 0) : quoteC (cut s p) ↔ bt s p = 39 := by
 have hr := rune_pos s p hz
 have hs := cut_size s p hz
 have hf := cut_first s p hz
 obtain ⟨b, r, e⟩ := list_of (c := cut s p) (by omega)
 obtain ⟨e1, e2⟩ := bt_first e
 unfold quoteC
 rw [Lib.toList_data, e]
 constructor
 ·intro h
  injection h with h _
  rw [← hf, e1, h]
  rfl
 ·intro h
  have h1 := quote39 s p (by omega) (by omega) h
  have : r = [] := List.eq_nil_of_length_eq_zero (by omega)
  subst this
  rw [hf, h] at e1
  have hb : b = 39 := by
   apply UInt8.toNat_inj.mp
   have : (b.toNat : Int) = 39 := e1.symm
   have h39 : (39 : UInt8).toNat = 39 := rfl
   omega
  rw [hb]
theorem hasQ_bt (s : ByteArray) (q : Nat) (h : q < s.size) : hasQ (s.extract q s.size) = decide (bt s (q : Int) = 39) := by
 have hl : (s.extract q s.size).data.toList = s.data.toList.drop q := Lib.extract_to_end s q
 have hd : s.data.toList.drop q = s[q] :: s.data.toList.drop (q + 1) := by
  rw [List.drop_eq_getElem_cons (by simpa using h)]
  rfl
 have hb : bt s (q : Int) = (s[q].toNat : Int) := by
  have h1 : (q : Int).toNat < s.size := by omega
  simp only [bt]
  rw [dif_pos h1]
  simp
 unfold hasQ
 rw [hl, hd, hb]
 unfold Lib.hasPrefix
 simp only [List.isPrefixOf, Bool.and_true]
 by_cases c : s[q] = 39
 ·rw [c]; rfl
 ·have h1 : ((39 : UInt8) == s[q]) = false := beF (fun e => c e.symm)
  rw [h1]
  symm
  apply dFa
  intro h2
  apply c
  apply UInt8.toNat_inj.mp
  have h39 : (39 : UInt8).toNat = 39 := rfl
  omega
theorem hasQ_next (s : ByteArray) (q : Int) (h0 : 0 ≤ q) (h1 : q ≤ s.size) : hasQ (s.extract q.toNat s.size) = nextQ (runesAt s q).1 := by
 by_cases hlt : q < s.size
 ·have hb := hasQ_bt s q.toNat (by omega)
  rw [show ((q.toNat : Nat) : Int) = q by omega] at hb
  rw [hb]
  by_cases hz : runeS s q = 0
  ·rw [runesAt_bad s q hlt hz]
   simp only [nextQ]
   apply dFa
   intro h
   have := quote39 s q h0 hlt h
   omega
  ·rw [runesAt_step s q hz]
   simp only [nextQ]
   by_cases hq : quoteC (cut s q)
   ·rw [dTr hq, dTr ((quoteC_iff s q hz).1 hq)]
   ·rw [dFa hq, dFa (fun h => hq ((quoteC_iff s q hz).2 h))]
 ·rw [runesAt_end s q hlt]
  simp only [nextQ]
  cases hh : hasQ (s.extract q.toNat s.size)
  ·rfl
  ·have := hasQ_pos s q.toNat hh
   omega
theorem texts_app {l : List S53} {N : Nat} (h : Texts l N) {t : S53} (ht : t.f2.size ≤ N) : Texts (l ++ [t]) N := by
 intro x hx
 rw [List.mem_append, List.mem_singleton] at hx
 rcases hx with hx | rfl
 ·exact h x hx
 ·exact ht
theorem texts_end {l : List S53} {N : Nat} (h : Texts l N) {t : ByteArray} (ht : t.size ≤ N) : Texts (endL l t) N := by
 unfold endL
 split
 ·exact h
 ·exact texts_app h ht
theorem texts_sign {l : List S53} {N : Nat} (h : Texts l N) (k : Int) : Texts (signL l k).1 N := by
 unfold signL
 split
 ·rename_i c
  intro x hx
  rcases List.mem_or_eq_of_mem_set hx with hx | rfl
  ·exact h x hx
  ·have : rd_T53 l ((l.length - 1 : Nat) : Int) = l[l.length - 1]'(by omega) := rd_get l (l.length - 1) (by omega)
   rw [this]
   have h2 := h (l[l.length - 1]'(by omega)) (List.getElem_mem (by omega))
   exact h2
 ·exact texts_app h (Nat.zero_le _)
theorem parse_runes (s : ByteArray) (K : Nat) (hs : s.size ≤ 1048576) (hK : 4 * s.size + 100 ≤ K) : ∀ (d : Nat) (x p : Int) (l : List S53) (t : ByteArray), 0 ≤ p → p ≤ s.size → (s.size : Int) - p < d → (x = 0 ∨ x = 1) → Texts l s.size → (l.length : Int) ≤ 2 * p → (t.size : Int) ≤ p →
  parseL s K d x p l t = some (parseS (runesAt s p).2 (runesAt s p).1 false x l t)
 | 0, x, p, l, t, h0, h1, h2, hx, hl, hn, ht => by omega
 | d + 1, x, p, l, t, h0, h1, h2, hx, hl, hn, ht => by
  have hR := curRune s p (by omega) 0
  rw [Nat.zero_add] at hR
  by_cases hlt : p < s.size
  case neg =>
   simp only [parseL]
   rw [if_neg hlt, runesAt_end s p hlt]
   simp only [parseS, finishS]
   rw [if_neg (show ¬ (true = false) by decide)]
   by_cases hx1 : x = 1
   ·rw [if_pos hx1, if_pos hx1]
   ·rw [if_neg hx1, if_neg hx1, affixCheck_eq (endL l t) s.size (by omega) (texts_end hl (by omega)) (by have := endL_len l t; omega) K (by have := endL_len l t; omega), Option.bind_some]
    split
    ·rfl
    ·rfl
  by_cases hz : runeS s p = 0
  ·simp only [parseL]
   rw [if_pos hlt, hR, Option.bind_some, if_pos hz, runesAt_bad s p hlt hz]
   simp only [parseS, finishS, if_true]
  have hr := rune_pos s p hz
  have ih := fun x' l' t' h1 h2 h3 h4 => parse_runes s K hs hK d x' (p + runeS s p) l' t' (by omega) (by omega) (by omega) h1 h2 h3 h4
  have hcs := cut_size s p hz
  rw [runesAt_step s p hz]
  simp only [parseL]
  rw [if_pos hlt, hR, Option.bind_some, if_neg hz, if_pos (show 0 < runeS s p ∧ p + runeS s p ≤ s.size by omega)]
  rw [show s.extract p.toNat (p + runeS s p).toNat = cut s p from rfl]
  obtain ⟨q, hq⟩ : ∃ q, p + runeS s p = q := ⟨_, rfl⟩
  rw [hq] at ih hr ⊢
  by_cases h39 : (cut s p).toList = ([39] : List UInt8)
  ·have hn1 : runeS s p = 1 := by
    have hb := (quoteC_iff s p hz).1 h39
    exact quote39 s p h0 hlt hb
   rw [if_pos h39, hasQ_next s q (by omega) (by omega)]
   simp only [parseS]
   rw [if_pos (show quoteC (cut s p) from h39)]
   by_cases hn2 : nextQ (runesAt s q).1 = true
   ·rw [if_pos hn2, if_pos hn2]
    by_cases hlq : q < s.size
    ·by_cases hzq : runeS s q = 0
     ·rw [runesAt_bad s q hlq hzq] at hn2; exact absurd hn2 (by decide)
     ·rw [runesAt_step s q hzq] at hn2 ⊢
      simp only [nextQ] at hn2
      have hb := (quoteC_iff s q hzq).1 (of_decide_eq_true hn2)
      have h1q := quote39 s q (by omega) hlq hb
      rw [h1q]
      simp only [parseS]
      exact parse_runes s K hs hK d x (q + 1) l (t ++ ⟨#[39]⟩) (by omega) (by omega) (by omega) hx hl (by omega) (by rw [ByteArray.size_append]; simp only [show (⟨#[39]⟩ : ByteArray).size = 1 from rfl]; omega)
    ·rw [runesAt_end s q hlq] at hn2; exact absurd hn2 (by decide)
   ·rw [if_neg hn2, if_neg hn2]
    exact ih (1 - x) l t (by omega) hl (by omega) (by omega)
  ·rw [if_neg h39]
   simp only [parseS]
   rw [if_neg (show ¬ quoteC (cut s p) from h39)]
   by_cases hx0 : x = 0
   ·rw [if_pos hx0, if_pos hx0, kind_eq, Option.bind_some]
    by_cases hk : 0 < kindS (cut s p)
    ·rw [if_pos hk, if_pos hk]
     by_cases hs2 : (signL (endL l t) (kindS (cut s p))).2 = true
     ·rw [if_pos hs2, if_pos hs2]
      exact ih x _ ⟨#[]⟩ hx (texts_sign (texts_end hl (by omega)) _) (by have := signL_len (endL l t) (kindS (cut s p)); have := endL_len l t; omega) (by simp only [show (⟨#[]⟩ : ByteArray).size = 0 from rfl]; omega)
     ·rw [if_neg hs2, if_neg hs2]
    ·rw [if_neg hk, if_neg hk]
     by_cases hlb : letB (cut s p) = true
     ·rw [if_pos hlb, if_pos hlb]
     ·rw [if_neg hlb, if_neg hlb]
      exact ih x l _ hx hl (by omega) (aP121)
   ·rw [if_neg hx0, if_neg hx0]
    exact ih x l _ hx hl (by omega) (aP121)
def parseT (s : ByteArray) : List S53 × Int := parseS (runesAt s 0).2 (runesAt s 0).1 false 0 [] ⟨#[]⟩
theorem affixParse_eq (s : ByteArray) (hs : s.size ≤ 1048576) : affix_Parse.f s = some (parseT s) := by
 unfold affix_Parse.f
 rw [if_pos hs]
 obtain ⟨K, hK⟩ : ∃ K, 4 * s.size + 100 = K := ⟨_, rfl⟩
 rw [hK]
 have e1 : (([] : List S53).length : Int) ≤ 2 * 0 := by simp
 have e2 : ((⟨#[]⟩ : ByteArray).size : Int) ≤ 0 := Int.le_refl _
 have h := parse_runes s K hs (by omega) (s.size + 1) 0 0 [] ⟨#[]⟩ (Int.le_refl _) (by omega) (by omega) (.inl rfl) (fun _ h => by simp at h) e1 e2
 rw [h]
 rfl
theorem refRunes_l (s : ByteArray) (hs : s.size ≤ 1048576) (k : Nat) : ∀ (d : Nat) (p : Int) (acc : List ByteArray), 0 ≤ p → p ≤ s.size → (s.size : Int) - p < d → (acc.length : Int) ≤ p →
  quipuref13_Runes.l0 (k + 8 + d) s acc p = some (acc ++ (runesAt s p).1, (runesAt s p).2)
 | 0, p, acc, h0, h1, h2, h3 => by omega
 | d + 1, p, acc, h0, h1, h2, h3 => by
  obtain ⟨m, hm⟩ : ∃ m, k + 8 + d = m := ⟨_, rfl⟩
  have hR := refRune s p (by omega) (k + d)
  rw [show k + d + 8 = m by omega] at hR
  have ih := fun q a => refRunes_l s hs k d q a
  simp only [hm] at ih
  rw [show k + 8 + (d + 1) = m + 1 by omega]
  simp only [quipuref13_Runes.l0]
  by_cases hlt : p < s.size
  ·rw [if_pos hlt, hR, Option.bind_some]
   by_cases hz : runeS s p = 0
   ·rw [if_pos hz, runesAt_bad s p hlt hz, List.append_nil]
   ·have hr := rune_pos s p hz
    have w1 : wrap64 (p + runeS s p) = p + runeS s p := by unfold wrap64; omega
    rw [if_neg hz, w1, if_pos h0, if_pos (by omega), if_pos (by omega), if_pos (by omega), ih _ _ (by omega) (by omega) (by omega) (by rw [List.length_append]; simp; omega), runesAt_step s p hz]
    simp only [List.append_assoc, List.singleton_append]
    rfl
  ·rw [if_neg hlt, runesAt_end s p hlt, List.append_nil]
theorem refRunesT (s : ByteArray) (hs : s.size ≤ 1048576) (K : Nat) (hK : s.size + 9 ≤ K) : quipuref13_Runes.f K s = some (runesAt s 0) := by
 have h := refRunes_l s hs (K - (s.size + 9)) (s.size + 1) 0 [] (Int.le_refl _) (by omega) (by omega) (by simp)
 rw [show K - (s.size + 9) + 8 + (s.size + 1) = K by omega] at h
 unfold quipuref13_Runes.f
 rw [h, List.nil_append]
def LastNT (l : List S53) : Prop := 0 < l.length → (rd_T53 l ((l.length - 1 : Nat) : Int)).f0 ≠ 0
theorem nil_of (t : ByteArray) (h : t.toList = ([] : List UInt8)) : t = ⟨#[]⟩ := by
 rw [Lib.toList_data] at h
 exact bytes_of t [] h
theorem app_ne (t c : ByteArray) (hc : c.size ≠ 0) : (t ++ c).toList ≠ ([] : List UInt8) := by
 intro h
 have := nil_of _ h
 have h2 := congrArg ByteArray.size this
 rw [ByteArray.size_append] at h2
 simp only [show (⟨#[]⟩ : ByteArray).size = 0 from rfl] at h2
 omega
theorem bytes_inj {a b : ByteArray} (h : a.data.toList = b.data.toList) : a = b := by
 rw [bytes_of a _ h, ← bytes_of b _ rfl]
theorem empty_app (c : ByteArray) : (⟨#[]⟩ : ByteArray) ++ c = c := by
 apply bytes_inj
 simp
theorem with_eq (l : List S53) (t c : ByteArray) (hc : c.size ≠ 0) (hl : LastNT l) (hn : l.length < 4398046511104) (ht : t.size + c.size ≤ 9223372036854775807) : quipuref13_with.f (endL l t) c = some (endL l (t ++ c)) := by
 have hne := app_ne t c hc
 have e2 : endL l (t ++ c) = l ++ [⟨0, 0, t ++ c⟩] := by unfold endL; rw [if_neg hne]
 rw [e2]
 by_cases htz : t.toList = ([] : List UInt8)
 ·have e1 : endL l t = l := by unfold endL; rw [if_pos htz]
  rw [e1, nil_of t htz, empty_app]
  unfold quipuref13_with.f
  by_cases hz : 0 < l.length
  ·have w1 : wrap64 ((l.length : Int) - 1) = ((l.length - 1 : Nat) : Int) := by unfold wrap64; omega
   rw [if_pos (by omega), w1, if_pos (by omega), if_pos (by omega), if_neg (hl hz), if_pos hn]
  ·rw [if_neg (by omega), if_pos hn]
 ·have e1 : endL l t = l ++ [⟨0, 0, t⟩] := by unfold endL; rw [if_neg htz]
  have hlen : (l ++ [(⟨0, 0, t⟩ : S53)]).length = l.length + 1 := by simp
  have w1 : wrap64 (((l ++ [(⟨0, 0, t⟩ : S53)]).length : Int) - 1) = ((l.length : Nat) : Int) := by rw [hlen]; unfold wrap64; omega
  have hg : rd_T53 (l ++ [(⟨0, 0, t⟩ : S53)]) (l.length : Int) = ⟨0, 0, t⟩ := by
   rw [rd_get _ l.length (by rw [hlen]; omega)]
   simp
  rw [e1]
  unfold quipuref13_with.f
  rw [if_pos (by rw [hlen]; omega), w1, if_pos (by omega), if_pos (by rw [hlen]; omega), hg, if_pos rfl, if_pos ht, Int.toNat_natCast]
  congr 1
  rw [List.set_append_right _ _ (Nat.le_refl _), Nat.sub_self, List.set_cons_zero]
theorem signed_eq (L : List S53) (kd : Int) (k : Nat) (hn : L.length < 4398046511104) : quipuref13_signed.f (k + 1) L kd = some (signL L kd) := by
 have w1 : 0 < L.length → wrap64 ((L.length : Int) - 1) = ((L.length - 1 : Nat) : Int) := fun h => by unfold wrap64; omega
 have app : quipuref13_signed.j0 (k + 1) L kd (L.length : Int) false = some (L ++ [⟨kd, if kd = 5 then 1 else 0, ⟨#[]⟩⟩], true) := by
  simp only [quipuref13_signed.j0]
  rw [if_neg (by decide)]
  by_cases h5 : kd = 5
  ·rw [if_pos h5, if_pos hn, if_pos h5]
  ·rw [if_neg h5, if_pos hn, if_neg h5]
 unfold quipuref13_signed.f signL
 by_cases h5 : kd = 5
 ·rw [if_pos h5]
  by_cases hz : 0 < L.length
  ·rw [if_pos (by omega), w1 hz, if_pos (by omega), if_pos (by omega)]
   by_cases hf : (rd_T53 L ((L.length - 1 : Nat) : Int)).f0 = 5
   ·rw [if_pos ⟨h5, hz, hf⟩, beT hf]
    simp only [quipuref13_signed.j0]
    rw [if_pos trivial, w1 hz, if_pos (by omega), if_pos (by omega), Option.bind_some, Int.toNat_natCast]
    congr 2
    rw [rd_get _ (L.length - 1) (by rw [List.length_set]; omega)]
    simp
   ·rw [if_neg (fun h => hf h.2.2), beF hf]
    exact app
  ·rw [if_neg (by omega), if_neg (fun h => hz h.2.1)]
   exact app
 ·rw [if_neg h5, if_neg (fun h => h5 h.1)]
  exact app
theorem last_sign (L : List S53) (kd : Int) (hk : 0 < kd) : LastNT (signL L kd).1 := by
 intro hz
 unfold signL at hz ⊢
 split
 ·rename_i c
  rw [if_pos c] at hz
  simp only [List.length_set] at hz ⊢
  rw [rd_get _ (L.length - 1) (by rw [List.length_set]; omega)]
  simp only [List.getElem_set_self]
  rw [c.2.2]
  decide
 ·rename_i c
  have hlen : (L ++ [(⟨kd, if kd = 5 then 1 else 0, ⟨#[]⟩⟩ : S53)]).length = L.length + 1 := by simp
  simp only [hlen, Nat.add_sub_cancel]
  rw [rd_get _ L.length (by rw [hlen]; omega)]
  simp
  omega
theorem endL_nil (l : List S53) : endL l ⟨#[]⟩ = l := by
 unfold endL
 rw [if_pos (by rw [Lib.toList_data])]
theorem kind_letter (c : ByteArray) (h : kindS c ≠ 0) : letB c = false := by
 unfold kindS at h
 unfold letB
 have hd : c.toList = c.data.toList := Lib.toList_data c
 rw [hd] at h
 (repeat' split at h) <;> first | (rename_i e; rw [e]; decide) | exact absurd rfl h
set_option maxHeartbeats 1000000 in
theorem refParse_l (cs : List ByteArray) (w : Bool) (N : Nat) (hN : N ≤ 1048576) (hcs : ∀ c ∈ cs, IsRune c) (hct : ∀ c ∈ cs, c.size ≤ 4) (hcl : cs.length ≤ 1048576) : ∀ (d i k : Nat) (x : Int) (l : List S53) (t : ByteArray), 20000000 ≤ k → i + d = cs.length → (x = 0 ∨ x = 1) → LastNT l → l.length ≤ 2 * i → t.size ≤ 4 * i → Texts l (4 * i) →
  quipuref13_Parse.l0 (k + 2 * d + 1) cs w (endL l t) (x == 1) (i : Int) = some (parseS w (cs.drop i) false x l t) := by
 intro d
 induction d using Nat.strongRecOn with
 | _ d ih =>
 intro i k x l t hk hi hx hln hl ht htx
 have hel := endL_len l t
 obtain ⟨m, hm⟩ : ∃ m, k + 2 * d = m := ⟨_, rfl⟩
 rw [hm]
 simp only [quipuref13_Parse.l0]
 by_cases hlt : i < cs.length
 case neg =>
  rw [if_neg (by omega), List.drop_eq_nil_of_le (by omega)]
  simp only [parseS, finishS]
  cases w
  ·rw [if_neg (by decide), if_pos rfl]
  ·rw [if_pos rfl, if_neg (show ¬ (true = false) by decide)]
   by_cases hx1 : x = 1
   ·rw [if_pos (beT hx1), if_pos hx1]
   ·rw [if_neg (by simpa using hx1), if_neg hx1, refCheck_eq (endL l t) (4 * i) (by omega) (texts_end htx ht) (by omega) m (by omega), Option.bind_some]
    split
    ·rfl
    ·rfl
 have hmem := List.getElem_mem hlt
 obtain ⟨c, hc⟩ : ∃ c, cs[i] = c := ⟨_, rfl⟩
 rw [hc] at hmem
 have hR := hcs c hmem
 have hC4 := hct c hmem
 have hd : cs.drop i = c :: cs.drop (i + 1) := by rw [List.drop_eq_getElem_cons hlt, hc]
 have hrd : rdOf ByteArray.empty cs (i : Int) = c := by
  show cs.getD (i : Int).toNat ByteArray.empty = c
  rw [Int.toNat_natCast, List.getD_eq_getElem?_getD, List.getElem?_eq_getElem hlt, hc]
  rfl
 have W1 := aMk (show wrap64 ((i : Int) + 1) = ((i + 1 : Nat) : Int) by unfold wrap64; omega)
 rw [if_pos (show ((i : Int) < (cs.length : Int)) by omega), if_pos (show (0 : Int) ≤ (i : Int) by omega), hrd, hd]
 simp only [parseS]
 have htx1 : Texts l (4 * (i + 1)) := fun y hy => by have := htx y hy; omega
 have hx2 : (!(x == 1)) = ((1 - x) == 1) := by rcases hx with rfl | rfl <;> rfl
 by_cases hq : c.toList = ([39] : List UInt8)
 ·rw [if_pos hq, if_pos (show quoteC c from hq), W1.out, hx2]
  by_cases hl1 : i + 1 < cs.length
  ·obtain ⟨c', hc'⟩ : ∃ c', cs[i + 1] = c' := ⟨_, rfl⟩
   have hd1 : cs.drop (i + 1) = c' :: cs.drop (i + 2) := by rw [List.drop_eq_getElem_cons hl1, hc']
   have hrd1 : rdOf ByteArray.empty cs ((i + 1 : Nat) : Int) = c' := by
    show cs.getD ((i + 1 : Nat) : Int).toNat ByteArray.empty = c'
    rw [Int.toNat_natCast, List.getD_eq_getElem?_getD, List.getElem?_eq_getElem hl1, hc']
    rfl
   rw [if_pos (show (((i + 1 : Nat) : Int) < (cs.length : Int)) by omega), if_pos (show (0 : Int) ≤ ((i + 1 : Nat) : Int) by omega), hrd1, hd1]
   by_cases hq1 : c'.toList = ([39] : List UInt8)
   ·have W2 := aMk (show wrap64 (((i + 1 : Nat) : Int) + 1) = ((i + 2 : Nat) : Int) by unfold wrap64; omega)
    rw [if_pos hq1, with_eq l t ⟨#[39]⟩ (by decide) hln (by omega) (by have : (⟨#[39]⟩ : ByteArray).size = 1 := rfl; omega), Option.bind_some, W2.out]
    rw [if_pos (show nextQ (c' :: cs.drop (i + 2)) = true from dTr hq1)]
    simp only [parseS]
    have h := ih (d - 2) (by omega) (i + 2) (k + 3) x l (t ++ ⟨#[39]⟩) (by omega) (by omega) hx hln (by omega) (by rw [ByteArray.size_append]; have : (⟨#[39]⟩ : ByteArray).size = 1 := rfl; omega) (fun y hy => by have := htx y hy; omega)
    rw [show k + 3 + 2 * (d - 2) + 1 = m by omega] at h
    exact h
   ·rw [if_neg hq1]
    rw [if_neg (show ¬ nextQ (c' :: cs.drop (i + 2)) = true from fun h_ => hq1 (of_decide_eq_true h_)), ← hd1]
    have h := ih (d - 1) (by omega) (i + 1) (k + 1) (1 - x) l t (by omega) (by omega) (by omega) hln (by omega) (by omega) htx1
    rw [show k + 1 + 2 * (d - 1) + 1 = m by omega] at h
    exact h
  ·rw [if_neg (show ¬ (((i + 1 : Nat) : Int) < (cs.length : Int)) by omega)]
   have hdn : cs.drop (i + 1) = [] := List.drop_eq_nil_of_le (by omega)
   have hnx : nextQ (cs.drop (i + 1)) = false := by rw [hdn]; rfl
   rw [hnx, if_neg (show ¬ (false = true) by decide)]
   have h := ih (d - 1) (by omega) (i + 1) (k + 1) (1 - x) l t (by omega) (by omega) (by omega) hln (by omega) (by omega) htx1
   rw [show k + 1 + 2 * (d - 1) + 1 = m by omega] at h
   exact h
 ·rw [if_neg hq, if_neg (show ¬ quoteC c from hq)]
  obtain ⟨m', hm'⟩ : ∃ m', m = m' + 1 := ⟨m - 1, by omega⟩
  have hgo : ∀ x' l' t', (x' = 0 ∨ x' = 1) → LastNT l' → l'.length ≤ 2 * (i + 1) → t'.size ≤ 4 * (i + 1) → Texts l' (4 * (i + 1)) → quipuref13_Parse.l0 m' cs w (endL l' t') (x' == 1) ((i + 1 : Nat) : Int) = some (parseS w (cs.drop (i + 1)) false x' l' t') := fun x' l' t' a b c' d' e' => by
   have h := ih (d - 1) (by omega) (i + 1) k x' l' t' (by omega) (by omega) a b c' d' e'
   rw [show k + 2 * (d - 1) + 1 = m' by omega] at h
   exact h
  have jt : quipuref13_Parse.j1 m cs w (endL l t) (x == 1) (i : Int) true = some (parseS w (cs.drop (i + 1)) false x l (t ++ c)) := by
   rw [hm']
   simp only [quipuref13_Parse.j1]
   rw [if_pos trivial, if_pos (show (0 : Int) ≤ (i : Int) by omega), if_pos (show ((i : Int) < (cs.length : Int)) by omega), hrd, with_eq l t c hR.2 hln (by omega) (by omega), Option.bind_some, W1.out]
   exact hgo x l (t ++ c) hx hln (by omega) (aP121) htx1
  by_cases hx1 : x = 1
  ·rw [if_pos (beT hx1), if_neg (show ¬ x = 0 by omega)]
   exact jt
  ·have hx0 : x = 0 := by omega
   rw [if_neg (show ¬ (x == 1) = true by simpa using hx1), if_pos hx0, sign_eq, Option.bind_some]
   have hkr := kind_range c
   by_cases hk0 : kindS c = 0
   ·rw [if_pos hk0, letter_eq hR, Option.bind_some, if_neg (show ¬ 0 < kindS c by omega)]
    by_cases hlb : letB c = true
    ·rw [if_pos hlb, hlb, hm']
     simp only [quipuref13_Parse.j1]
     rw [if_neg (show ¬ ((!true) = true) by decide), if_pos (show (0 : Int) ≤ (i : Int) by omega), if_pos (show ((i : Int) < (cs.length : Int)) by omega), hrd, letter_eq hR, Option.bind_some, if_pos hlb]
    ·rw [if_neg hlb, Bool.eq_false_iff.mpr hlb]
     exact jt
   ·rw [if_neg hk0, if_pos (show 0 < kindS c by omega), hm']
    have hlf : letB c = false := by
     have hlm := kind_letter c hk0
     exact hlm
    simp only [quipuref13_Parse.j1]
    obtain ⟨m2, hm2⟩ : ∃ m2, m' = m2 + 1 := ⟨m' - 1, by omega⟩
    rw [if_neg (show ¬ (false = true) by decide), if_pos (show (0 : Int) ≤ (i : Int) by omega), if_pos (show ((i : Int) < (cs.length : Int)) by omega), hrd, letter_eq hR, Option.bind_some, hlf, if_neg (show ¬ (false = true) by decide), sign_eq, Option.bind_some]
    have hsg := signed_eq (endL l t) (kindS c) m2 (by omega)
    rw [← hm2] at hsg
    rw [hsg, Option.bind_some]
    by_cases hs2 : (signL (endL l t) (kindS c)).2 = true
    ·rw [if_pos hs2, if_pos hs2, W1.out]
     have hsl := signL_len (endL l t) (kindS c)
     have h := hgo x (signL (endL l t) (kindS c)).1 ⟨#[]⟩ hx (last_sign _ _ (by omega)) (by omega) (Nat.zero_le _) (texts_sign (texts_end htx1 (by omega)) _)
     rw [endL_nil] at h
     exact h
    ·rw [if_neg hs2, if_neg hs2]
theorem runesAt_size (s : ByteArray) : ∀ (d : Nat) (p : Int), 0 ≤ p → p ≤ s.size → (s.size : Int) - p ≤ d → (∀ c ∈ (runesAt s p).1, c.size ≤ 4) ∧ (((runesAt s p).1.length : Int) ≤ s.size - p)
 | d, p, h0, h1, h2 => by
  by_cases hlt : p < s.size
  ·by_cases hz : runeS s p = 0
   ·rw [runesAt_bad s p hlt hz]; exact ⟨fun c hc => by simp at hc, by simp; omega⟩
   ·have hr := rune_pos s p hz
    have hs := cut_size s p hz
    obtain ⟨d', rfl⟩ : ∃ d', d = d' + 1 := ⟨d - 1, by omega⟩
    have ih := runesAt_size s d' (p + runeS s p) (by omega) (by omega) (by omega)
    rw [runesAt_step s p hz]
    refine ⟨fun c hc => ?_, by simp only [List.length_cons]; omega⟩
    simp only [List.mem_cons] at hc
    rcases hc with rfl | hc
    ·omega
    ·exact ih.1 c hc
  ·rw [runesAt_end s p hlt]; exact ⟨fun c hc => by simp at hc, by simp; omega⟩
theorem refParse_eq (s : ByteArray) (hs : s.size ≤ 1048576) (K : Nat) (hK : 30000000 ≤ K) : quipuref13_Parse.f K s = some (parseT s) := by
 obtain ⟨h1, h2⟩ := runesAt_size s s.size 0 (Int.le_refl _) (by omega) (by omega)
 have hr := runesAt_runes s s.size 0 (Int.le_refl _) (by omega) (by omega)
 have h := refParse_l (runesAt s 0).1 (runesAt s 0).2 1048576 (Nat.le_refl _) hr h1 (by omega) (runesAt s 0).1.length 0 (K - 1 - 2 * (runesAt s 0).1.length) 0 [] ⟨#[]⟩ (by omega) (by omega) (.inl rfl) (fun h => by simp at h) (Nat.zero_le _) (Nat.zero_le _) (fun y hy => by simp at hy)
 rw [show K - 1 - 2 * (runesAt s 0).1.length + 2 * (runesAt s 0).1.length + 1 = K by omega] at h
 unfold quipuref13_Parse.f
 rw [refRunesT s hs K (by omega), Option.bind_some]
 rw [endL_nil, List.drop_zero] at h
 exact h
theorem cut_left (a b : ByteArray) (p : Int) (h : runeS a p ≠ 0) : cut (a ++ b) p = cut a p := by
 have hr := rune_pos a p h
 unfold cut
 rw [runeS_app_left a b p h]
 apply bytes_inj
 rw [ByteArray.data_extract, ByteArray.data_extract, Array.toList_extract, Array.toList_extract, ByteArray.data_append, Array.toList_append, List.extract_eq_take_drop, List.extract_eq_take_drop, List.drop_append_of_le_length (by rw [Array.length_toList]; show p.toNat ≤ a.size; omega), List.take_append_of_le_length]
 rw [List.length_drop, Array.length_toList]
 show (p + runeS a p).toNat - p.toNat ≤ a.size - p.toNat
 omega
theorem cut_right (a b : ByteArray) (p : Int) (h0 : 0 ≤ p) (h1 : p < b.size) : cut (a ++ b) (a.size + p) = cut b p := by
 have hr := runeS_range b p
 unfold cut
 rw [runeS_app_right a b p h0 h1]
 apply bytes_inj
 rw [ByteArray.data_extract, ByteArray.data_extract, Array.toList_extract, Array.toList_extract, ByteArray.data_append, Array.toList_append, List.extract_eq_take_drop, List.extract_eq_take_drop]
 have e1 : ((a.size : Int) + p).toNat = a.data.toList.length + p.toNat := by rw [Array.length_toList]; show _ = a.size + _; omega
 have e2 : ((a.size : Int) + p + runeS b p).toNat - ((a.size : Int) + p).toNat = (p + runeS b p).toNat - p.toNat := by omega
 rw [e2, e1, List.drop_append, List.drop_of_length_le (by omega), List.nil_append, Nat.add_sub_cancel_left]
theorem runesAt_right (a b : ByteArray) : ∀ (d : Nat) (p : Int), 0 ≤ p → p ≤ b.size → (b.size : Int) - p ≤ d → runesAt (a ++ b) (a.size + p) = runesAt b p
 | d, p, h0, h1, h2 => by
  by_cases hlt : p < b.size
  ·have hs : ((a.size : Int) + p) < ((a ++ b).size : Int) := by rw [size_app]; omega
   have hrr := runeS_app_right a b p h0 hlt
   by_cases hz : runeS b p = 0
   ·rw [runesAt_bad b p hlt hz, runesAt_bad (a ++ b) _ hs (by rw [hrr]; exact hz)]
   ·have hr := rune_pos b p hz
    obtain ⟨d', rfl⟩ : ∃ d', d = d' + 1 := ⟨d - 1, by omega⟩
    have ih := runesAt_right a b d' (p + runeS b p) (by omega) (by omega) (by omega)
    rw [runesAt_step b p hz, runesAt_step (a ++ b) _ (by rw [hrr]; exact hz), hrr, cut_right a b p h0 hlt, Int.add_assoc, ih]
  ·rw [runesAt_end b p hlt, runesAt_end (a ++ b) _ (by rw [size_app]; omega)]
theorem runesAt_left (a b : ByteArray) : ∀ (d : Nat) (p : Int), 0 ≤ p → p ≤ a.size → (a.size : Int) - p ≤ d → (runesAt a p).2 = true → runesAt (a ++ b) p = ((runesAt a p).1 ++ (runesAt b 0).1, (runesAt b 0).2)
 | d, p, h0, h1, h2, hw => by
  by_cases hlt : p < a.size
  ·by_cases hz : runeS a p = 0
   ·rw [runesAt_bad a p hlt hz] at hw; exact absurd hw (by decide)
   ·have hr := rune_pos a p hz
    obtain ⟨d', rfl⟩ : ∃ d', d = d' + 1 := ⟨d - 1, by omega⟩
    have hrl := runeS_app_left a b p hz
    rw [runesAt_step a p hz] at hw
    have ih := runesAt_left a b d' (p + runeS a p) (by omega) (by omega) (by omega) hw
    rw [runesAt_step a p hz, runesAt_step (a ++ b) p (by rw [hrl]; exact hz), hrl, cut_left a b p hz, ih]
    rfl
  ·have hp : p = a.size := by omega
   have h := runesAt_right a b b.size 0 (Int.le_refl _) (by omega) (by omega)
   rw [Int.add_zero, ← hp] at h
   rw [runesAt_end a p hlt, h]
   rfl
def runS : List ByteArray → Bool → Int → List S53 → ByteArray → Option (Int × List S53 × ByteArray)
 | [], _, x, l, t => some (x, l, t)
 | c :: cs, true, x, l, t => runS cs false x l (t ++ ⟨#[39]⟩)
 | c :: cs, false, x, l, t =>
  if quoteC c then (if nextQ cs = true then runS cs true x l t else runS cs false (1 - x) l t)
  else if x = 0 then
   (if 0 < kindS c then (if (signL (endL l t) (kindS c)).2 = true then runS cs false x (signL (endL l t) (kindS c)).1 ⟨#[]⟩ else none)
    else if letB c = true then none else runS cs false x l (t ++ c))
  else runS cs false x l (t ++ c)
def tellS (w : Bool) : Option (Int × List S53 × ByteArray) → List S53 × Int
 | none => ([], 131)
 | some (x, l, t) => finishS w x (endL l t)
theorem parse_run (w : Bool) : ∀ (cs : List ByteArray) (sk : Bool) (x : Int) (l : List S53) (t : ByteArray), parseS w cs sk x l t = tellS w (runS cs sk x l t)
 | [], sk, x, l, t => rfl
 | c :: cs, true, x, l, t => by simp only [parseS, runS]; exact parse_run w cs false x l _
 | c :: cs, false, x, l, t => by
  simp only [parseS, runS]
  by_cases hq : quoteC c
  ·rw [if_pos hq, if_pos hq]
   by_cases hn : nextQ cs = true
   ·rw [if_pos hn, if_pos hn]; exact parse_run w cs true x l t
   ·rw [if_neg hn, if_neg hn]; exact parse_run w cs false _ l t
  ·rw [if_neg hq, if_neg hq]
   by_cases hx : x = 0
   ·rw [if_pos hx, if_pos hx]
    by_cases hk : 0 < kindS c
    ·rw [if_pos hk, if_pos hk]
     by_cases hs : (signL (endL l t) (kindS c)).2 = true
     ·rw [if_pos hs, if_pos hs]; exact parse_run w cs false x _ _
     ·rw [if_neg hs, if_neg hs]; rfl
    ·rw [if_neg hk, if_neg hk]
     by_cases hb : letB c = true
     ·rw [if_pos hb, if_pos hb]; rfl
     ·rw [if_neg hb, if_neg hb]; exact parse_run w cs false x l _
   ·rw [if_neg hx, if_neg hx]; exact parse_run w cs false x l _
def LastNC (P : List S53) : Prop := 0 < P.length → (rd_T53 P ((P.length - 1 : Nat) : Int)).f0 ≠ 5
theorem run_x (s : Int × List S53 × ByteArray) : ∀ (cs : List ByteArray) (sk : Bool) (x : Int) (l : List S53) (t : ByteArray), (x = 0 ∨ x = 1) → runS cs sk x l t = some s → (s.1 = 0 ∨ s.1 = 1)
 | [], sk, x, l, t, hx, h => by simp only [runS, Option.some.injEq] at h; subst h; exact hx
 | c :: cs, true, x, l, t, hx, h => by simp only [runS] at h; exact run_x s cs false x l _ hx h
 | c :: cs, false, x, l, t, hx, h => by
  simp only [runS] at h
  by_cases hq : quoteC c
  ·rw [if_pos hq] at h
   by_cases hn : nextQ cs = true
   ·rw [if_pos hn] at h; exact run_x s cs true x l t hx h
   ·rw [if_neg hn] at h; exact run_x s cs false _ l t (by omega) h
  ·rw [if_neg hq] at h
   by_cases hx0 : x = 0
   ·rw [if_pos hx0] at h
    by_cases hk : 0 < kindS c
    ·rw [if_pos hk] at h
     by_cases hs : (signL (endL l t) (kindS c)).2 = true
     ·rw [if_pos hs] at h; exact run_x s cs false x _ _ hx h
     ·rw [if_neg hs] at h; exact absurd h (by simp)
    ·rw [if_neg hk] at h
     by_cases hb : letB c = true
     ·rw [if_pos hb] at h; exact absurd h (by simp)
     ·rw [if_neg hb] at h; exact run_x s cs false x l _ hx h
   ·rw [if_neg hx0] at h; exact run_x s cs false x l _ hx h
def goodL : Option S53 → List S53 → Bool
 | _, [] => true
 | p, t :: r => !twice p t && (singleS t && goodL (some t) r)
def bytesL : List S53 → Int → Int
 | [], b => b
 | t :: r, b => bytesL r (wrap64 (b + t.f2.size))
theorem checkL_cons (n : Nat) (p : Option S53) (t : S53) (r : List S53) (b : Int) : checkL n p (t :: r) b = if (twice p t || !singleS t) = true then 131 else checkL n (some t) r (wrap64 (b + t.f2.size)) := rfl
theorem goodL_cons (p : Option S53) (t : S53) (r : List S53) : goodL p (t :: r) = (!twice p t && (singleS t && goodL (some t) r)) := rfl
theorem bytesL_cons (t : S53) (r : List S53) (b : Int) : bytesL (t :: r) b = bytesL r (wrap64 (b + t.f2.size)) := rfl
theorem check_good (n : Nat) : ∀ (l : List S53) (p : Option S53) (b : Int), checkL n p l b = if goodL p l = true then (if (n : Int) > 64 then 132 else if bytesL l b > 64 then 132 else 0) else 131
 | [], p, b => rfl
 | t :: r, p, b => by
  rw [checkL_cons, goodL_cons, bytesL_cons, check_good n r (some t)]
  cases h1 : twice p t <;> cases h2 : singleS t <;> rfl
theorem check_cases (l : List S53) : (checkS l = 131 ∧ goodL none l = false) ∨ (goodL none l = true ∧ (checkS l = 0 ∨ checkS l = 132)) := by
 unfold checkS
 rw [check_good]
 cases goodL none l
 ·left; exact ⟨rfl, rfl⟩
 ·right
  refine ⟨rfl, ?_⟩
  rw [if_pos rfl]
  repeat' split
  all_goals simp
theorem tell_ok {w : Bool} {o : Option (Int × List S53 × ByteArray)} {L : List S53} (hx : ∀ s, o = some s → s.1 = 0 ∨ s.1 = 1) (h : tellS w o = (L, 0)) : w = true ∧ ∃ l t, o = some (0, l, t) ∧ endL l t = L ∧ checkS L = 0 := by
 cases o with
 | none => simp [tellS] at h
 | some s =>
  obtain ⟨x, l, t⟩ := s
  simp only [tellS, finishS] at h
  cases w with
  | false => simp at h
  | true =>
   rw [if_neg (by decide)] at h
   have hx1 := hx _ rfl
   by_cases h1 : x = 1
   ·rw [if_pos h1] at h; simp at h
   ·rw [if_neg h1] at h
    have : x = 0 := by rcases hx1 with h | h; exact h; exact absurd h h1
    subst this
    by_cases hc : checkS (endL l t) = 0
    ·rw [if_pos hc] at h
     simp only [Prod.mk.injEq, and_true] at h
     exact ⟨rfl, l, t, rfl, h, h ▸ hc⟩
    ·rw [if_neg hc] at h
     simp only [Prod.mk.injEq] at h
     exact absurd h.2 hc
def tot : List ByteArray → Nat
 | [] => 0
 | c :: cs => c.size + 1 + tot cs
theorem tot_runes (s : ByteArray) : ∀ (d : Nat) (p : Int), 0 ≤ p → p ≤ s.size → (s.size : Int) - p ≤ d → (tot (runesAt s p).1 : Int) ≤ 2 * (s.size - p)
 | d, p, h0, h1, h2 => by
  by_cases hlt : p < s.size
  ·by_cases hz : runeS s p = 0
   ·rw [runesAt_bad s p hlt hz]
    show ((0 : Nat) : Int) ≤ _
    omega
   ·have hr := rune_pos s p hz
    obtain ⟨d', rfl⟩ : ∃ d', d = d' + 1 := ⟨d - 1, by omega⟩
    have ih := tot_runes s d' (p + runeS s p) (by omega) (by omega) (by omega)
    have hc := cut_size s p hz
    rw [runesAt_step s p hz]
    show (((cut s p).size + 1 + tot (runesAt s (p + runeS s p)).1 : Nat) : Int) ≤ _
    omega
  ·rw [runesAt_end s p hlt]
   show ((0 : Nat) : Int) ≤ _
   omega
theorem end_len (l : List S53) (t : ByteArray) : (endL l t).length ≤ l.length + 1 := by
 unfold endL
 split
 ·omega
 ·rw [List.length_append, List.length_singleton]; exact Nat.le_refl _
theorem sign_len (l : List S53) (k : Int) : (signL l k).1.length ≤ l.length + 1 := by
 unfold signL
 split
 ·simp
 ·simp
theorem run_bound (N M : Nat) (s : Int × List S53 × ByteArray) : ∀ (cs : List ByteArray) (sk : Bool) (x : Int) (l : List S53) (t : ByteArray), runS cs sk x l t = some s → Texts l N → t.size + tot cs ≤ N → l.length + 2 * tot cs ≤ M →
  Texts s.2.1 N ∧ s.2.2.size ≤ N ∧ s.2.1.length ≤ M
 | [], sk, x, l, t, h, h1, h2, h3 => by
  simp only [runS, Option.some.injEq] at h
  subst h
  exact ⟨h1, h2, h3⟩
 | c :: cs, sk, x, l, t, h, h1, h2, h3 => by
  have e : tot (c :: cs) = c.size + 1 + tot cs := rfl
  rw [e] at h2 h3
  have ee := end_len l t
  have et : Texts (endL l t) N := texts_end h1 (by omega)
  cases sk with
  | true =>
   simp only [runS] at h
   exact run_bound N M s cs false x l _ h h1 (by rw [ByteArray.size_append]; show t.size + 1 + tot cs ≤ N; omega) (by omega)
  | false =>
   simp only [runS] at h
   by_cases hq : quoteC c
   ·rw [if_pos hq] at h
    by_cases hn : nextQ cs = true
    ·rw [if_pos hn] at h; exact run_bound N M s cs true x l t h h1 (by omega) (by omega)
    ·rw [if_neg hn] at h; exact run_bound N M s cs false _ l t h h1 (by omega) (by omega)
   ·rw [if_neg hq] at h
    by_cases hx0 : x = 0
    ·rw [if_pos hx0] at h
     by_cases hk : 0 < kindS c
     ·rw [if_pos hk] at h
      by_cases hs : (signL (endL l t) (kindS c)).2 = true
      ·rw [if_pos hs] at h
       have es := sign_len (endL l t) (kindS c)
       exact run_bound N M s cs false x _ _ h (texts_sign et _) (by show 0 + tot cs ≤ N; omega) (by omega)
      ·rw [if_neg hs] at h; exact absurd h (by simp)
     ·rw [if_neg hk] at h
      by_cases hb : letB c = true
      ·rw [if_pos hb] at h; exact absurd h (by simp)
      ·rw [if_neg hb] at h; exact run_bound N M s cs false x l _ h h1 (aP121) (by omega)
    ·rw [if_neg hx0] at h; exact run_bound N M s cs false x l _ h h1 (aP121) (by omega)
theorem parseT_run (s : ByteArray) : parseT s = tellS (runesAt s 0).2 (runS (runesAt s 0).1 false 0 [] ⟨#[]⟩) := parse_run _ _ _ _ _ _
theorem parse_ok (s : ByteArray) {L : List S53} (h : parseT s = (L, 0)) : (runesAt s 0).2 = true ∧ ∃ l t, runS (runesAt s 0).1 false 0 [] ⟨#[]⟩ = some (0, l, t) ∧ endL l t = L ∧ checkS L = 0 ∧ Texts L (2 * s.size) ∧ L.length ≤ 4 * s.size + 1 := by
 rw [parseT_run] at h
 obtain ⟨h1, l, t, h2, h3, h4⟩ := tell_ok (fun s => run_x s _ _ _ _ _ (.inl rfl)) h
 have ht := tot_runes s s.size 0 (Int.le_refl _) (by omega) (by omega)
 obtain ⟨b1, b2, b3⟩ := run_bound (2 * s.size) (4 * s.size) _ _ _ _ _ _ h2 (fun _ h => by simp at h) (by show 0 + _ ≤ _; omega) (by show 0 + _ ≤ _; omega)
 have := end_len l t
 exact ⟨h1, l, t, h2, h3, h4, by rw [← h3]; exact texts_end b1 b2, by rw [← h3]; exact Nat.le_trans this (by simp only at b3; omega)⟩
def minusC : ByteArray := ⟨#[45]⟩
end Go.Proofs.Ytacnjemndfmbhaa.A
end
section
namespace Go.Proofs.Ytacnjemndfmbhaa.A
open Go.RowKit Go.Proofs.Ytacnjemndfmbhaa.Q Go.Proofs.Ytacnjemndfmbhaa.R1 Go.Proofs.YtacnjemndfmbhaaW.PrintWords Go.Proofs.YtacnjemndfmbhaaW.PrintLast
set_option linter.unusedVariables false
set_option linter.unusedSimpArgs false
def joinB : List ByteArray → ByteArray
 | [] => ⟨#[]⟩
 | c :: cs => c ++ joinB cs
theorem nil_app (a : ByteArray) : (⟨#[]⟩ : ByteArray) ++ a = a := by apply bytes_inj; simp [ByteArray.data_append]
theorem app_empty (a : ByteArray) : a ++ (⟨#[]⟩ : ByteArray) = a := by apply bytes_inj; simp [ByteArray.data_append]
theorem app_assoc (a b c : ByteArray) : a ++ b ++ c = a ++ (b ++ c) := by apply bytes_inj; simp [ByteArray.data_append]
theorem join_app (a b : List ByteArray) : joinB (a ++ b) = joinB a ++ joinB b := by
 induction a with
 | nil => exact (nil_app _).symm
 | cons c cs ih => show c ++ joinB (cs ++ b) = c ++ joinB cs ++ joinB b; rw [ih, app_assoc]
theorem join_one (c : ByteArray) : joinB [c] = c := app_empty c
theorem runes_one (c : ByteArray) (h : IsRune c) : runesAt c 0 = ([c], true) := by
 have hz : runeS c 0 ≠ 0 := by rw [h.1]; have := h.2; omega
 rw [runesAt_step c 0 hz, h.1, Int.zero_add, runesAt_end c _ (by omega)]
 have : cut c 0 = c := by
  unfold cut
  rw [h.1]
  apply bytes_inj
  rw [ByteArray.data_extract, Array.toList_extract, List.extract_eq_take_drop]
  simp only [Int.zero_add, Int.toNat_natCast, Int.toNat_zero, List.drop_zero, Nat.sub_zero]
  exact List.take_of_length_le (by rw [Array.length_toList]; exact Nat.le_refl _)
 rw [this]
theorem runes_join : ∀ (l : List ByteArray), (∀ c ∈ l, IsRune c) → runesAt (joinB l) 0 = (l, true)
 | [], _ => rfl
 | c :: cs, h => by
  have hc := runes_one c (h c (by simp))
  have ih := runes_join cs (fun x hx => h x (by simp [hx]))
  have := runesAt_left c (joinB cs) c.size 0 (Int.le_refl _) (by omega) (by omega) (by rw [hc])
  rw [hc, ih] at this
  exact this
theorem join_runes (s : ByteArray) : ∀ (d : Nat) (p : Int), 0 ≤ p → p ≤ s.size → (s.size : Int) - p ≤ d → (runesAt s p).2 = true → joinB (runesAt s p).1 = s.extract p.toNat s.size
 | d, p, h0, h1, h2, hw => by
  by_cases hlt : p < s.size
  ·by_cases hz : runeS s p = 0
   ·rw [runesAt_bad s p hlt hz] at hw; exact absurd hw (by decide)
   ·have hr := rune_pos s p hz
    obtain ⟨d', rfl⟩ : ∃ d', d = d' + 1 := ⟨d - 1, by omega⟩
    rw [runesAt_step s p hz] at hw ⊢
    have ih := join_runes s d' (p + runeS s p) (by omega) (by omega) (by omega) hw
    show cut s p ++ joinB (runesAt s (p + runeS s p)).1 = _
    rw [ih]
    unfold cut
    exact ByteArray.extract_append_extract.trans (by rw [Nat.min_eq_left (by omega), Nat.max_eq_right (by omega)])
  ·rw [runesAt_end s p hlt]
   apply bytes_inj
   rw [ByteArray.data_extract, Array.toList_extract, List.extract_eq_take_drop, List.drop_of_length_le (by rw [Array.length_toList]; show s.size ≤ _; omega), List.take_nil]
   rfl
theorem runes_whole (s : ByteArray) : ∀ (f : Nat) (p : Int), 0 ≤ p → p ≤ s.size → (s.size : Int) - p < f → cnt s f p ≠ none → (runesAt s p).2 = true
 | 0, p, h0, h1, h2, h => by omega
 | f + 1, p, h0, h1, h2, h => by
  rw [R1.cnt_succ] at h
  by_cases hlt : p < s.size
  ·rw [if_pos hlt] at h
   by_cases hz : runeS s p = 0
   ·rw [if_pos hz] at h; exact absurd rfl h
   ·rw [if_neg hz] at h
    have hr := rune_pos s p hz
    rw [runesAt_step s p hz]
    exact runes_whole s f (p + runeS s p) (by omega) (by omega) (by omega) (fun e => h (by rw [e]; rfl))
  ·rw [runesAt_end s p hlt]
theorem runes_valid (s : ByteArray) (h : 0 ≤ runesS s) : (runesAt s 0).2 = true := by
 apply runes_whole s (s.size + 1) 0 (Int.le_refl _) (by omega) (by omega)
 intro e
 unfold runesS at h
 rw [e] at h
 exact absurd h (by decide)
def Qc : ByteArray := ⟨#[39]⟩
theorem Qc_quote : quoteC Qc := by unfold quoteC; decide +kernel
theorem Qc_rune : IsRune Qc := by unfold IsRune; decide +kernel
theorem quote_is {c : ByteArray} (h : quoteC c) : c = Qc := by
 have : c.data.toList = [39] := by rw [← Lib.toList_data]; exact h
 exact bytes_of c _ this
def dbl : List ByteArray → List ByteArray
 | [] => []
 | c :: cs => if quoteC c then Qc :: Qc :: dbl cs else c :: dbl cs
def wrapR (raw : List ByteArray) (bare : Bool) : List ByteArray := if bare then dbl raw else Qc :: (dbl raw ++ [Qc])
def quoteR : List ByteArray → List ByteArray → Bool → List ByteArray
 | [], raw, bare => wrapR raw bare
 | c :: cs, raw, bare =>
  if quoteC c then quoteR cs (raw ++ [c]) bare
  else if (decide (0 < kindS c) || letB c) = true then quoteR cs (raw ++ [c]) false
  else wrapR raw bare ++ (c :: quoteR cs [] true)
theorem dbl_app (a b : List ByteArray) : dbl (a ++ b) = dbl a ++ dbl b := by
 induction a with
 | nil => rfl
 | cons c cs ih =>
  simp only [List.cons_append, dbl]
  by_cases h : quoteC c
  ·rw [if_pos h, if_pos h, ih]; rfl
  ·rw [if_neg h, if_neg h, ih]; rfl
theorem flush_eq (bs : List UInt8) (raw : List ByteArray) (bare : Bool) : flushB bs (joinB (dbl raw)) bare = bs ++ (joinB (wrapR raw bare)).data.toList := by
 unfold flushB wrapR
 cases bare
 ·simp only [Bool.false_eq_true, if_false]
  show _ = bs ++ (Qc ++ joinB (dbl raw ++ [Qc])).data.toList
  rw [join_app, join_one]
  simp [ByteArray.data_append, Qc]
 ·simp only [if_true]
theorem quote_runes (s : ByteArray) (hs : s.size ≤ 1048576) : ∀ (d : Nat) (p : Int) (bs : List UInt8) (raw : List ByteArray) (bare : Bool), 0 ≤ p → p ≤ s.size → (s.size : Int) - p < d → (runesAt s p).2 = true →
  quoteL s d p bs (joinB (dbl raw)) bare = some ⟨(bs ++ (joinB (quoteR (runesAt s p).1 raw bare)).data.toList).toArray⟩
 | 0, p, bs, raw, bare, h0, h1, h2, hw => by omega
 | d + 1, p, bs, raw, bare, h0, h1, h2, hw => by
  have hR := curRune s p (by omega) 0
  rw [Nat.zero_add] at hR
  by_cases hlt : p < s.size
  case neg =>
   simp only [quoteL]
   rw [if_neg hlt, runesAt_end s p hlt, flush_eq]
   rfl
  by_cases hz : runeS s p = 0
  ·rw [runesAt_bad s p hlt hz] at hw; exact absurd hw (by decide)
  have hr := rune_pos s p hz
  rw [runesAt_step s p hz] at hw ⊢
  have ih := fun bs raw bare => quote_runes s hs d (p + runeS s p) bs raw bare (by omega) (by omega) (by omega) hw
  simp only [quoteL]
  rw [if_pos hlt, hR, Option.bind_some, if_pos (show 0 < runeS s p ∧ p + runeS s p ≤ s.size by omega)]
  rw [show s.extract p.toNat (p + runeS s p).toNat = cut s p from rfl]
  simp only [quoteR]
  by_cases hq : quoteC (cut s p)
  ·rw [if_pos (show (cut s p).toList = ([39] : List UInt8) from hq), if_pos hq]
   have e : joinB (dbl raw) ++ (⟨#[39, 39]⟩ : ByteArray) = joinB (dbl (raw ++ [cut s p])) := by
    rw [dbl_app, join_app]
    simp only [dbl]
    rw [if_pos hq]
    rfl
   rw [e, ih]
  ·rw [if_neg (show ¬ (cut s p).toList = ([39] : List UInt8) from hq), if_neg hq, kind_eq, Option.bind_some]
   by_cases hn : (decide (0 < kindS (cut s p)) || letB (cut s p)) = true
   ·rw [if_pos hn, if_pos hn]
    have e : joinB (dbl raw) ++ cut s p = joinB (dbl (raw ++ [cut s p])) := by
     rw [dbl_app, join_app]
     simp only [dbl]
     rw [if_neg hq, join_one]
    rw [e, ih]
   ·rw [if_neg hn, if_neg hn, flush_eq]
    have := ih (bs ++ (joinB (wrapR raw bare)).data.toList ++ (cut s p).data.toList) [] true
    have e0 : joinB (dbl []) = (⟨#[]⟩ : ByteArray) := rfl
    rw [e0] at this
    rw [this, join_app]
    show _ = some (⟨(bs ++ (joinB (wrapR raw bare) ++ (cut s p ++ joinB (quoteR (runesAt s (p + runeS s p)).1 [] true))).data.toList).toArray⟩ : ByteArray)
    simp [ByteArray.data_append]
def quoteT (t : ByteArray) : List ByteArray := quoteR (runesAt t 0).1 [] true
theorem quote_eq (t : ByteArray) (hs : t.size ≤ 1048576) (hv : 0 ≤ runesS t) : affix_quote.f t = some (joinB (quoteT t)) := by
 unfold affix_quote.f
 rw [if_pos hs]
 have := quote_runes t hs (t.size + 1) 0 [] [] true (Int.le_refl _) (by omega) (by omega) (runes_valid t hv)
 have e0 : joinB (dbl []) = (⟨#[]⟩ : ByteArray) := rfl
 rw [e0] at this
 rw [this, List.nil_append]
 rfl
theorem dbl_rune (l : List ByteArray) (h : ∀ c ∈ l, IsRune c) : ∀ c ∈ dbl l, IsRune c := by
 induction l with
 | nil => intro c hc; cases hc
 | cons x xs ih =>
  intro c hc
  simp only [dbl] at hc
  split at hc
  ·simp only [List.mem_cons] at hc
   rcases hc with rfl | rfl | hc
   ·exact Qc_rune
   ·exact Qc_rune
   ·exact ih (fun c hc => h c (by simp [hc])) c hc
  ·simp only [List.mem_cons] at hc
   rcases hc with rfl | hc
   ·exact h _ (by simp)
   ·exact ih (fun c hc => h c (by simp [hc])) c hc
theorem wrap_rune (l : List ByteArray) (b : Bool) (h : ∀ c ∈ l, IsRune c) : ∀ c ∈ wrapR l b, IsRune c := by
 intro c hc
 unfold wrapR at hc
 cases b
 ·simp only [Bool.false_eq_true, if_false, List.mem_cons, List.mem_append, List.not_mem_nil, or_false] at hc
  rcases hc with rfl | hc | rfl
  ·exact Qc_rune
  ·exact dbl_rune l h c hc
  ·exact Qc_rune
 ·exact dbl_rune l h c hc
theorem quoteR_rune : ∀ (cs raw : List ByteArray) (b : Bool), (∀ c ∈ cs, IsRune c) → (∀ c ∈ raw, IsRune c) → ∀ c ∈ quoteR cs raw b, IsRune c
 | [], raw, b, h1, h2 => wrap_rune raw b h2
 | x :: cs, raw, b, h1, h2 => by
  have hx := h1 x (by simp)
  have h1' : ∀ c ∈ cs, IsRune c := fun c hc => h1 c (by simp [hc])
  have h2' : ∀ c ∈ raw ++ [x], IsRune c := by
   intro c hc
   rw [List.mem_append, List.mem_singleton] at hc
   rcases hc with hc | rfl
   ·exact h2 c hc
   ·exact hx
  simp only [quoteR]
  split
  ·exact quoteR_rune cs _ b h1' h2'
  ·split
   ·exact quoteR_rune cs _ false h1' h2'
   ·intro c hc
    rw [List.mem_append, List.mem_cons] at hc
    rcases hc with hc | rfl | hc
    ·exact wrap_rune raw b h2 c hc
    ·exact hx
    ·exact quoteR_rune cs [] true h1' (fun c hc => by cases hc) c hc
theorem row_inside (rest : List ByteArray) (l : List S53) : ∀ (raw : List ByteArray) (t : ByteArray), runS (dbl raw ++ rest) false 1 l t = runS rest false 1 l (t ++ joinB raw)
 | [], t => by rw [show joinB [] = (⟨#[]⟩ : ByteArray) from rfl, app_empty]; rfl
 | c :: cs, t => by
  have ih := row_inside rest l cs (t ++ c)
  show _ = runS rest false 1 l (t ++ (c ++ joinB cs))
  rw [← app_assoc, ← ih]
  simp only [dbl]
  by_cases h : quoteC c
  ·rw [if_pos h]
   simp only [List.cons_append, runS]
   rw [if_pos Qc_quote, if_pos (show nextQ (Qc :: (dbl cs ++ rest)) = true from dTr Qc_quote), quote_is h]
   rfl
  ·rw [if_neg h]
   simp only [List.cons_append, runS]
   rw [if_neg h, if_neg (by decide)]
theorem run_bare (rest : List ByteArray) (l : List S53) : ∀ (raw : List ByteArray) (t : ByteArray), (∀ c ∈ raw, quoteC c) → runS (dbl raw ++ rest) false 0 l t = runS rest false 0 l (t ++ joinB raw)
 | [], t, _ => by rw [show joinB [] = (⟨#[]⟩ : ByteArray) from rfl, app_empty]; rfl
 | c :: cs, t, hq => by
  have ih := run_bare rest l cs (t ++ c) (fun x hx => hq x (by simp [hx]))
  have h := hq c (by simp)
  show _ = runS rest false 0 l (t ++ (c ++ joinB cs))
  rw [← app_assoc, ← ih]
  simp only [dbl]
  rw [if_pos h]
  simp only [List.cons_append, runS]
  rw [if_pos Qc_quote, if_pos (show nextQ (Qc :: (dbl cs ++ rest)) = true from dTr Qc_quote), quote_is h]
  rfl
theorem run_wrap (rest : List ByteArray) (hr : nextQ rest = false) (l : List S53) : ∀ (raw : List ByteArray) (t : ByteArray), (∃ c ∈ raw, ¬ quoteC c) → runS (Qc :: (dbl raw ++ (Qc :: rest))) false 0 l t = runS rest false 0 l (t ++ joinB raw)
 | [], t, h => by obtain ⟨c, hc, _⟩ := h; cases hc
 | c :: cs, t, h => by
  show _ = runS rest false 0 l (t ++ (c ++ joinB cs))
  rw [← app_assoc]
  by_cases hq : quoteC c
  ·have ih := run_wrap rest hr l cs (t ++ c) (by
    obtain ⟨x, hx, hn⟩ := h
    rw [List.mem_cons] at hx
    rcases hx with rfl | hx
    ·exact absurd hq hn
    ·exact ⟨x, hx, hn⟩)
   rw [← ih, quote_is hq]
   have e : dbl (Qc :: cs) = Qc :: Qc :: dbl cs := by simp only [dbl]; rw [if_pos Qc_quote]
   rw [e]
   simp only [List.cons_append]
   rw [show runS (Qc :: Qc :: Qc :: (dbl cs ++ Qc :: rest)) false 0 l t = runS (Qc :: Qc :: (dbl cs ++ Qc :: rest)) true 0 l t by
    conv => lhs; unfold runS
    rw [if_pos Qc_quote, if_pos (show nextQ (Qc :: Qc :: (dbl cs ++ Qc :: rest)) = true from dTr Qc_quote)]]
   conv => lhs; unfold runS
   rfl
  ·have e : dbl (c :: cs) = c :: dbl cs := by simp only [dbl]; rw [if_neg hq]
   have h1 : runS (Qc :: (dbl (c :: cs) ++ (Qc :: rest))) false 0 l t = runS (dbl (c :: cs) ++ (Qc :: rest)) false 1 l t := by
    rw [e]
    conv => lhs; unfold runS
    rw [if_pos Qc_quote, if_neg (show ¬ nextQ ((c :: dbl cs) ++ (Qc :: rest)) = true by show ¬ decide (quoteC c) = true; simpa using hq)]
    rfl
   rw [h1, row_inside]
   show runS (Qc :: rest) false 1 l (t ++ (c ++ joinB cs)) = _
   rw [← app_assoc]
   conv => lhs; unfold runS
   rw [if_pos Qc_quote, if_neg (by rw [hr]; decide)]
   rfl
def Rows_ (raw : List ByteArray) (bare : Bool) : Prop := if bare = true then (∀ c ∈ raw, quoteC c) else (∃ c ∈ raw, ¬ quoteC c)
theorem run_row (rest : List ByteArray) (hr : nextQ rest = false) (l : List S53) (raw : List ByteArray) (bare : Bool) (t : ByteArray) (h : Rows_ raw bare) : runS (wrapR raw bare ++ rest) false 0 l t = runS rest false 0 l (t ++ joinB raw) := by
 unfold wrapR
 cases bare
 ·simp only [Bool.false_eq_true, if_false]
  have := run_wrap rest hr l raw t (by unfold Rows_ at h; simpa using h)
  rw [← this]
  simp
 ·simp only [if_true]
  exact run_bare rest l raw t (by unfold Rows_ at h; simpa using h)
theorem run_quote (rest : List ByteArray) (hr : nextQ rest = false) (l : List S53) : ∀ (cs raw : List ByteArray) (bare : Bool) (t : ByteArray), Rows_ raw bare → runS (quoteR cs raw bare ++ rest) false 0 l t = runS rest false 0 l (t ++ joinB raw ++ joinB cs)
 | [], raw, bare, t, h => by
  rw [show joinB [] = (⟨#[]⟩ : ByteArray) from rfl, app_empty]
  exact run_row rest hr l raw bare t h
 | c :: cs, raw, bare, t, h => by
  show _ = runS rest false 0 l (t ++ joinB raw ++ (c ++ joinB cs))
  have e : t ++ joinB raw ++ (c ++ joinB cs) = t ++ joinB (raw ++ [c]) ++ joinB cs := by
   rw [join_app, join_one, app_assoc, app_assoc, app_assoc]
  simp only [quoteR]
  by_cases hq : quoteC c
  ·rw [if_pos hq, e]
   refine run_quote rest hr l cs _ bare t ?_
   exact aP53
  ·rw [if_neg hq]
   by_cases hn : (decide (0 < kindS c) || letB c) = true
   ·rw [if_pos hn, e]
    refine run_quote rest hr l cs _ false t ?_
    unfold Rows_
    simp only [Bool.false_eq_true, if_false]
    exact ⟨c, by simp, hq⟩
   ·rw [if_neg hn]
    have ih := run_quote rest hr l cs [] true (t ++ joinB raw ++ c) (by unfold Rows_; simp)
    rw [show joinB [] = (⟨#[]⟩ : ByteArray) from rfl, app_empty, app_assoc (t ++ joinB raw)] at ih
    rw [← ih, List.append_assoc, run_row _ (by show decide (quoteC c) = false; exact dFa hq) l raw bare t h]
    simp only [List.cons_append]
    conv => lhs; unfold runS
    simp only [Bool.or_eq_true, decide_eq_true_eq, not_or] at hn
    rw [if_neg hq, if_pos rfl, if_neg hn.1, if_neg hn.2]
def plusC : ByteArray := ⟨#[43]⟩
def percC : ByteArray := ⟨#[37]⟩
def permC : ByteArray := ⟨#[226, 128, 176]⟩
def currC : ByteArray := ⟨#[194, 164]⟩
def signC (k : Int) : ByteArray := if k = 1 then minusC else if k = 2 then plusC else if k = 3 then percC else permC
def tokR (t : S53) : List ByteArray := if t.f0 = 0 then quoteT t.f2 else if t.f0 = 5 then List.replicate t.f1.toNat currC else [signC t.f0]
def allR (l : List S53) : List ByteArray := (l.map tokR).flatten
theorem signs_rune : IsRune minusC ∧ IsRune plusC ∧ IsRune percC ∧ IsRune permC ∧ IsRune currC := by unfold IsRune; decide +kernel
theorem signs_kind : kindS minusC = 1 ∧ kindS plusC = 2 ∧ kindS percC = 3 ∧ kindS permC = 4 ∧ kindS currC = 5 := by decide +kernel
theorem signs_quote : ¬ quoteC minusC ∧ ¬ quoteC plusC ∧ ¬ quoteC percC ∧ ¬ quoteC permC ∧ ¬ quoteC currC := by unfold quoteC; decide +kernel
theorem sign_rune (k : Int) : IsRune (signC k) := by
 obtain ⟨h1, h2, h3, h4, _⟩ := signs_rune
 unfold signC
 split
 ·exact h1
 split
 ·exact h2
 split
 ·exact h3
 exact h4
theorem signC_quote (k : Int) : ¬ quoteC (signC k) := by
 obtain ⟨h1, h2, h3, h4, _⟩ := signs_quote
 unfold signC
 split
 ·exact h1
 split
 ·exact h2
 split
 ·exact h3
 exact h4
theorem signC_kind {k : Int} (h : k = 1 ∨ k = 2 ∨ k = 3 ∨ k = 4) : kindS (signC k) = k := by
 obtain ⟨h1, h2, h3, h4, _⟩ := signs_kind
 rcases h with rfl | rfl | rfl | rfl
 ·exact h1
 ·exact h2
 ·exact h3
 ·exact h4
theorem single_tells {t : S53} (h : singleS t = true) : (t.f0 = 0 ∧ t.f2.toList ≠ [] ∧ t = ⟨0, 0, t.f2⟩ ∧ 0 ≤ runesS t.f2) ∨ ((t.f0 = 1 ∨ t.f0 = 2 ∨ t.f0 = 3 ∨ t.f0 = 4) ∧ t = ⟨t.f0, 0, ⟨#[]⟩⟩) ∨ (t = ⟨5, 1, ⟨#[]⟩⟩ ∨ t = ⟨5, 2, ⟨#[]⟩⟩ ∨ t = ⟨5, 3, ⟨#[]⟩⟩) := by
 obtain ⟨a, b, c⟩ := t
 have hnil : c.toList = [] → c = ⟨#[]⟩ := fun e => bytes_of c [] (by rw [← Lib.toList_data]; exact e)
 unfold singleS at h
 simp only at h ⊢
 by_cases h0 : a = 0
 ·rw [if_pos h0] at h
  by_cases h2 : c.toList = []
  ·rw [if_pos h2] at h; exact absurd h (by decide)
  ·rw [if_neg h2] at h
   by_cases h1 : b = 0
   ·rw [if_pos h1] at h
    subst h0; subst h1
    exact .inl ⟨rfl, h2, rfl, of_decide_eq_true h⟩
   ·rw [if_neg h1] at h; exact absurd h (by decide)
 ·rw [if_neg h0] at h
  by_cases h14 : a = 1 ∨ a = 2 ∨ a = 3 ∨ a = 4
  ·rw [if_pos h14] at h
   by_cases h2 : c.toList = []
   ·rw [if_pos h2] at h
    have : b = 0 := by simpa using h
    subst this
    exact .inr (.inl ⟨h14, by rw [hnil h2]⟩)
   ·rw [if_neg h2] at h; exact absurd h (by decide)
  ·rw [if_neg h14] at h
   by_cases h5 : a = 5
   ·rw [if_pos h5] at h
    by_cases h2 : c.toList = []
    ·rw [if_pos h2] at h
     by_cases h1 : b ≥ 1
     ·rw [if_pos h1] at h
      have h3 : b ≤ 3 := of_decide_eq_true h
      subst h5
      rw [hnil h2]
      have : b = 1 ∨ b = 2 ∨ b = 3 := by omega
      rcases this with rfl | rfl | rfl
      ·exact .inr (.inr (.inl rfl))
      ·exact .inr (.inr (.inr (.inl rfl)))
      ·exact .inr (.inr (.inr (.inr rfl)))
     ·rw [if_neg h1] at h; exact absurd h (by decide)
    ·rw [if_neg h2] at h; exact absurd h (by decide)
   ·rw [if_neg h5] at h; exact absurd h (by decide)
theorem tok_rune (t : S53) : ∀ c ∈ tokR t, IsRune c := by
 intro c hc
 unfold tokR at hc
 split at hc
 ·exact quoteR_rune _ _ _ (runesAt_runes t.f2 t.f2.size 0 (Int.le_refl _) (by omega) (by omega)) (fun c hc => by cases hc) c hc
 ·split at hc
  ·rw [(List.mem_replicate.1 hc).2]; exact signs_rune.2.2.2.2
  ·rw [List.mem_singleton.1 hc]; exact sign_rune _
theorem all_rune (l : List S53) : ∀ c ∈ allR l, IsRune c := by
 intro c hc
 unfold allR at hc
 rw [List.mem_flatten] at hc
 obtain ⟨x, hx, hc⟩ := hc
 obtain ⟨t, _, rfl⟩ := List.mem_map.1 hx
 exact tok_rune t c hc
theorem all_cons (t : S53) (r : List S53) : allR (t :: r) = tokR t ++ allR r := rfl
theorem next_all {t : S53} {r : List S53} (h : goodL (some t) r = true) (h0 : t.f0 = 0) : nextQ (allR r) = false := by
 cases r with
 | nil => rfl
 | cons u r =>
  rw [goodL_cons, Bool.and_eq_true, Bool.and_eq_true] at h
  obtain ⟨h1, h2, _⟩ := h
  rw [all_cons]
  unfold tokR
  by_cases hu : u.f0 = 0
  ·rw [twice_eq t u (by omega), hu] at h1; exact absurd h1 (by decide)
  rw [if_neg hu]
  rcases single_tells h2 with ⟨h, _⟩ | ⟨h, _⟩ | h | h | h
  ·exact absurd h hu
  ·rw [if_neg (by omega)]
   exact dFa (signC_quote _)
  all_goals
   subst h
   exact dFa signs_quote.2.2.2.2
theorem end_nil (l : List S53) : endL l ⟨#[]⟩ = l := by
 unfold endL
 rw [if_pos (by rw [Lib.toList_data])]
theorem run_sign {c : ByteArray} {k : Int} (hq : ¬ quoteC c) (hk : kindS c = k) (h0 : 0 < k) (rest : List ByteArray) (L : List S53) (t : ByteArray) (hs : (signL (endL L t) k).2 = true) : runS (c :: rest) false 0 L t = runS rest false 0 (signL (endL L t) k).1 ⟨#[]⟩ := by
 conv => lhs; unfold runS
 rw [if_neg hq, if_pos rfl, hk, if_pos h0, if_pos hs]
theorem sign_first (P : List S53) (k : Int) (h : k ≠ 5 ∨ LastNC P) : signL P k = (P ++ [⟨k, if k = 5 then 1 else 0, ⟨#[]⟩⟩], true) := by
 unfold signL
 rw [if_neg]
 rintro ⟨h1, h2, h3⟩
 rcases h with h | h
 ·exact h h1
 ·exact h h2 h3
theorem sign_more (P : List S53) (n : Int) (hn : n = 1 ∨ n = 2) : signL (P ++ [⟨5, n, ⟨#[]⟩⟩]) 5 = (P ++ [⟨5, n + 1, ⟨#[]⟩⟩], true) := by
 have e : (P ++ [(⟨5, n, ⟨#[]⟩⟩ : S53)]).length - 1 = P.length := by rw [List.length_append]; simp
 have er : rd_T53 (P ++ [(⟨5, n, ⟨#[]⟩⟩ : S53)]) ((P.length : Nat) : Int) = ⟨5, n, ⟨#[]⟩⟩ := by
  rw [rd_get _ _ (by rw [List.length_append]; simp), List.getElem_append_right (Nat.le_refl _)]
  simp
 have w : wrap64 (n + 1) = n + 1 := by unfold wrap64; omega
 unfold signL
 rw [e, er]
 simp only
 rw [if_pos ⟨trivial, by rw [List.length_append]; simp, trivial⟩, w, List.set_append_right _ _ (Nat.le_refl _), Nat.sub_self, List.set_cons_zero]
 rw [dTr (by omega)]
def Tied (p : Option S53) (L : List S53) (t : ByteArray) : Prop :=
 (∀ q, p = some q → ∃ P, endL L t = P ++ [q]) ∧ (p = none → endL L t = []) ∧ (t.toList ≠ [] → ∃ q, p = some q ∧ q.f0 = 0)
theorem tied_lastNC {p : Option S53} {L : List S53} {t : ByteArray} (h : Tied p L t) {u : S53} (hu : u.f0 = 5) (ht : twice p u = false) : LastNC (endL L t) := by
 cases p with
 | none => rw [h.2.1 rfl]; intro h; exact absurd h (by simp)
 | some q =>
  obtain ⟨P, e⟩ := h.1 q rfl
  rw [e]
  intro _
  have e1 : (P ++ [q]).length - 1 = P.length := by rw [List.length_append]; simp
  rw [e1, rd_get _ _ (by rw [List.length_append]; simp), List.getElem_append_right (Nat.le_refl _)]
  simp only [Nat.sub_self, List.getElem_cons_zero]
  intro hq
  rw [twice_eq q u (by omega), hu] at ht
  exact absurd ht (by decide)
theorem run_all : ∀ (l : List S53) (p : Option S53) (L : List S53) (t : ByteArray), goodL p l = true → Tied p L t → ∃ L' t', runS (allR l) false 0 L t = some (0, L', t') ∧ endL L' t' = endL L t ++ l
 | [], p, L, t, _, _ => ⟨L, t, rfl, by rw [List.append_nil]⟩
 | u :: r, p, L, t, hg, ht => by
  rw [goodL_cons, Bool.and_eq_true, Bool.and_eq_true] at hg
  obtain ⟨h1, h2, h3⟩ := hg
  have h1' : twice p u = false := by simpa using h1
  rw [all_cons]
  have fin : ∀ L1 t1, runS (tokR u ++ allR r) false 0 L t = runS (allR r) false 0 L1 t1 → endL L1 t1 = endL L t ++ [u] → (t1.toList ≠ [] → u.f0 = 0) → ∃ L' t', runS (tokR u ++ allR r) false 0 L t = some (0, L', t') ∧ endL L' t' = endL L t ++ (u :: r) := by
   intro L1 t1 e1 e2 e3
   obtain ⟨L', t', a, b⟩ := run_all r (some u) L1 t1 h3 ⟨fun q hq => ⟨endL L t, by cases hq; exact e2⟩, (fun h => by cases h), fun h => ⟨u, rfl, e3 h⟩⟩
   refine ⟨L', t', by rw [e1]; exact a, ?_⟩
   rw [b, e2, List.append_assoc]
   rfl
  rcases single_tells h2 with ⟨h0, hn, hu, hv⟩ | ⟨hk, hu⟩ | hu
  ·have htn : t = ⟨#[]⟩ := by
    by_cases e : t.toList = []
    ·exact bytes_of t [] (by rw [← Lib.toList_data]; exact e)
    ·obtain ⟨q, hq, hq0⟩ := ht.2.2 e
     rw [hq, twice_eq q u (by omega), h0] at h1'
     exact absurd h1' (by decide)
   subst htn
   have hnx := next_all h3 h0
   refine fin L u.f2 ?_ ?_ (fun _ => h0)
   ·unfold tokR
    rw [if_pos h0]
    unfold quoteT
    rw [run_quote (allR r) hnx L (runesAt u.f2 0).1 [] true ⟨#[]⟩ (by unfold Rows_; simp)]
    rw [show joinB [] = (⟨#[]⟩ : ByteArray) from rfl, app_empty, nil_app, join_runes u.f2 u.f2.size 0 (Int.le_refl _) (by omega) (by omega) (runes_valid _ hv)]
    congr 1
    exact ByteArray.extract_zero_size
   ·rw [end_nil]
    unfold endL
    rw [if_neg hn, ← hu]
  ·have hsf := sign_first (endL L t) u.f0 (.inl (by omega))
   refine fin (endL L t ++ [u]) ⟨#[]⟩ ?_ (end_nil _) (fun h => absurd (by rw [Lib.toList_data]) h)
   have et : tokR u = [signC u.f0] := aP122
   rw [et, List.singleton_append, run_sign (signC_quote _) (signC_kind hk) (by omega) _ L t (by rw [hsf]), hsf]
   simp only
   rw [if_neg (show ¬ u.f0 = 5 by omega), ← hu]
  ·have h5 : u.f0 = 5 := by rcases hu with rfl | rfl | rfl <;> rfl
   have hl := tied_lastNC ht h5 h1'
   have hsf := sign_first (endL L t) 5 (.inr hl)
   rw [if_pos rfl] at hsf
   have q := signs_quote.2.2.2.2
   have k := signs_kind.2.2.2.2
   have s1 : ∀ rest, runS (currC :: rest) false 0 L t = runS rest false 0 (endL L t ++ [⟨5, 1, ⟨#[]⟩⟩]) ⟨#[]⟩ := by
    intro rest
    rw [run_sign q k (by decide) rest L t (by rw [hsf]), hsf]
   have s2 : ∀ rest n, n = 1 ∨ n = 2 → runS (currC :: rest) false 0 (endL L t ++ [⟨5, n, ⟨#[]⟩⟩]) ⟨#[]⟩ = runS rest false 0 (endL L t ++ [⟨5, n + 1, ⟨#[]⟩⟩]) ⟨#[]⟩ := by
    intro rest n hn
    have hm := sign_more (endL L t) n hn
    rw [run_sign q k (by decide) rest _ _ (by rw [end_nil, hm]), end_nil, hm]
   refine fin (endL L t ++ [u]) ⟨#[]⟩ ?_ (end_nil _) (fun h => absurd (by rw [Lib.toList_data]) h)
   rcases hu with rfl | rfl | rfl
   ·show runS (currC :: allR r) false 0 L t = _
    rw [s1]
   ·show runS (currC :: currC :: allR r) false 0 L t = _
    rw [s1, s2 _ 1 (.inl rfl)]
    rfl
   ·show runS (currC :: currC :: currC :: allR r) false 0 L t = _
    rw [s1, s2 _ 1 (.inl rfl)]
    have := s2 (allR r) 2 (.inr rfl)
    exact this
theorem parse_all (l : List S53) (h : checkS l = 0) : parseT (joinB (allR l)) = (l, 0) := by
 have hg : goodL none l = true := by
  rcases check_cases l with ⟨h', _⟩ | ⟨h', _⟩
  ·rw [h'] at h; exact absurd h (by decide)
  ·exact h'
 obtain ⟨L', t', a, b⟩ := run_all l none [] ⟨#[]⟩ hg ⟨fun q hq => (by cases hq), fun _ => end_nil [], fun h => absurd (by rw [Lib.toList_data]) h⟩
 rw [parseT_run, runes_join _ (all_rune l), a]
 simp only [tellS, finishS]
 rw [b, end_nil, List.nil_append, if_neg (by simp), if_neg (by decide), if_pos h]
theorem join_size (l : List ByteArray) : (joinB l).size ≤ tot l := by
 induction l with
 | nil => exact Nat.le_refl _
 | cons c cs ih => show (c ++ joinB cs).size ≤ c.size + 1 + tot cs; rw [ByteArray.size_append]; omega
theorem tot_app (a b : List ByteArray) : tot (a ++ b) = tot a + tot b := by
 induction a with
 | nil => simp [tot]
 | cons c cs ih => show c.size + 1 + tot (cs ++ b) = c.size + 1 + tot cs + tot b; rw [ih]; omega
theorem tot_dbl (l : List ByteArray) : tot (dbl l) ≤ 4 * tot l := by
 induction l with
 | nil => exact Nat.le_refl _
 | cons c cs ih =>
  simp only [dbl]
  split
  ·show Qc.size + 1 + (Qc.size + 1 + tot (dbl cs)) ≤ 4 * (c.size + 1 + tot cs)
   have : Qc.size = 1 := rfl
   omega
  ·show c.size + 1 + tot (dbl cs) ≤ 4 * (c.size + 1 + tot cs)
   omega
theorem tot_wrap (l : List ByteArray) (b : Bool) : tot (wrapR l b) ≤ 4 * tot l + 4 := by
 have := tot_dbl l
 unfold wrapR
 cases b
 ·show Qc.size + 1 + tot (dbl l ++ [Qc]) ≤ _
  rw [tot_app]
  have : Qc.size = 1 := rfl
  have : tot [Qc] = 2 := rfl
  omega
 ·show tot (dbl l) ≤ _
  omega
theorem tot_quote : ∀ (cs raw : List ByteArray) (b : Bool), tot (quoteR cs raw b) ≤ 4 * tot raw + 8 * tot cs + 4
 | [], raw, b => by have := tot_wrap raw b; show tot (wrapR raw b) ≤ 4 * tot raw + 8 * 0 + 4; omega
 | c :: cs, raw, b => by
  have e : tot (raw ++ [c]) = tot raw + (c.size + 1) := by rw [tot_app]; rfl
  have ec : tot (c :: cs) = c.size + 1 + tot cs := rfl
  simp only [quoteR]
  split
  ·have := tot_quote cs (raw ++ [c]) b; omega
  ·split
   ·have := tot_quote cs (raw ++ [c]) false; omega
   ·have h1 := tot_quote cs [] true
    have h2 := tot_wrap raw b
    have h3 : tot ([] : List ByteArray) = 0 := rfl
    rw [tot_app]
    show tot (wrapR raw b) + (c.size + 1 + tot (quoteR cs [] true)) ≤ _
    omega
theorem tok_size (t : S53) (h : singleS t = true) : tot (tokR t) ≤ 16 * t.f2.size + 12 := by
 rcases single_tells h with ⟨h0, hn, hu, hv⟩ | ⟨hk, hu⟩ | hu
 ·unfold tokR
  rw [if_pos h0]
  have h1 := tot_quote (runesAt t.f2 0).1 [] true
  have h2 := tot_runes t.f2 t.f2.size 0 (Int.le_refl _) (by omega) (by omega)
  have h3 : tot ([] : List ByteArray) = 0 := rfl
  unfold quoteT
  omega
 ·have et : tokR t = [signC t.f0] := aP122
  rw [et]
  have : (signC t.f0).size ≤ 3 := by unfold signC; (repeat' split) <;> decide
  show (signC t.f0).size + 1 + 0 ≤ _
  omega
 ·rcases hu with rfl | rfl | rfl <;> decide
def sumT : List S53 → Nat
 | [] => 0
 | t :: r => t.f2.size + sumT r
theorem good_single : ∀ (l : List S53) (p : Option S53), goodL p l = true → ∀ t ∈ l, singleS t = true
 | [], p, _, t, ht => by cases ht
 | u :: r, p, h, t, ht => by
  rw [goodL_cons, Bool.and_eq_true, Bool.and_eq_true] at h
  rw [List.mem_cons] at ht
  rcases ht with rfl | ht
  ·exact h.2.1
  ·exact good_single r _ h.2.2 t ht
theorem all_size : ∀ (l : List S53), (∀ t ∈ l, singleS t = true) → tot (allR l) ≤ 16 * sumT l + 12 * l.length
 | [], _ => Nat.le_refl _
 | t :: r, h => by
  have h1 := tok_size t (h t (by simp))
  have h2 := all_size r (fun u hu => h u (by simp [hu]))
  rw [all_cons, tot_app]
  show _ ≤ 16 * (t.f2.size + sumT r) + 12 * (r.length + 1)
  omega
theorem bytes_sum (N : Nat) (hN : N ≤ 4194304) : ∀ (l : List S53) (b : Int), Texts l N → 0 ≤ b → b + 4194304 * l.length ≤ 4611686018427387904 → bytesL l b = b + sumT l
 | [], b, _, _, _ => by show b = b + ((0 : Nat) : Int); omega
 | t :: r, b, ht, h0, h1 => by
  have h2 := ht t (by simp)
  rw [List.length_cons] at h1
  have w : wrap64 (b + t.f2.size) = b + t.f2.size := by unfold wrap64; omega
  rw [bytesL_cons, w, bytes_sum N hN r (b + t.f2.size) (fun u hu => ht u (by simp [hu])) (by omega) (by omega)]
  show _ = b + ((t.f2.size + sumT r : Nat) : Int)
  omega
theorem check_zero {l : List S53} (h : checkS l = 0) : goodL none l = true ∧ l.length ≤ 64 ∧ bytesL l 0 ≤ 64 := by
 unfold checkS at h
 rw [check_good] at h
 by_cases hg : goodL none l = true
 ·rw [if_pos hg] at h
  by_cases h1 : (l.length : Int) > 64
  ·rw [if_pos h1] at h; exact absurd h (by decide)
  ·rw [if_neg h1] at h
   by_cases h2 : bytesL l 0 > 64
   ·rw [if_pos h2] at h; exact absurd h (by decide)
   ·exact ⟨hg, by omega, by omega⟩
 ·rw [if_neg hg] at h; exact absurd h (by decide)
theorem sum_mem : ∀ (l : List S53) (t : S53), t ∈ l → t.f2.size ≤ sumT l
 | [], t, h => by cases h
 | u :: r, t, h => by
  rw [List.mem_cons] at h
  show _ ≤ u.f2.size + sumT r
  rcases h with rfl | h
  ·omega
  ·have := sum_mem r t h; omega
theorem rep1 : strings_Repeat.f (⟨#[194, 164]⟩ : ByteArray) 1 = some (joinB [currC]) := by decide +kernel
theorem rep2 : strings_Repeat.f (⟨#[194, 164]⟩ : ByteArray) 2 = some (joinB [currC, currC]) := by decide +kernel
theorem rep3 : strings_Repeat.f (⟨#[194, 164]⟩ : ByteArray) 3 = some (joinB [currC, currC, currC]) := by decide +kernel
theorem print_l (l : List S53) (hl : l.length ≤ 64) (hs : ∀ t ∈ l, singleS t = true) (ht : Texts l 64) (K : Nat) : ∀ (d i : Nat) (x : ByteArray), i + d = l.length → x.size ≤ 2000 * i →
  affix_Print.l0 (K + d + 1) x l (l.length : Int) (i : Int) = some (x ++ joinB (allR (l.drop i)), 0)
 | 0, i, x, hi, hx => by
  simp only [affix_Print.l0]
  rw [if_neg (by omega), List.drop_eq_nil_of_le (by omega)]
  show _ = some (x ++ (⟨#[]⟩ : ByteArray), 0)
  rw [app_empty]
 | d + 1, i, x, hi, hx => by
  have hlt : i < l.length := by omega
  have W1 := aMk (show wrap64 ((i : Int) + 1) = ((i + 1 : Nat) : Int) by unfold wrap64; omega)
  have ih := fun x => print_l l hl hs ht K d (i + 1) x (by omega)
  obtain ⟨m, hm⟩ : ∃ m, K + d + 1 = m := ⟨_, rfl⟩
  rw [show K + (d + 1) + 1 = m + 1 by omega]
  rw [hm] at ih
  have hsg := hs l[i] (List.getElem_mem hlt)
  have htx := ht l[i] (List.getElem_mem hlt)
  have hsz := tok_size l[i] hsg
  have hjs := join_size (tokR l[i])
  have fin : ∀ y : ByteArray, y = joinB (tokR l[i]) → (x.size + y.size ≤ 9223372036854775807 ∧ affix_Print.l0 m (x ++ y) l (l.length : Int) ((i + 1 : Nat) : Int) = some (x ++ joinB (allR (l.drop i)), 0)) := by
   intro y hy
   subst hy
   refine ⟨by omega, ?_⟩
   rw [ih _ (aP121), List.drop_eq_getElem_cons hlt, all_cons, join_app, app_assoc]
  have e1 := rd_get l i hlt
  simp only [affix_Print.l0]
  rw [if_pos (show ((i : Int) < (l.length : Int)) by omega), if_pos (show (0 : Int) ≤ (i : Int) by omega), if_pos (show ((i : Int) < (l.length : Int)) by omega), e1, W1.out]
  rcases single_tells hsg with ⟨h0, hn, hu, hv⟩ | ⟨hk, hu⟩ | hu
  ·rw [if_pos h0, quote_eq _ (by omega) hv, Option.bind_some]
   obtain ⟨f1, f2⟩ := fin (joinB (quoteT l[i].f2)) (by unfold tokR; rw [if_pos h0])
   rw [if_pos f1, f2]
  ·have et : tokR l[i] = [signC l[i].f0] := aP122
   rw [et, join_one] at fin
   rw [if_neg (by omega)]
   rcases hk with hk | hk | hk | hk
   ·rw [hk] at fin ⊢
    obtain ⟨f1, f2⟩ := fin ⟨#[45]⟩ rfl
    rw [if_pos rfl, if_pos (show x.size + 1 ≤ 9223372036854775807 from f1), f2]
   ·rw [hk] at fin ⊢
    obtain ⟨f1, f2⟩ := fin ⟨#[43]⟩ rfl
    rw [if_neg (by decide), if_pos rfl, if_pos (show x.size + 1 ≤ 9223372036854775807 from f1), f2]
   ·rw [hk] at fin ⊢
    obtain ⟨f1, f2⟩ := fin ⟨#[37]⟩ rfl
    rw [if_neg (by decide), if_neg (by decide), if_pos rfl, if_pos (show x.size + 1 ≤ 9223372036854775807 from f1), f2]
   ·rw [hk] at fin ⊢
    obtain ⟨f1, f2⟩ := fin ⟨#[226, 128, 176]⟩ rfl
    rw [if_neg (by decide), if_neg (by decide), if_neg (by decide), if_pos rfl, if_pos (show x.size + 3 ≤ 9223372036854775807 from f1), f2]
  ·rcases hu with hu | hu | hu
   ·rw [hu] at fin ⊢
    obtain ⟨f1, f2⟩ := fin (joinB [currC]) rfl
    simp only
    rw [if_neg (by decide), if_neg (by decide), if_neg (by decide), if_neg (by decide), if_neg (by decide), rep1, Option.bind_some, if_pos f1, f2]
   ·rw [hu] at fin ⊢
    obtain ⟨f1, f2⟩ := fin (joinB [currC, currC]) rfl
    simp only
    rw [if_neg (by decide), if_neg (by decide), if_neg (by decide), if_neg (by decide), if_neg (by decide), rep2, Option.bind_some, if_pos f1, f2]
   ·rw [hu] at fin ⊢
    obtain ⟨f1, f2⟩ := fin (joinB [currC, currC, currC]) rfl
    simp only
    rw [if_neg (by decide), if_neg (by decide), if_neg (by decide), if_neg (by decide), if_neg (by decide), rep3, Option.bind_some, if_pos f1, f2]
def printT (l : List S53) : ByteArray × Int := if checkS l = 0 then (joinB (allR l), 0) else (⟨#[]⟩, checkS l)
theorem texts_zero (l : List S53) (N : Nat) (hN : N ≤ 4194304) (hl : Texts l N) (hb : l.length ≤ 16777216) (h : checkS l = 0) : goodL none l = true ∧ l.length ≤ 64 ∧ sumT l ≤ 64 ∧ Texts l 64 := by
 obtain ⟨h1, h2, h3⟩ := check_zero h
 have := bytes_sum N hN l 0 hl (Int.le_refl _) (by omega)
 exact ⟨h1, h2, by omega, fun t ht => Nat.le_trans (sum_mem l t ht) (by omega)⟩
theorem print_size (l : List S53) (N : Nat) (hN : N ≤ 4194304) (hl : Texts l N) (hb : l.length ≤ 16777216) : (printT l).1.size ≤ 2000 := by
 unfold printT
 by_cases h : checkS l = 0
 ·rw [if_pos h]
  obtain ⟨h1, h2, h3, h4⟩ := texts_zero l N hN hl hb h
  have := all_size l (good_single l none h1)
  have := join_size (allR l)
  show (joinB (allR l)).size ≤ 2000
  omega
 ·rw [if_neg h]; exact Nat.zero_le _
theorem parse_error (s : ByteArray) (h : (parseT s).2 ≠ 0) : (parseT s).1 = [] := by
 rw [parseT_run] at h ⊢
 generalize runS (runesAt s 0).1 false 0 [] ⟨#[]⟩ = o at h ⊢
 cases o with
 | none => rfl
 | some x =>
  obtain ⟨a, b, c⟩ := x
  simp only [tellS, finishS] at h ⊢
  split
  ·rfl
  ·rename_i h1
   rw [if_neg h1] at h
   split
   ·rfl
   ·rename_i h2
    rw [if_neg h2] at h
    split
    ·rename_i h3
     rw [if_pos h3] at h
     exact absurd rfl h
    ·rfl
theorem rdC (cs : List ByteArray) (j : Nat) (h : j < cs.length) : rdOf ByteArray.empty cs (j : Int) = cs[j] := by
 show cs.getD (j : Int).toNat _ = _
 rw [Int.toNat_natCast, List.getD_eq_getElem?_getD, List.getElem?_eq_getElem h]
 rfl
def needB (c : ByteArray) : Bool := decide (0 < kindS c) || letB c
theorem text_step (cs : List ByteArray) (hcs : ∀ c ∈ cs, IsRune c) (j : Nat) (hj : j < cs.length) (k : Nat) (out : ByteArray) (i : Int) (bare : Bool) (row : ByteArray) :
  quipuref13_text.l1 (k + 1) cs out i (j : Int) bare row = quipuref13_text.j2 k cs out i (j : Int) bare row (decide (quoteC cs[j]) || needB cs[j]) := by
 simp only [quipuref13_text.l1]
 rw [if_pos (show (j : Int) < (cs.length : Int) by omega), if_pos (show (0 : Int) ≤ (j : Int) by omega), rdC cs j hj]
 by_cases hq : quoteC cs[j]
 ·rw [if_pos (show (cs[j]).toList = ([39] : List UInt8) from hq), dTr hq, Bool.true_or]
 ·rw [if_neg (show ¬ (cs[j]).toList = ([39] : List UInt8) from hq), dFa hq, Bool.false_or, sign_eq, Option.bind_some]
  unfold needB
  by_cases hk : 0 < kindS cs[j]
  ·rw [if_pos (show kindS cs[j] > 0 from hk), dTr hk, Bool.true_or]
  ·rw [if_neg (show ¬ kindS cs[j] > 0 from hk), dFa hk, Bool.false_or, letter_eq (hcs _ (List.getElem_mem hj)), Option.bind_some]
theorem text_loop (cs : List ByteArray) (hcs : ∀ c ∈ cs, IsRune c) (hc4 : ∀ c ∈ cs, c.size ≤ 4) (hn : cs.length ≤ 1048576) : ∀ (d : Nat),
  (∀ (i : Nat) (out : ByteArray) (K : Nat), i + d = cs.length → 6 * d + 1 ≤ K → out.size ≤ 20 * i → quipuref13_text.l0 K cs out (i : Int) = some (out ++ joinB (quoteR (cs.drop i) [] true))) ∧
  (∀ (j i : Nat) (raw : List ByteArray) (bare : Bool) (out : ByteArray) (K : Nat), j + d = cs.length → i + raw.length = j → 0 < raw.length → 6 * d + 4 ≤ K → out.size ≤ 20 * i → (joinB (dbl raw)).size ≤ 8 * raw.length →
   quipuref13_text.l1 K cs out (i : Int) (j : Int) bare (joinB (dbl raw)) = some (out ++ joinB (quoteR (cs.drop j) raw bare)))
 := by
  -- behind a row: it is laid down
  have flush : ∀ (d j i : Nat) (raw : List ByteArray) (bare : Bool) (out : ByteArray) (K : Nat), j + d = cs.length → i + raw.length = j → 0 < raw.length → out.size ≤ 20 * i → (joinB (dbl raw)).size ≤ 8 * raw.length →
    (∀ (i : Nat) (out : ByteArray), i + d = cs.length → out.size ≤ 20 * i → quipuref13_text.l0 K cs out (i : Int) = some (out ++ joinB (quoteR (cs.drop i) [] true))) →
    quipuref13_text.j2 (K + 1) cs out (i : Int) (j : Int) bare (joinB (dbl raw)) false = some (out ++ (joinB (wrapR raw bare) ++ joinB (quoteR (cs.drop j) [] true))) := by
   intro d j i raw bare out K hj hij hr ho hrs hA
   simp only [quipuref13_text.j2]
   rw [if_neg (by decide), if_neg (show ¬ (j : Int) = (i : Int) by omega)]
   cases bare
   ·have e0 : joinB (wrapR raw false) = (⟨#[39]⟩ : ByteArray) ++ joinB (dbl raw) ++ (⟨#[39]⟩ : ByteArray) := by
     show Qc ++ joinB (dbl raw ++ [Qc]) = _
     rw [join_app, join_one, app_assoc]
     rfl
    have s1 : ((⟨#[39]⟩ : ByteArray) ++ joinB (dbl raw)).size = 1 + (joinB (dbl raw)).size := by rw [ByteArray.size_append]; rfl
    have s2 : ((⟨#[39]⟩ : ByteArray) ++ joinB (dbl raw) ++ (⟨#[39]⟩ : ByteArray)).size = 1 + (joinB (dbl raw)).size + 1 := by rw [ByteArray.size_append, s1]; rfl
    rw [if_neg (by decide), if_pos (by omega), if_pos (by rw [s1]; omega), if_pos (by rw [s2]; omega), hA j _ hj (by rw [ByteArray.size_append, s2]; omega), e0, app_assoc]
   ·have e0 : joinB (wrapR raw true) = joinB (dbl raw) := rfl
    rw [if_pos rfl, if_pos (by omega), hA j _ hj (aP121), e0, app_assoc]
  -- a rune that is taken into the row
  have take : ∀ (j i : Nat) (raw : List ByteArray) (bare : Bool) (out : ByteArray) (K : Nat) (hj : j < cs.length), (joinB (dbl raw)).size ≤ 8 * raw.length → raw.length ≤ j → (decide (quoteC cs[j]) || needB cs[j]) = true →
    ∃ bare', (joinB (dbl (raw ++ [cs[j]]))).size ≤ 8 * (raw ++ [cs[j]]).length ∧ quipuref13_text.j2 (K + 1) cs out (i : Int) (j : Int) bare (joinB (dbl raw)) true = quipuref13_text.l1 K cs out (i : Int) ((j + 1 : Nat) : Int) bare' (joinB (dbl (raw ++ [cs[j]]))) ∧ quoteR (cs.drop j) raw bare = quoteR (cs.drop (j + 1)) (raw ++ [cs[j]]) bare' := by
   intro j i raw bare out K hj hrs hrj hd
   have hm := List.getElem_mem hj
   have h4 := hc4 _ hm
   have w : wrap64 ((j : Int) + 1) = ((j + 1 : Nat) : Int) := by unfold wrap64; omega
   rw [List.drop_eq_getElem_cons hj]
   simp only [quipuref13_text.j2, quoteR]
   rw [if_pos True.intro, if_pos (show (0 : Int) ≤ (j : Int) by omega), if_pos (show (j : Int) < (cs.length : Int) by omega), rdC cs j hj, w]
   by_cases hq : quoteC cs[j]
   ·have e : joinB (dbl raw) ++ (⟨#[39, 39]⟩ : ByteArray) = joinB (dbl (raw ++ [cs[j]])) := by
     rw [dbl_app, join_app]
     simp only [dbl]
     rw [if_pos hq]
     rfl
    have es : (joinB (dbl (raw ++ [cs[j]]))).size = (joinB (dbl raw)).size + 2 := by rw [← e, ByteArray.size_append]; rfl
    refine ⟨bare, by rw [es, List.length_append, List.length_singleton]; omega, ?_, ?_⟩
    ·rw [if_pos (show (cs[j]).toList = ([39] : List UInt8) from hq), if_pos (by omega), e]
    ·rw [if_pos hq]
   ·have e : joinB (dbl raw) ++ cs[j] = joinB (dbl (raw ++ [cs[j]])) := by
     rw [dbl_app, join_app]
     simp only [dbl]
     rw [if_neg hq, join_one]
    have es : (joinB (dbl (raw ++ [cs[j]]))).size = (joinB (dbl raw)).size + cs[j].size := by rw [← e, ByteArray.size_append]
    rw [dFa hq, Bool.false_or] at hd
    refine ⟨false, by rw [es, List.length_append, List.length_singleton]; omega, ?_, ?_⟩
    ·rw [if_neg (show ¬ (cs[j]).toList = ([39] : List UInt8) from hq), if_pos (by omega), e]
    ·rw [if_neg hq, if_pos (show (decide (0 < kindS cs[j]) || letB cs[j]) = true from hd)]
  intro d
  induction d with
  | zero =>
   have A0 : ∀ (i : Nat) (out : ByteArray) (K : Nat), i + 0 = cs.length → 6 * 0 + 1 ≤ K → out.size ≤ 20 * i → quipuref13_text.l0 K cs out (i : Int) = some (out ++ joinB (quoteR (cs.drop i) [] true)) := by
    intro i out K hi hK ho
    obtain ⟨k, rfl⟩ : ∃ k, K = k + 1 := ⟨K - 1, by omega⟩
    simp only [quipuref13_text.l0]
    rw [if_neg (by omega), List.drop_eq_nil_of_le (by omega)]
    show some out = some (out ++ (⟨#[]⟩ : ByteArray))
    rw [app_empty]
   refine ⟨A0, ?_⟩
   intro j i raw bare out K hj hij hr hK ho hrs
   obtain ⟨k, rfl⟩ : ∃ k, K = k + 1 + 1 := ⟨K - 2, by omega⟩
   have hfl := flush _ j i raw bare out k hj hij hr ho hrs (fun i out hi ho => A0 i out k hi (by omega) ho)
   rw [show quipuref13_text.l1 (k + 1 + 1) cs out (i : Int) (j : Int) bare (joinB (dbl raw)) = quipuref13_text.j2 (k + 1) cs out (i : Int) (j : Int) bare (joinB (dbl raw)) false by
    conv => lhs; unfold quipuref13_text.l1
    rw [if_neg (by omega)], hfl, List.drop_eq_nil_of_le (by omega)]
   show some (out ++ (joinB (wrapR raw bare) ++ (⟨#[]⟩ : ByteArray))) = _
   rw [app_empty]
   rfl
  | succ d ih =>
   obtain ⟨ihA, ihB⟩ := ih
   have B0 : ∀ (j : Nat) (out : ByteArray) (K : Nat), j + (d + 1) = cs.length → 6 * (d + 1) ≤ K → out.size ≤ 20 * j → quipuref13_text.l1 K cs out (j : Int) (j : Int) true (joinB (dbl [])) = some (out ++ joinB (quoteR (cs.drop j) [] true)) := by
    intro j out K hj hK ho
    obtain ⟨k, rfl⟩ : ∃ k, K = k + 1 + 1 := ⟨K - 2, by omega⟩
    have hlt : j < cs.length := by omega
    rw [text_step cs hcs j hlt]
    cases hd : (decide (quoteC cs[j]) || needB cs[j]) with
    | true =>
     obtain ⟨b', t1, t2, t3⟩ := take j j [] true out k hlt (Nat.zero_le _) (Nat.zero_le _) hd
     rw [t2, ihB (j + 1) j _ b' out k (by omega) (by simp) (by simp) (by omega) ho t1, t3]
    | false =>
     have w : wrap64 ((j : Int) + 1) = ((j + 1 : Nat) : Int) := by unfold wrap64; omega
     have h4 := hc4 _ (List.getElem_mem hlt)
     rw [Bool.or_eq_false_iff] at hd
     have hq : ¬ quoteC cs[j] := of_decide_eq_false hd.1
     rw [List.drop_eq_getElem_cons hlt]
     simp only [quipuref13_text.j2, quoteR]
     rw [if_neg (by decide), if_pos True.intro, if_pos (show (0 : Int) ≤ (j : Int) by omega), if_pos (show (j : Int) < (cs.length : Int) by omega), rdC cs j hlt, if_pos (by omega), w, ihA (j + 1) _ k (by omega) (by omega) (aP121)]
     rw [if_neg hq, if_neg (by have := hd.2; unfold needB at this; rw [this]; decide)]
     rw [app_assoc]
     rfl
   have A1 : ∀ (i : Nat) (out : ByteArray) (K : Nat), i + (d + 1) = cs.length → 6 * (d + 1) + 1 ≤ K → out.size ≤ 20 * i → quipuref13_text.l0 K cs out (i : Int) = some (out ++ joinB (quoteR (cs.drop i) [] true)) := by
    intro i out K hi hK ho
    obtain ⟨k, rfl⟩ : ∃ k, K = k + 1 := ⟨K - 1, by omega⟩
    have := B0 i out k hi (by omega) ho
    conv => lhs; unfold quipuref13_text.l0
    rw [if_pos (by omega)]
    exact this
   refine ⟨A1, ?_⟩
   intro j i raw bare out K hj hij hr hK ho hrs
   obtain ⟨k, rfl⟩ : ∃ k, K = k + 1 + 1 := ⟨K - 2, by omega⟩
   have hlt : j < cs.length := by omega
   rw [text_step cs hcs j hlt]
   cases hd : (decide (quoteC cs[j]) || needB cs[j]) with
   | true =>
    obtain ⟨b', t1, t2, t3⟩ := take j i raw bare out k hlt hrs (by omega) hd
    rw [t2, ihB (j + 1) i _ b' out k (by omega) (by rw [List.length_append, List.length_singleton]; omega) (by rw [List.length_append, List.length_singleton]; omega) (by omega) ho t1, t3]
   | false =>
    rw [flush _ j i raw bare out k hj hij hr ho hrs (fun i out hi ho => A1 i out k hi (by omega) ho)]
    rw [Bool.or_eq_false_iff] at hd
    have hq : ¬ quoteC cs[j] := of_decide_eq_false hd.1
    have hn2 : ¬ (decide (0 < kindS cs[j]) || letB cs[j]) = true := by have := hd.2; unfold needB at this; rw [this]; decide
    rw [List.drop_eq_getElem_cons hlt]
    simp only [quoteR]
    rw [if_neg hq, if_neg hn2, if_neg hq, if_neg hn2, show wrapR [] true ++ cs[j] :: quoteR (List.drop (j + 1) cs) [] true = cs[j] :: quoteR (List.drop (j + 1) cs) [] true from rfl, join_app]
theorem refText_eq (t : ByteArray) (hs : t.size ≤ 1048576) (hv : 0 ≤ runesS t) (K : Nat) (hK : 6 * t.size + 20 ≤ K) : quipuref13_text.f K t = some (joinB (quoteT t)) := by
 obtain ⟨h1, h2⟩ := runesAt_size t t.size 0 (Int.le_refl _) (by omega) (by omega)
 have hr := runesAt_runes t t.size 0 (Int.le_refl _) (by omega) (by omega)
 unfold quipuref13_text.f
 rw [refRunesT t hs K (by omega), Option.bind_some]
 have h := (text_loop (runesAt t 0).1 hr h1 (by omega) (runesAt t 0).1.length).1 0 ⟨#[]⟩ K (by omega) (by omega) (Nat.le_refl _)
 rw [nil_app, List.drop_zero] at h
 exact h
theorem refPrint_l (l : List S53) (hl : l.length ≤ 64) (hs : ∀ t ∈ l, singleS t = true) (ht : Texts l 64) : ∀ (d i K : Nat) (x : ByteArray), i + d = l.length → x.size ≤ 2000 * i → 2000 + 6 * d + 1 ≤ K →
  quipuref13_Print.l0 K l x (i : Int) = some (x ++ joinB (allR (l.drop i)), 0)
 | 0, i, K, x, hi, hx, hK => by
  obtain ⟨k, rfl⟩ : ∃ k, K = k + 1 := ⟨K - 1, by omega⟩
  simp only [quipuref13_Print.l0]
  rw [if_neg (by omega), List.drop_eq_nil_of_le (by omega)]
  show _ = some (x ++ (⟨#[]⟩ : ByteArray), 0)
  rw [app_empty]
 | d + 1, i, K, x, hi, hx, hK => by
  have hlt : i < l.length := by omega
  have W1 := aMk (show wrap64 ((i : Int) + 1) = ((i + 1 : Nat) : Int) by unfold wrap64; omega)
  have ih := fun x K => refPrint_l l hl hs ht d (i + 1) K x (by omega)
  obtain ⟨m, rfl⟩ : ∃ m, K = m + 1 + 1 + 1 + 1 + 1 + 1 := ⟨K - 6, by omega⟩
  have hsg := hs l[i] (List.getElem_mem hlt)
  have htx := ht l[i] (List.getElem_mem hlt)
  have hsz := tok_size l[i] hsg
  have hjs := join_size (tokR l[i])
  have fin : ∀ (y z : ByteArray) (K : Nat), z = x ++ y → y = joinB (tokR l[i]) → 2000 + 6 * d + 1 ≤ K → (x.size + y.size ≤ 9223372036854775807 ∧ quipuref13_Print.l0 K l z ((i + 1 : Nat) : Int) = some (x ++ joinB (allR (l.drop i)), 0)) := by
   intro y z K hz hy hK
   subst hz
   subst hy
   refine ⟨by omega, ?_⟩
   rw [ih _ K (aP121) hK, List.drop_eq_getElem_cons hlt, all_cons, join_app, app_assoc]
  have e1 := rd_get l i hlt
  have c1 : (i : Int) < (l.length : Int) := by omega
  have c2 : (0 : Int) ≤ (i : Int) := by omega
  conv => lhs; unfold quipuref13_Print.l0
  rw [if_pos c1, if_pos c2, e1, W1.out]
  rcases single_tells hsg with ⟨h0, hn, hu, hv⟩ | ⟨hk, hu⟩ | hu
  ·rw [if_pos h0, refText_eq _ (by omega) hv _ (by omega), Option.bind_some]
   obtain ⟨f1, f2⟩ := fin (joinB (quoteT l[i].f2)) _ (m + 1 + 1 + 1 + 1 + 1) rfl (by unfold tokR; rw [if_pos h0]) (by omega)
   rw [if_pos f1, f2]
  ·have et : tokR l[i] = [signC l[i].f0] := aP122
   rw [et, join_one] at fin
   rw [if_neg (by omega)]
   rcases hk with hk | hk | hk | hk
   ·rw [hk] at fin ⊢
    obtain ⟨f1, f2⟩ := fin ⟨#[45]⟩ _ (m + 1 + 1 + 1 + 1 + 1) rfl rfl (by omega)
    rw [if_pos rfl, if_pos (show x.size + 1 ≤ 9223372036854775807 from f1), f2]
   ·rw [hk] at fin ⊢
    obtain ⟨f1, f2⟩ := fin ⟨#[43]⟩ _ (m + 1 + 1 + 1 + 1 + 1) rfl rfl (by omega)
    rw [if_neg (by decide), if_pos rfl, if_pos (show x.size + 1 ≤ 9223372036854775807 from f1), f2]
   ·rw [hk] at fin ⊢
    obtain ⟨f1, f2⟩ := fin ⟨#[37]⟩ _ (m + 1 + 1 + 1 + 1 + 1) rfl rfl (by omega)
    rw [if_neg (by decide), if_neg (by decide), if_pos rfl, if_pos (show x.size + 1 ≤ 9223372036854775807 from f1), f2]
   ·rw [hk] at fin ⊢
    obtain ⟨f1, f2⟩ := fin ⟨#[226, 128, 176]⟩ _ (m + 1 + 1 + 1 + 1 + 1) rfl rfl (by omega)
    rw [if_neg (by decide), if_neg (by decide), if_neg (by decide), if_pos rfl, if_pos (show x.size + 3 ≤ 9223372036854775807 from f1), f2]
  ·have h5 : l[i].f0 = 5 := by rcases hu with hu | hu | hu <;> rw [hu]
   rw [if_neg (by omega), if_neg (by omega), if_neg (by omega), if_neg (by omega), if_neg (by omega)]
   -- one sign of a currency
   have step : ∀ (K : Nat) (z : ByteArray) (n f : Int), l[i].f1 = f → n < f → 0 ≤ n → n < 4 → z.size ≤ 2000 * 64 + 100 → quipuref13_Print.l1 (K + 1) l z (i : Int) n = quipuref13_Print.l1 K l (z ++ (⟨#[194, 164]⟩ : ByteArray)) (i : Int) (n + 1) := by
    intro K z n f hf hn h0 h4 hz
    have w : wrap64 (n + 1) = n + 1 := by unfold wrap64; omega
    conv => lhs; unfold quipuref13_Print.l1
    rw [if_pos c2, if_pos c1, e1, hf, if_pos hn, if_pos (by omega), w]
   have last : ∀ (K : Nat) (z : ByteArray) (n f : Int), l[i].f1 = f → ¬ n < f → quipuref13_Print.l1 (K + 1) l z (i : Int) n = quipuref13_Print.l0 K l z ((i + 1 : Nat) : Int) := by
    intro K z n f hf hn
    conv => lhs; unfold quipuref13_Print.l1
    rw [if_pos c2, if_pos c1, e1, hf, if_neg hn, W1.out]
   have s2 : ∀ z : ByteArray, (z ++ (⟨#[194, 164]⟩ : ByteArray)).size = z.size + 2 := fun z => by rw [ByteArray.size_append]; rfl
   have hx64 : x.size ≤ 2000 * 64 := by omega
   rcases hu with hu | hu | hu
   ·have hf : l[i].f1 = 1 := by rw [hu]
    rw [hu] at fin
    rw [step _ x 0 1 hf (by decide) (by decide) (by decide) (by omega), last _ _ (0 + 1) 1 hf (by decide)]
    exact (fin (joinB [currC]) _ _ (by rw [join_one]; rfl) rfl (by omega)).2
   ·have hf : l[i].f1 = 2 := by rw [hu]
    rw [hu] at fin
    rw [step _ x 0 2 hf (by decide) (by decide) (by decide) (by omega), step _ _ (0 + 1) 2 hf (by decide) (by decide) (by decide) (by rw [s2]; omega), last _ _ (0 + 1 + 1) 2 hf (by decide)]
    exact (fin (joinB [currC, currC]) _ _ (by rw [app_assoc]; rfl) rfl (by omega)).2
   ·have hf : l[i].f1 = 3 := by rw [hu]
    rw [hu] at fin
    rw [step _ x 0 3 hf (by decide) (by decide) (by decide) (by omega), step _ _ (0 + 1) 3 hf (by decide) (by decide) (by decide) (by rw [s2]; omega), step _ _ (0 + 1 + 1) 3 hf (by decide) (by decide) (by decide) (by rw [s2, s2]; omega), last _ _ (0 + 1 + 1 + 1) 3 hf (by decide)]
    exact (fin (joinB [currC, currC, currC]) _ _ (by rw [app_assoc, app_assoc]; rfl) rfl (by omega)).2
theorem bytes_wide : ∀ (l : List S53) (b : Int), Texts l 281474976710656 → 0 ≤ b → b + 281474976710656 * l.length ≤ 4611686018427387904 → bytesL l b = b + sumT l
 | [], b, _, _, _ => by show b = b + ((0 : Nat) : Int); omega
 | t :: r, b, ht, h0, h1 => by
  have h2 := ht t (by simp)
  rw [List.length_cons] at h1
  have w : wrap64 (b + t.f2.size) = b + t.f2.size := by unfold wrap64; omega
  rw [bytesL_cons, w, bytes_wide r (b + t.f2.size) (fun u hu => ht u (by simp [hu])) (by omega) (by omega)]
  show _ = b + ((t.f2.size + sumT r : Nat) : Int)
  omega
theorem texts_wide (l : List S53) (hl : Texts l 281474976710656) (h : checkS l = 0) : goodL none l = true ∧ l.length ≤ 64 ∧ sumT l ≤ 64 ∧ Texts l 64 := by
 obtain ⟨h1, h2, h3⟩ := check_zero h
 have := bytes_wide l 0 hl (Int.le_refl _) (by omega)
 exact ⟨h1, h2, by omega, fun t ht => Nat.le_trans (sum_mem l t ht) (by omega)⟩
theorem print_wide (l : List S53) (hl : Texts l 281474976710656) (hb : l.length ≤ 4398046511104) (K : Nat) (hK : 281474976710656 + l.length + 10000 ≤ K) : affix_Print.f K l = some (printT l) ∧ quipuref13_Print.f K l = some (printT l) := by
 have e1 := affixCheck_eq l 281474976710656 (Nat.le_refl _) hl (by omega) K (by omega)
 have e2 := refCheck_eq l 281474976710656 (Nat.le_refl _) hl (by omega) K (by omega)
 unfold affix_Print.f quipuref13_Print.f printT
 rw [e1, e2, Option.bind_some, Option.bind_some]
 by_cases h : checkS l = 0
 ·obtain ⟨h1, h2, h3, h4⟩ := texts_wide l hl h
  have hp := print_l l h2 (good_single l none h1) h4 (K - l.length - 1) l.length 0 ⟨#[]⟩ (by omega) (Nat.zero_le _)
  rw [show K - l.length - 1 + l.length + 1 = K by omega, nil_app] at hp
  have hq := refPrint_l l h2 (good_single l none h1) h4 l.length 0 K ⟨#[]⟩ (by omega) (Nat.zero_le _) (by omega)
  rw [nil_app] at hq
  rw [if_pos h, if_pos h, if_pos h]
  exact ⟨hp, hq⟩
 ·rw [if_neg h, if_neg h, if_neg h]
  exact ⟨rfl, rfl⟩
end Go.Proofs.Ytacnjemndfmbhaa.A
end
section
namespace Go.Proofs.Ytacnjemndfmbhaa.Q
open Go.RowKit Go.Proofs.Ytacnjemndfmbhaa.A Go.Proofs.YtacnjemndfmbhaaW.PrintWords Go.Proofs.YtacnjemndfmbhaaW.PrintLast Go.Proofs.YtacnjemndfmbhaaW.PrintMore
set_option linter.unusedVariables false
theorem seal0 {α : Type} (a : α) : ∃ b, b = a := ⟨a, rfl⟩
noncomputable def checkS : List S53 → Int := Classical.choose (seal0 A.checkS)
theorem checkS_eq : checkS = A.checkS := Classical.choose_spec (seal0 A.checkS)
noncomputable def printT : List S53 → ByteArray × Int := Classical.choose (seal0 A.printT)
theorem printT_eq : printT = A.printT := Classical.choose_spec (seal0 A.printT)
noncomputable def parseT : ByteArray → List S53 × Int := Classical.choose (seal0 A.parseT)
theorem parseT_eq : parseT = A.parseT := Classical.choose_spec (seal0 A.parseT)
noncomputable def runesS : ByteArray → Int := Classical.choose (seal0 R1.runesS)
theorem runesS_eq : runesS = R1.runesS := Classical.choose_spec (seal0 R1.runesS)
noncomputable def runeS : ByteArray → Int → Int := Classical.choose (seal0 R1.runeS)
theorem runeS_eq : runeS = R1.runeS := Classical.choose_spec (seal0 R1.runeS)
def TokOk (l : List S53) : Prop := Texts l 281474976710656 ∧ l.length < 4398046511104
noncomputable def runesT : List S53 → Int
 | [] => 0
 | t :: r => (if t.f0 = 0 then runesS t.f2 else if t.f0 = 5 then t.f1 else 1) + runesT r
theorem check_calls (A : Option Addr) (c : Nat) (l : List S53) (w : World) (hr : Kd.C k53 w A l.length l) (hc : l.length ≤ c) (ht : TokOk l) :
  Calls Try.prog 33 #[.slice A l.length c] w fun e w' => e = .returned (.int .i64 (checkS l)) ∧ Below w.heap.size w w' :=
 affix_Check.calls (281474976710656 + l.length + 21) A c l (checkS l) w hr hc (by rw [checkS_eq]; exact affixCheck_eq l 281474976710656 (Nat.le_refl _) ht.1 (by have := ht.2; omega) (281474976710656 + l.length + 21) (Nat.le_refl _))
theorem rcheck_calls (A : Option Addr) (c : Nat) (l : List S53) (w : World) (hr : Kd.C k53 w A l.length l) (hc : l.length ≤ c) (ht : TokOk l) :
  Calls Try.prog 55 #[.slice A l.length c] w fun e w' => e = .returned (.int .i64 (checkS l)) ∧ Below w.heap.size w w' :=
 quipuref13_Check.calls (281474976710656 + l.length + 21) A c l (checkS l) w hr hc (by rw [checkS_eq]; exact refCheck_eq l 281474976710656 (Nat.le_refl _) ht.1 (by have := ht.2; omega) (281474976710656 + l.length + 21) (Nat.le_refl _))
theorem print_calls (A : Option Addr) (c : Nat) (l : List S53) (w : World) (hG : Glob w) (hr : Kd.C k53 w A l.length l) (hc : l.length ≤ c) (ht : TokOk l) :
  Calls Try.prog 53 #[.slice A l.length c] w fun e w' => e = .returned (.tuple #[.string (printT l).1, .int .i64 (printT l).2]) ∧ Below w.heap.size w w' :=
 affix_Print.calls (281474976710656 + l.length + 10000) A c l (printT l).1 (printT l).2 w hG hr hc (by rw [printT_eq]; exact (print_wide l ht.1 (by have := ht.2; omega) _ (Nat.le_refl _)).1)
theorem rprint_calls (A : Option Addr) (c : Nat) (l : List S53) (w : World) (hr : Kd.C k53 w A l.length l) (hc : l.length ≤ c) (ht : TokOk l) :
  Calls Try.prog 60 #[.slice A l.length c] w fun e w' => e = .returned (.tuple #[.string (printT l).1, .int .i64 (printT l).2]) ∧ Below w.heap.size w w' :=
 quipuref13_Print.calls (281474976710656 + l.length + 10000) A c l (printT l).1 (printT l).2 w hr hc (by rw [printT_eq]; exact (print_wide l ht.1 (by have := ht.2; omega) _ (Nat.le_refl _)).2)
theorem runes_calls (s : ByteArray) (w : World) (hs : s.size ≤ 281474976710656) : Calls Try.prog 35 #[.string s] w fun e w' => e = .returned (.int .i64 (runesS s)) ∧ Below w.heap.size w w' :=
 (cursor_Runes.calls (s.size + 1 + 0 + 5) s (runesS s) w (by rw [runesS_eq]; exact R1.curRunes s hs 0)).mono fun e w' h => ⟨h.1, h.2.below⟩
theorem rrunes_calls (s : ByteArray) (w : World) (hs : s.size ≤ 281474976710656) : Calls Try.prog 57 #[.string s] w fun e w' => e = .returned (.int .i64 (runesS s)) ∧ Below w.heap.size w w' :=
 (quipuref11_Runes.calls (s.size + 1 + 0 + 8) s (runesS s) w (by rw [runesS_eq]; exact R1.refRunes s hs 0)).mono fun e w' h => ⟨h.1, h.2.below⟩
theorem rune_calls (s : ByteArray) (p : Int) (w : World) (hs : s.size ≤ 281474976710656) : Calls Try.prog 62 #[.string s, .int .i64 p] w fun e w' => e = .returned (.int .i64 (runeS s p)) ∧ Below w.heap.size w w' :=
 (cursor_Rune.calls (0 + 5) s p (runeS s p) w (by rw [runeS_eq]; exact R1.curRune s p hs 0)).mono fun e w' h => ⟨h.1, h.2.below⟩
theorem rrune_calls (s : ByteArray) (p : Int) (w : World) (hs : s.size ≤ 281474976710656) : Calls Try.prog 68 #[.string s, .int .i64 p] w fun e w' => e = .returned (.int .i64 (runeS s p)) ∧ Below w.heap.size w w' :=
 (quipuref11_Rune.calls (0 + 8) s p (runeS s p) w (by rw [runeS_eq]; exact R1.refRune s p hs 0)).mono fun e w' h => ⟨h.1, h.2.below⟩
theorem tok_runes {t : S53} (h : singleS t = true) : 0 ≤ (if t.f0 = 0 then runesS t.f2 else if t.f0 = 5 then t.f1 else 1) ∧ (if t.f0 = 0 then runesS t.f2 else if t.f0 = 5 then t.f1 else 1) ≤ t.f2.size + 3 := by
 have hl : runesS t.f2 ≤ t.f2.size := by rw [runesS_eq]; exact R1.runesS_le t.f2
 rw [runesS_eq] at hl ⊢
 rcases single_tells h with ⟨h0, h1, h2, h3⟩ | ⟨h0, h1⟩ | h0
 ·rw [if_pos h0]; omega
 ·rw [if_neg (by omega), if_neg (by omega)]; omega
 ·have hf : t.f0 = 5 ∧ 1 ≤ t.f1 ∧ t.f1 ≤ 3 := by rcases h0 with h0 | h0 | h0 <;> (rw [h0]; exact ⟨rfl, by decide, by decide⟩)
  rw [if_neg (by omega), if_pos hf.1]; omega
theorem runesT_sum : ∀ (l : List S53), (∀ t ∈ l, singleS t = true) → 0 ≤ runesT l ∧ runesT l ≤ sumT l + 3 * l.length
 | [], _ => ⟨Int.le_refl _, by show (0 : Int) ≤ ((0 : Nat) : Int) + 3 * ((0 : Nat) : Int); omega⟩
 | t :: r, h => by
  have h1 := tok_runes (h t (by simp))
  have h2 := runesT_sum r (fun u hu => h u (by simp [hu]))
  have e : runesT (t :: r) = (if t.f0 = 0 then runesS t.f2 else if t.f0 = 5 then t.f1 else 1) + runesT r := rfl
  have e2 : (sumT (t :: r) : Int) = t.f2.size + sumT r := by show ((t.f2.size + sumT r : Nat) : Int) = _; omega
  rw [e, e2, List.length_cons]
  omega
theorem runesT_range (l : List S53) (h0 : checkS l = 0) (ht : TokOk l) : 0 ≤ runesT l ∧ runesT l ≤ 100000 := by
 obtain ⟨h1, h2, h3, h4⟩ := texts_wide l ht.1 (by rw [← checkS_eq]; exact h0)
 have := runesT_sum l (good_single l none h1)
 omega
theorem wr2 {x : Int} (h0 : 0 ≤ x) (h1 : x ≤ 1000000) : wrap64 x = x := by unfold wrap64; omega
theorem truns_l (l : List S53) (hs : ∀ t ∈ l, singleS t = true) (hl : l.length ≤ 64) (ht : Texts l 64) (k : Nat) : ∀ (d i : Nat) (n : Int), i + d = l.length → 0 ≤ n → n ≤ 100 * i → pattern_runes.l0 (k + 100 + d) n l (l.length : Int) (i : Int) = some (n + runesT (l.drop i))
 | 0, i, n, hi, h0, h1 => by
  rw [show k + 100 + 0 = (k + 99) + 1 by omega, pattern_runes.l0, if_neg (by omega), List.drop_eq_nil_of_le (by omega)]
  show _ = some (n + 0)
  rw [Int.add_zero]
 | d + 1, i, n, hi, h0, h1 => by
  have hlt : i < l.length := by omega
  have hg := rd_get l i hlt
  have hm : l[i] ∈ l := List.getElem_mem hlt
  have hb := tok_runes (hs _ hm)
  have hz := ht _ hm
  have hd : runesT (l.drop i) = (if l[i].f0 = 0 then runesS l[i].f2 else if l[i].f0 = 5 then l[i].f1 else 1) + runesT (l.drop (i + 1)) := by rw [List.drop_eq_getElem_cons hlt]; rfl
  have wi : wrap64 ((i : Int) + 1) = ((i + 1 : Nat) : Int) := by rw [wr2 (by omega) (by omega)]; omega
  have ih := fun m h2 h3 => truns_l l hs hl ht k d (i + 1) m (by omega) h2 h3
  have hr := R1.curRunes l[i].f2 (by omega) (k + 94 + d - l[i].f2.size)
  rw [← runesS_eq] at hr
  rw [show l[i].f2.size + 1 + (k + 94 + d - l[i].f2.size) + 5 = k + 100 + d by omega] at hr
  rw [show k + 100 + (d + 1) = (k + 100 + d) + 1 by omega, pattern_runes.l0, if_pos (by omega), if_pos (by omega), if_pos (by omega), hg, wi, hd]
  exact aP54
theorem rtruns_l (l : List S53) (hs : ∀ t ∈ l, singleS t = true) (hl : l.length ≤ 64) (ht : Texts l 64) (k : Nat) : ∀ (d i : Nat) (n : Int), i + d = l.length → 0 ≤ n → n ≤ 100 * i → quipuref14_runes.l0 (k + 100 + d) l n (i : Int) = some (n + runesT (l.drop i))
 | 0, i, n, hi, h0, h1 => by
  rw [show k + 100 + 0 = (k + 99) + 1 by omega, quipuref14_runes.l0, if_neg (by omega), List.drop_eq_nil_of_le (by omega)]
  show _ = some (n + 0)
  rw [Int.add_zero]
 | d + 1, i, n, hi, h0, h1 => by
  have hlt : i < l.length := by omega
  have hg := rd_get l i hlt
  have hm : l[i] ∈ l := List.getElem_mem hlt
  have hb := tok_runes (hs _ hm)
  have hz := ht _ hm
  have hd : runesT (l.drop i) = (if l[i].f0 = 0 then runesS l[i].f2 else if l[i].f0 = 5 then l[i].f1 else 1) + runesT (l.drop (i + 1)) := by rw [List.drop_eq_getElem_cons hlt]; rfl
  have wi : wrap64 ((i : Int) + 1) = ((i + 1 : Nat) : Int) := by rw [wr2 (by omega) (by omega)]; omega
  have ih := fun m h2 h3 => rtruns_l l hs hl ht k d (i + 1) m (by omega) h2 h3
  have hr := R1.refRunes l[i].f2 (by omega) (k + 91 + d - l[i].f2.size)
  rw [← runesS_eq] at hr
  rw [show l[i].f2.size + 1 + (k + 91 + d - l[i].f2.size) + 8 = k + 100 + d by omega] at hr
  rw [show k + 100 + (d + 1) = (k + 100 + d) + 1 by omega, quipuref14_runes.l0, if_pos (by omega), if_pos (by omega), hg, wi, hd]
  exact aP54
theorem truns_calls (A : Option Addr) (c : Nat) (l : List S53) (w : World) (hr : Kd.C k53 w A l.length l) (hc : l.length ≤ c) (ht : TokOk l) (h0 : checkS l = 0) :
  Calls Try.prog 46 #[.slice A l.length c] w fun e w' => e = .returned (.int .i64 (runesT l)) ∧ Below w.heap.size w w' := by
 obtain ⟨h1, h2, h3, h4⟩ := texts_wide l ht.1 (by rw [← checkS_eq]; exact h0)
 refine pattern_runes.calls (0 + 100 + l.length) A c l (runesT l) w hr hc ?_
 have := truns_l l (good_single l none h1) h2 h4 0 l.length 0 0 (by omega) (Int.le_refl _) (by omega)
 rw [List.drop_zero, Int.zero_add] at this
 exact this
theorem rtruns_calls (A : Option Addr) (c : Nat) (l : List S53) (w : World) (hr : Kd.C k53 w A l.length l) (hc : l.length ≤ c) (ht : TokOk l) (h0 : checkS l = 0) :
  Calls Try.prog 52 #[.slice A l.length c] w fun e w' => e = .returned (.int .i64 (runesT l)) ∧ Below w.heap.size w w' := by
 obtain ⟨h1, h2, h3, h4⟩ := texts_wide l ht.1 (by rw [← checkS_eq]; exact h0)
 refine (quipuref14_runes.calls (0 + 100 + l.length) A c l (runesT l) w hr hc ?_).mono fun e w' h => ⟨h.1, h.2.below⟩
 have := rtruns_l l (good_single l none h1) h2 h4 0 l.length 0 0 (by omega) (Int.le_refl _) (by omega)
 rw [List.drop_zero, Int.zero_add] at this
 exact this
theorem list_beq {a b : ByteArray} : (a.toList == b.toList) = decide (a = b) := by
 by_cases h : a = b
 ·subst h; simp
 ·rw [dFa h, beq_eq_false_iff_ne]
  intro e
  exact h (bytes_inj (by rw [Lib.toList_data, Lib.toList_data] at e; exact e))
theorem same_l (l m : List S53) (he : l.length = m.length) (hl : l.length < 4398046511104) (K : Nat) : ∀ (d i : Nat), i + d = l.length → quipuref13_Same.l0 (K + d + 1) l m (i : Int) = some (decide (l.drop i = m.drop i))
 | 0, i, hi => by
  simp only [quipuref13_Same.l0]
  rw [if_neg (by omega), List.drop_eq_nil_of_le (by omega), List.drop_eq_nil_of_le (by omega)]
  rfl
 | d + 1, i, hi => by
  have ih := same_l l m he hl K d (i + 1) (by omega)
  obtain ⟨q, hq⟩ : ∃ q, K + d + 1 = q := ⟨_, rfl⟩
  rw [hq] at ih
  have W1 := aMk (show wrap64 ((i : Int) + 1) = ((i + 1 : Nat) : Int) by unfold wrap64; omega)
  have h1 : i < l.length := by omega
  have h2 : i < m.length := by omega
  rw [show K + (d + 1) + 1 = q + 1 by omega]
  simp only [quipuref13_Same.l0]
  rw [if_pos (by omega), if_pos (by omega), if_pos (by omega), W1.out, ih, rd_get l i h1, rd_get m i h2, list_beq, List.drop_eq_getElem_cons h1, List.drop_eq_getElem_cons h2]
  obtain ⟨a, ha⟩ : ∃ a, l[i] = a := ⟨_, rfl⟩
  obtain ⟨b, hb⟩ : ∃ b, m[i] = b := ⟨_, rfl⟩
  rw [ha, hb]
  cases a; cases b
  rename_i a0 a1 a2 b0 b1 b2
  simp only [List.cons.injEq, S53.mk.injEq]
  by_cases e0 : a0 = b0
  ·by_cases e1 : a1 = b1
   ·by_cases e2 : a2 = b2
    ·simp [e0, e1, e2]
    ·simp [e0, e1, e2]
   ·simp [e0, e1]
  ·simp [e0]
theorem same_calls (A : Option Addr) (c : Nat) (l : List S53) (B : Option Addr) (d : Nat) (m : List S53) (w : World) (hr : Kd.C k53 w A l.length l) (hc : l.length ≤ c) (hr2 : Kd.C k53 w B m.length m) (hd : m.length ≤ d) (hl : l.length < 4398046511104) :
  Calls Try.prog 29 #[.slice A l.length c, .slice B m.length d] w fun e w' => e = .returned (.bool (decide (l = m))) ∧ Below w.heap.size w w' := by
 refine (quipuref13_Same.calls (0 + l.length + 1) A c l B d m (decide (l = m)) w hr hc hr2 hd ?_).mono fun e w' h => ⟨h.1, h.2.below⟩
 unfold quipuref13_Same.f
 by_cases he : l.length = m.length
 ·rw [if_pos (by omega)]
  exact same_l l m he hl 0 l.length 0 (by omega)
 ·rw [if_neg (by omega), dFa (fun e => he (by rw [e]))]
def repB (b : UInt8) (n : Int) : ByteArray := ⟨(List.replicate n.toNat b).toArray⟩
theorem repB_list (b : UInt8) (n : Int) : (repB b n).data.toList = List.replicate n.toNat b := by show (List.replicate n.toNat b).toArray.toList = _; simp
theorem repB_size (b : UInt8) (n : Int) : (repB b n).size = n.toNat := by show (List.replicate n.toNat b).toArray.size = _; simp
theorem times_l (b : UInt8) (n : Int) (h1 : n ≤ 300) : ∀ (d : Nat) (i : Int), 0 ≤ i → i + d = n → quipuref14_times.l0 (d + 1) ⟨#[b]⟩ n (repB b i) i = some (repB b n)
 | 0, i, h0, hi => by
  rw [quipuref14_times.l0, if_neg (by omega), show i = n by omega]
 | d + 1, i, h0, hi => by
  have e : repB b i ++ (⟨#[b]⟩ : ByteArray) = repB b (i + 1) := by
   apply bytes_inj
   rw [ByteArray.data_append, Array.toList_append, repB_list, repB_list, show (i + 1).toNat = i.toNat + 1 by omega, List.replicate_succ']
  rw [quipuref14_times.l0, if_pos (by omega), if_pos (by rw [repB_size]; show i.toNat + 1 ≤ _; omega), e, wr2 (by omega) (by omega)]
  exact times_l b n h1 d (i + 1) (by omega) (by omega)
theorem times1 (b : UInt8) (n : Int) (w : World) (h0 : 0 ≤ n) (h1 : n ≤ 300) : Calls Try.prog 80 #[.string ⟨#[b]⟩, .int .i64 n] w fun e w' => e = .returned (.string (repB b n)) ∧ Below w.heap.size w w' :=
 (quipuref14_times.calls (n.toNat + 1) ⟨#[b]⟩ n (repB b n) w (times_l b n h1 n.toNat 0 (Int.le_refl _) (by omega))).mono fun e w' h => ⟨h.1, h.2.below⟩
structure Fine (x : Sb) : Prop where
 im0 : 0 ≤ x.im
 im1 : x.im ≤ 32
 fx0 : 0 ≤ x.fx
 fx1 : x.fx ≤ 32
 fn0 : 0 ≤ x.fn
 fn1 : x.fn ≤ x.fx
 pr0 : 0 ≤ x.pr
 pr1 : x.pr ≤ 16
 se0 : 0 ≤ x.se
 se1 : x.se ≤ 16
 em0 : 0 ≤ x.em
 em1 : x.em ≤ 9
 ps : x.pr = 0 → x.se = 0
def rawD (im hi lo : Int) : List UInt8 := List.replicate (hi - mx lo im).toNat 35 ++ List.replicate (mn hi im - lo).toNat 48
def leastS (x : Sb) : Int := mx (mx 1 x.im) (if 0 < x.pr then x.pr + x.se + 1 else 0)
def placesL (x : Sb) (n : Int) : List UInt8 :=
 if 0 < x.pr then (if 0 < x.se then rawD x.im n (x.pr + x.se) ++ [44] ++ rawD x.im (x.pr + x.se) x.pr ++ [44] ++ rawD x.im x.pr 0 else rawD x.im n x.pr ++ [44] ++ rawD x.im x.pr 0)
 else rawD x.im n 0
def fracL (x : Sb) : List UInt8 := if 0 < x.fx then [46] ++ List.replicate x.fn.toNat 48 ++ List.replicate (x.fx - x.fn).toNat 35 else []
def expL (x : Sb) : List UInt8 := if 0 < x.em then [69] ++ (if x.ep then [43] else []) ++ List.replicate x.em.toNat 48 else []
def digL (x : Sb) (n : Int) : List UInt8 := placesL x n ++ fracL x ++ expL x
def digS (x : Sb) (n : Int) : ByteArray := ⟨(digL x n).toArray⟩
noncomputable def lengthS (x : Sb) (n : Int) : Int := runesT x.p + (digL x n).length + runesT x.s
def fineB (x : Sb) : Bool := inB x.im 0 32 && (inB x.fx 0 32 && (inB x.fn 0 x.fx && (inB x.pr 0 16 && (inB x.se 0 16 && inB x.em 0 9))))
def oddB (x : Sb) : Bool := (x.pr == 0 && decide (0 < x.se)) || ((x.em == 0 && x.ep) || (decide (0 < x.em) && decide (0 < x.pr)))
def edgeB (x : Sb) : Bool := (x.pa == 1 && x.p.length == 0) || (x.pa == 3 && x.s.length == 0)
noncomputable def padB (x : Sb) : Bool :=
 if x.pad.toList.isEmpty then x.pa == 0 && x.wd == 0
 else runesS x.pad == 1 && (inB x.pa 0 3 && (!edgeB x && inB x.wd (lengthS x (leastS x)) 99))
noncomputable def halfS (x : Sb) : Bool := checkS x.p == 0 && (checkS x.s == 0 && (fineB x && (!oddB x && padB x)))
noncomputable def wideS (x : Sb) : Int := if x.pad.toList.isEmpty then leastS x else leastS x + (x.wd - lengthS x (leastS x))
def fillS (x : Sb) (k : Int) : ByteArray := if x.pad.toList.isEmpty then ⟨#[]⟩ else if x.pa = k then ⟨#[42]⟩ ++ x.pad else ⟨#[]⟩
noncomputable def textS (x : Sb) : ByteArray := fillS x 0 ++ (printT x.p).1 ++ fillS x 1 ++ digS x (wideS x) ++ fillS x 2 ++ (printT x.s).1 ++ fillS x 3
structure Pt where
 pos : Sb
 ng : Bool
 neg : Sb
noncomputable def wholeS (x : Pt) : ByteArray := if x.ng then textS x.pos ++ (⟨#[59]⟩ ++ textS x.neg) else textS x.pos
noncomputable def formB (x : Pt) : Bool := halfS x.pos && (if x.ng then halfS x.neg else zeroB x.neg)
noncomputable def checkP (x : Pt) : Int := if formB x then (if (wholeS x).size > 128 then 142 else 0) else 141
noncomputable def printP (x : Pt) : ByteArray × Int := if checkP x = 0 then (wholeS x, 0) else (⟨#[]⟩, checkP x)
theorem raw_len (im hi lo : Int) (h0 : 0 ≤ im) (h1 : 0 ≤ lo) (h : lo ≤ hi) : ((rawD im hi lo).length : Int) = hi - lo := by
 unfold rawD mx mn
 rw [List.length_append, List.length_replicate, List.length_replicate]
 split <;> split <;> omega
end Go.Proofs.Ytacnjemndfmbhaa.Q
end
section
namespace Go.Proofs.Ytacnjemndfmbhaa.Q
open Go.RowKit Go.Proofs.Ytacnjemndfmbhaa.A Go.Proofs.YtacnjemndfmbhaaW.PrintWords Go.Proofs.YtacnjemndfmbhaaW.PrintLast Go.Proofs.YtacnjemndfmbhaaW.PrintMore
set_option linter.unusedVariables false
set_option linter.unusedSimpArgs false
def commaB (x : Sb) (n k : Int) : Bool := decide (0 < x.pr) && (decide (k < n) && (k == x.pr || (decide (0 < x.se) && k == x.pr + x.se)))
def dstep (x : Sb) (n k : Int) : List UInt8 := (if commaB x n k = true then [44] else []) ++ [if x.im < k then 35 else 48]
def dDown (x : Sb) (n : Int) : Nat → List UInt8
 | 0 => []
 | k + 1 => dstep x n ((k : Int) + 1) ++ dDown x n k
theorem repeat1 (b : UInt8) (n : Int) (w : World) (h0 : 0 ≤ n) (h1 : n ≤ 300) : Calls Try.prog 76 #[.string ⟨#[b]⟩, .int .i64 n] w fun e w' => e = .returned (.string (repB b n)) ∧ Below w.heap.size w w' := by
 obtain ⟨m, rfl⟩ : ∃ m : Nat, n = m := ⟨n.toNat, by omega⟩
 have e : Lib.repeatL [b] m = List.replicate m b := by
  induction m with
  | zero => rfl
  | succ m ih => show [b] ++ Lib.repeatL [b] m = _; rw [ih (by omega) (by omega)]; rfl
 have := Try.strings_Repeat ⟨#[b]⟩ m w (by omega) (by show 1 * m ≤ _; omega)
 rw [e] at this
 exact this
structure DS (w0 w : World) (L : Sl) (x : Sb) (bs : List UInt8) : Prop where
 bu : Lib.IsBuilder 90 5 w0.heap.size (w0.heap.size + 1) (Lib.byteCells bs) w
 box : w.heap[w0.heap.size]? = some (.cells (subC L x) 24 (0, 0))
 below : Below w0.heap.size w0 w
theorem DS.start (w : World) (L : Sl) (x : Sb) : DS w ((w.alloc (.cells (subC L x) 24)).alloc (.cells #[.pointer none, .slice none 0 0] 90)) L x [] := by
 have e0 : (w.alloc (.cells (subC L x) 24)).heap.size = w.heap.size + 1 := by simp
 refine ⟨.inl ⟨by omega, .slice none 0 0, ?_, ⟨rfl, .inl ⟨rfl, rfl⟩⟩, by simp [Value.ownBlock]⟩, ?_, below_alloc (below_alloc (Below.refl _ _) _) _⟩
 ·rw [← e0, heap_alloc_new]
 ·rw [heap_alloc_old _ _ (by omega), heap_alloc_new]
theorem DS.step {w0 w w' : World} {L : Sl} {x : Sb} {bs : List UInt8} (h : DS w0 w L x bs) (hb : Below w.heap.size w w') : DS w0 w' L x bs := by
 obtain ⟨cb, hbb⟩ := isb_blk h.bu
 exact ⟨isb_move h.bu (hb.block _ (blk_lt hbb)) (fun k c hk => hb.block k (blk_lt hk)), blk_below h.box hb, below_step h.below hb⟩
theorem DS.put {w0 w w' : World} {L : Sl} {x : Sb} {bs : List UInt8} {s : ByteArray} (h : DS w0 w L x bs) (hu : Lib.BuilderAt 90 5 w0.heap.size (w0.heap.size + 1) (.pointer (some ⟨w0.heap.size + 1, 0, none⟩)) (Lib.byteCells bs ++ Lib.strCells s) w') (hb : Below w0.heap.size w w') (hk : KeepT w w' (w0.heap.size + 1)) : DS w0 w' L x (bs ++ s.data.toList) := by
 rw [cells_str] at hu
 exact ⟨.inr hu, hk _ _ _ (by omega) (by decide) h.box, below_trans0 h.below hb⟩
theorem DS.drewN {w0 w : World} {L : Sl} {x : Sb} {bs : List UInt8} (h : DS w0 w L x bs) (n : Nat) : DS w0 (w.drewN n) L x bs := h.step (pw_below_drewN (Below.refl _ _) n)
theorem DS.drew1 {w0 w : World} {L : Sl} {x : Sb} {bs : List UInt8} (h : DS w0 w L x bs) : DS w0 w.drew L x bs := h.step (below_drew1 (Below.refl _ _))
theorem write_any {w0 w : World} {L : Sl} {x : Sb} {bs : List UInt8} (h : DS w0 w L x bs) (s : ByteArray) (hl : bs.length + s.size ≤ 100000) : Calls Try.prog 77 #[.pointer (some ⟨w0.heap.size + 1, 0, none⟩), .string s] w fun e w' => e = .returned (.tuple #[.int .i64 s.size, .nilIface]) ∧ DS w0 w' L x (bs ++ s.data.toList) :=
 (writeString w0.heap.size (w0.heap.size + 1) (Lib.byteCells bs) s w h.bu (by rw [Lib.byteCells_length]; omega) (below_size h.below)).mono fun e w' ⟨he, hu, hb, hk⟩ => ⟨he, h.put hu hb hk⟩
theorem DS.cells {w0 w : World} {L : Sl} {x : Sb} {bs : List UInt8} (h : DS w0 w L x bs) : w.cell? ⟨w0.heap.size, 2, none⟩ = some (.int .i64 x.im) ∧ w.cell? ⟨w0.heap.size, 3, none⟩ = some (.int .i64 x.fn) ∧ w.cell? ⟨w0.heap.size, 4, none⟩ = some (.int .i64 x.fx) ∧ w.cell? ⟨w0.heap.size, 5, none⟩ = some (.int .i64 x.pr) ∧ w.cell? ⟨w0.heap.size, 6, none⟩ = some (.int .i64 x.se) ∧ w.cell? ⟨w0.heap.size, 7, none⟩ = some (.int .i64 x.em) ∧ w.cell? ⟨w0.heap.size, 8, none⟩ = some (.bool x.ep) :=
 ⟨(blk_cell h.box 2).trans rfl, (blk_cell h.box 3).trans rfl, (blk_cell h.box 4).trans rfl, (blk_cell h.box 5).trans rfl, (blk_cell h.box 6).trans rfl, (blk_cell h.box 7).trans rfl, (blk_cell h.box 8).trans rfl⟩
theorem sz_one (b : UInt8) : (⟨#[b]⟩ : ByteArray).size = 1 := rfl
theorem comma_ways (x : Sb) (n q : Int) : (decide (0 < x.pr) = false ∧ Aside0 (commaB x n q = false)) ∨ (decide (0 < x.pr) = true ∧ decide (q < n) = false ∧ Aside0 (commaB x n q = false)) ∨ (decide (0 < x.pr) = true ∧ decide (q < n) = true ∧ (q == x.pr) = true ∧ Aside0 (commaB x n q = true)) ∨ (decide (0 < x.pr) = true ∧ decide (q < n) = true ∧ (q == x.pr) = false ∧ decide (0 < x.se) = false ∧ Aside0 (commaB x n q = false)) ∨ (decide (0 < x.pr) = true ∧ decide (q < n) = true ∧ (q == x.pr) = false ∧ decide (0 < x.se) = true ∧ (q == x.pr + x.se) = false ∧ Aside0 (commaB x n q = false)) ∨ (decide (0 < x.pr) = true ∧ decide (q < n) = true ∧ (q == x.pr) = false ∧ decide (0 < x.se) = true ∧ (q == x.pr + x.se) = true ∧ Aside0 (commaB x n q = true)) := by
 rcases Bool.eq_false_or_eq_true (decide (0 < x.pr)) with t1 | t1
 case inr => exact .inl ⟨t1, ⟨by unfold commaB; rw [t1]; rfl⟩⟩
 rcases Bool.eq_false_or_eq_true (decide (q < n)) with t2 | t2
 case inr => exact .inr (.inl ⟨t1, t2, ⟨by unfold commaB; rw [t1, t2]; rfl⟩⟩)
 rcases Bool.eq_false_or_eq_true (q == x.pr) with t3 | t3
 case inl => exact .inr (.inr (.inl ⟨t1, t2, t3, ⟨by unfold commaB; rw [t1, t2, t3]; rfl⟩⟩))
 rcases Bool.eq_false_or_eq_true (decide (0 < x.se)) with t4 | t4
 case inr => exact .inr (.inr (.inr (.inl ⟨t1, t2, t3, t4, ⟨by unfold commaB; rw [t1, t2, t3, t4]; rfl⟩⟩)))
 rcases Bool.eq_false_or_eq_true (q == x.pr + x.se) with t5 | t5
 case inr => exact .inr (.inr (.inr (.inr (.inl ⟨t1, t2, t3, t4, t5, ⟨by unfold commaB; rw [t1, t2, t3, t4, t5]; rfl⟩⟩))))
 exact .inr (.inr (.inr (.inr (.inr ⟨t1, t2, t3, t4, t5, ⟨by unfold commaB; rw [t1, t2, t3, t4, t5]; rfl⟩⟩))))
set_option maxHeartbeats 16000000 in
set_option maxRecDepth 100000 in
theorem digits_walk (L : Sl) (x : Sb) (n : Int) (w : World) (hf : Fine x) (hn : leastS x ≤ n) (hn2 : n ≤ 200) : Calls Try.prog 54 #[subV L x, .int .i64 n] w fun e w' => e = .returned (.string ⟨(dDown x n n.toNat ++ fracL x ++ expL x).toArray⟩) ∧ Below w.heap.size w w' := by
 have hl0 : 1 ≤ leastS x := aP123
 have HF := aMk hf
 have HN := aMk (show 1 ≤ n ∧ n ≤ 200 by omega)
 have HS := aMk (DS.start w L x)
 clear hf hn hn2 hl0
 go_enter Try.func54, Try.ntmps54
 go_wp2
 go_loopg [6] n.toNat (fun gk v6 wr => ∃ (q : Int) (bs : List UInt8), v6 = .int .i64 q ∧ Aside0 (q = gk) ∧ Aside0 (bs ++ dDown x n gk = dDown x n n.toNat) ∧ Aside0 (q ≤ n ∧ (bs.length : Int) ≤ 2 * (n - q)) ∧ Aside0 (DS w wr L x bs))
 case atStart => exact ⟨n, [], rfl, ⟨by have := HN.out; omega⟩, ⟨rfl⟩, ⟨by simp⟩, HS⟩
 case round =>
  clear HS
  obtain ⟨q, bs, rfl, HK, HA, HI, HQ⟩ := hrel
  obtain ⟨c2, c3, c4, c5, c6, c7, c8⟩ := HQ.out.cells
  cases gk with
  | zero =>
   have d0 : decide (0 < q) = false := dFa (by have := HK.out; omega)
   have HA0 := aMk (show bs = dDown x n n.toNat by have := HA.out; simpa [dDown] using this)
   have HL := aMk (show bs.length ≤ 400 by have := HI.out; have := HN.out; have := HK.out; omega)
   have hw : IntKind.i64.wrap (x.fx - x.fn) = x.fx - x.fn := IntWalk.i64_in _ (by obtain ⟨f1, f2, f3, f4, f5, f6, _, _, _, _, f7, f8, _⟩ := HF.out; omega)
   have hz1 : 1 + (repB 48 x.fn).size ≤ 9223372036854775807 := by rw [repB_size]; obtain ⟨f1, f2, f3, f4, f5, f6, _, _, _, _, f7, f8, _⟩ := HF.out; omega
   have hz2 : 1 + (repB 48 x.fn).size + (repB 35 (x.fx - x.fn)).size ≤ 9223372036854775807 := by rw [repB_size, repB_size]; obtain ⟨f1, f2, f3, f4, f5, f6, _, _, _, _, f7, f8, _⟩ := HF.out; omega
   have hz3 := eq_false (Nat.not_lt.2 hz1)
   have hz4 := eq_false (Nat.not_lt.2 hz2)
   rcases Bool.eq_false_or_eq_true (decide (0 < x.fx)) with t1 | t1
   all_goals rcases Bool.eq_false_or_eq_true (decide (0 < x.em)) with t2 | t2
   all_goals rcases Bool.eq_false_or_eq_true x.ep with t3 | t3
   all_goals
    go_wp2_with (first | (go_at_call 77; (with_reducible refine (write_any HQ.out _ ?s1).mono ?_); (case s1 => have := HL.out; simp only [List.length_append, List.length_cons, List.length_nil, List.length_replicate, ByteArray.data_append, Array.toList_append, repB_list, ByteArray.size_append, sz_one, repB_size]; (obtain ⟨f1, f2, f3, f4, f5, f6, _, _, _, _, f7, f8, _⟩ := HF.out; omega)); rintro e w1 ⟨rfl, hq⟩; have nq := aMk hq; clear hq HQ c2 c3 c4 c5 c6 c7 c8; have HQ := nq; clear nq; obtain ⟨c2, c3, c4, c5, c6, c7, c8⟩ := HQ.out.cells) | (go_at_call 76; (with_reducible refine (repeat1 _ _ _ ?r1 ?r2).mono ?_); (case r1 => (obtain ⟨f1, f2, f3, f4, f5, f6, _, _, _, _, f7, f8, _⟩ := HF.out; omega)); (case r2 => (obtain ⟨f1, f2, f3, f4, f5, f6, _, _, _, _, f7, f8, _⟩ := HF.out; omega)); rintro e w1 ⟨rfl, hb⟩; have nq := aMk ((aP124 : DS w _ L x _).step hb); clear hb HQ c2 c3 c4 c5 c6 c7 c8; have HQ := nq; clear nq; obtain ⟨c2, c3, c4, c5, c6, c7, c8⟩ := HQ.out.cells) | (go_at_call 78; (with_reducible refine (Try.Builder_String_any w.heap.size (w.heap.size + 1) _ _ HQ.out.bu (below_size HQ.out.below)).mono ?_); rintro e w4 ⟨rfl, hb4⟩; have HB4 := aMk (below_trans0 HQ.out.below hb4); clear hb4))
    (try (go_region_held3 (fun w' => w'.cell? ⟨w.heap.size, 3, none⟩ = some (.int .i64 x.fn) ∧ w'.cell? ⟨w.heap.size, 4, none⟩ = some (.int .i64 x.fx)) (first | exact ⟨HQ.out.cells.2.1, HQ.out.cells.2.2.1⟩) (first | (go_at_call 77; (with_reducible refine (write_any HQ.out _ ?s1).mono ?_); (case s1 => have := HL.out; simp only [List.length_append, List.length_cons, List.length_nil, List.length_replicate, ByteArray.data_append, Array.toList_append, repB_list, ByteArray.size_append, sz_one, repB_size]; (obtain ⟨f1, f2, f3, f4, f5, f6, _, _, _, _, f7, f8, _⟩ := HF.out; omega)); rintro e w1 ⟨rfl, hq⟩; have nq := aMk hq; clear hq HQ c2 c3 c4 c5 c6 c7 c8; have HQ := nq; clear nq; obtain ⟨c2, c3, c4, c5, c6, c7, c8⟩ := HQ.out.cells) | (go_at_call 76; (with_reducible refine (repeat1 _ _ _ ?r1 ?r2).mono ?_); (case r1 => (obtain ⟨f1, f2, f3, f4, f5, f6, _, _, _, _, f7, f8, _⟩ := HF.out; omega)); (case r2 => (obtain ⟨f1, f2, f3, f4, f5, f6, _, _, _, _, f7, f8, _⟩ := HF.out; omega)); rintro e w1 ⟨rfl, hb⟩; have nq := aMk ((aP124 : DS w _ L x _).step hb); clear hb HQ c2 c3 c4 c5 c6 c7 c8; have HQ := nq; clear nq; obtain ⟨c2, c3, c4, c5, c6, c7, c8⟩ := HQ.out.cells)); go_wp2_with (first | (go_at_call 77; (with_reducible refine (write_any HQ.out _ ?s1).mono ?_); (case s1 => have := HL.out; simp only [List.length_append, List.length_cons, List.length_nil, List.length_replicate, ByteArray.data_append, Array.toList_append, repB_list, ByteArray.size_append, sz_one, repB_size]; (obtain ⟨f1, f2, f3, f4, f5, f6, _, _, _, _, f7, f8, _⟩ := HF.out; omega)); rintro e w1 ⟨rfl, hq⟩; have nq := aMk hq; clear hq HQ c2 c3 c4 c5 c6 c7 c8; have HQ := nq; clear nq; obtain ⟨c2, c3, c4, c5, c6, c7, c8⟩ := HQ.out.cells) | (go_at_call 76; (with_reducible refine (repeat1 _ _ _ ?r1 ?r2).mono ?_); (case r1 => (obtain ⟨f1, f2, f3, f4, f5, f6, _, _, _, _, f7, f8, _⟩ := HF.out; omega)); (case r2 => (obtain ⟨f1, f2, f3, f4, f5, f6, _, _, _, _, f7, f8, _⟩ := HF.out; omega)); rintro e w1 ⟨rfl, hb⟩; have nq := aMk ((aP124 : DS w _ L x _).step hb); clear hb HQ c2 c3 c4 c5 c6 c7 c8; have HQ := nq; clear nq; obtain ⟨c2, c3, c4, c5, c6, c7, c8⟩ := HQ.out.cells) | (go_at_call 78; (with_reducible refine (Try.Builder_String_any w.heap.size (w.heap.size + 1) _ _ HQ.out.bu (below_size HQ.out.below)).mono ?_); rintro e w4 ⟨rfl, hb4⟩; have HB4 := aMk (below_trans0 HQ.out.below hb4); clear hb4))))
    go_ret
    refine ⟨?_, HB4.out⟩
    rw [← HA0.out]
    simp only [decide_eq_true_eq, decide_eq_false_iff_not] at t1 t2
    simp [fracL, expL, t1, t2, t3, repB_list]
  | succ k =>
   have d0 : decide (0 < q) = true := dTr (by have := HK.out; omega)
   have hq1 : 1 ≤ q := by have := HK.out; omega
   have hq2 : q ≤ 200 := by have := HI.out; have := HN.out; omega
   obtain ⟨i0, i1, _, _, _, _, p0, p1, s0, s1, _, _, _⟩ := HF.out
   have HT : ∀ b : Bool, decide (x.im < q) = b → Aside0 ((if x.im < q then (35 : UInt8) else 48) = if b = true then 35 else 48) := fun b h => ⟨by rw [← h]; simp⟩
   rcases comma_ways x n q with ⟨t1, HC⟩ | ⟨t1, t2, HC⟩ | ⟨t1, t2, t3, HC⟩ | ⟨t1, t2, t3, t4, HC⟩ | ⟨t1, t2, t3, t4, t5, HC⟩ | ⟨t1, t2, t3, t4, t5, HC⟩
   all_goals rcases Bool.eq_false_or_eq_true (decide (x.im < q)) with t6 | t6
   all_goals
    have HU := HT _ t6
    clear HT
    go_wp2_with (go_at_call 77; (with_reducible refine (write_any HQ.out _ ?s1).mono ?_); (case s1 => have := HI.out; have := HN.out; simp only [List.length_append, List.length_cons, List.length_nil, show (⟨#[44]⟩ : ByteArray).size = 1 from rfl, show (⟨#[35]⟩ : ByteArray).size = 1 from rfl, show (⟨#[48]⟩ : ByteArray).size = 1 from rfl]; omega); rintro e w1 ⟨rfl, hq⟩; have nq := aMk hq; clear hq HQ c2 c3 c4 c5 c6 c7 c8; have HQ := nq; clear nq; obtain ⟨c2, c3, c4, c5, c6, c7, c8⟩ := HQ.out.cells)
    go_roundg k
    case measure => omega
    case rel => exact ⟨q - 1, _, aP92, ⟨by have := HK.out; omega⟩, ⟨by have h_ := HA.out; simp only [dDown] at h_; rw [show ((k : Int) + 1) = q by have := HK.out; omega] at h_; rw [← h_]; unfold dstep; rw [HC.out, HU.out]; simp⟩, ⟨by have := HI.out; simp only [List.length_append, List.length_cons, List.length_nil]; omega⟩, HQ⟩
end Go.Proofs.Ytacnjemndfmbhaa.Q
end
