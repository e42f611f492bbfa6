/- Plain law: the document's Parse tells the same. -/
import Derived.Test.YtieipeigjhicfaaA3
namespace Go.Proofs.Ytieipeigjhicfaa.A
open Go.RowKit Go.Proofs.Ytieipeigjhicfaa.Q Go.Proofs.Ytieipeigjhicfaa.R1 Go.Proofs.YtieipeigjhicfaaW.PrintWords Go.Proofs.YtieipeigjhicfaaW.PrintLast
set_option linter.unusedVariables false
theorem refRunes_l (s : ByteArray) (hs : s.size ≤ 1048576) (k : Nat) : ∀ (d : Nat) (p : Int) (acc : List ByteArray), 0 ≤ p → p ≤ s.size → (s.size : Int) - p < d → (acc.length : Int) ≤ p →
    quipuref13_Runes.l0 (k + 8 + d) s acc p = some (acc ++ (runesAt s p).1, (runesAt s p).2)
  | 0, p, acc, h0, h1, h2, h3 => by omega
  | d + 1, p, acc, h0, h1, h2, h3 => by
    obtain ⟨m, hm⟩ : ∃ m, k + 8 + d = m := ⟨_, rfl⟩
    have hR := refRune s p (by omega) (k + d)
    rw [show k + d + 8 = m by omega] at hR
    have ih := fun q a => refRunes_l s hs k d q a
    simp only [hm] at ih
    rw [show k + 8 + (d + 1) = m + 1 by omega]
    simp only [quipuref13_Runes.l0]
    by_cases hlt : p < s.size
    · rw [if_pos hlt, hR, Option.bind_some]
      by_cases hz : runeS s p = 0
      · rw [if_pos hz, runesAt_bad s p hlt hz, List.append_nil]
      · have hr := rune_pos s p hz
        have w1 : wrap64 (p + runeS s p) = p + runeS s p := by unfold wrap64; omega
        rw [if_neg hz, w1, if_pos h0, if_pos (by omega), if_pos (by omega), if_pos (by omega), ih _ _ (by omega) (by omega) (by omega) (by rw [List.length_append]; simp; omega), runesAt_step s p hz]
        simp only [List.append_assoc, List.singleton_append]
        rfl
    · rw [if_neg hlt, runesAt_end s p hlt, List.append_nil]
theorem refRunesT (s : ByteArray) (hs : s.size ≤ 1048576) (K : Nat) (hK : s.size + 9 ≤ K) : quipuref13_Runes.f K s = some (runesAt s 0) := by
  have h := refRunes_l s hs (K - (s.size + 9)) (s.size + 1) 0 [] (Int.le_refl _) (by omega) (by omega) (by simp)
  rw [show K - (s.size + 9) + 8 + (s.size + 1) = K by omega] at h
  unfold quipuref13_Runes.f
  rw [h, List.nil_append]
/-- The last token is no text. -/
def LastNT (l : List S32) : Prop := 0 < l.length → (rd_T32 l ((l.length - 1 : Nat) : Int)).f0 ≠ 0
theorem nil_of (t : ByteArray) (h : t.toList = ([] : List UInt8)) : t = ⟨#[]⟩ := by
  rw [Lib.toList_data] at h
  exact bytes_of t [] h
theorem app_ne (t c : ByteArray) (hc : c.size ≠ 0) : (t ++ c).toList ≠ ([] : List UInt8) := by
  intro h
  have := nil_of _ h
  have h2 := congrArg ByteArray.size this
  rw [ByteArray.size_append] at h2
  simp only [show (⟨#[]⟩ : ByteArray).size = 0 from rfl] at h2
  omega
theorem bytes_inj {a b : ByteArray} (h : a.data.toList = b.data.toList) : a = b := by
  rw [bytes_of a _ h, ← bytes_of b _ rfl]
theorem empty_app (c : ByteArray) : (⟨#[]⟩ : ByteArray) ++ c = c := by
  apply bytes_inj
  simp
theorem with_eq (l : List S32) (t c : ByteArray) (hc : c.size ≠ 0) (hl : LastNT l) (hn : l.length < 4398046511104) (ht : t.size + c.size ≤ 9223372036854775807) : quipuref13_with.f (endL l t) c = some (endL l (t ++ c)) := by
  have hne := app_ne t c hc
  have e2 : endL l (t ++ c) = l ++ [⟨0, 0, t ++ c⟩] := by unfold endL; rw [if_neg hne]
  rw [e2]
  by_cases htz : t.toList = ([] : List UInt8)
  · have e1 : endL l t = l := by unfold endL; rw [if_pos htz]
    rw [e1, nil_of t htz, empty_app]
    unfold quipuref13_with.f
    by_cases hz : 0 < l.length
    · have w1 : wrap64 ((l.length : Int) - 1) = ((l.length - 1 : Nat) : Int) := by unfold wrap64; omega
      rw [if_pos (by omega), w1, if_pos (by omega), if_pos (by omega), if_neg (hl hz), if_pos hn]
    · rw [if_neg (by omega), if_pos hn]
  · have e1 : endL l t = l ++ [⟨0, 0, t⟩] := by unfold endL; rw [if_neg htz]
    have hlen : (l ++ [(⟨0, 0, t⟩ : S32)]).length = l.length + 1 := by simp
    have w1 : wrap64 (((l ++ [(⟨0, 0, t⟩ : S32)]).length : Int) - 1) = ((l.length : Nat) : Int) := by rw [hlen]; unfold wrap64; omega
    have hg : rd_T32 (l ++ [(⟨0, 0, t⟩ : S32)]) (l.length : Int) = ⟨0, 0, t⟩ := by
      rw [rd_get _ l.length (by rw [hlen]; omega)]
      simp
    rw [e1]
    unfold quipuref13_with.f
    rw [if_pos (by rw [hlen]; omega), w1, if_pos (by omega), if_pos (by rw [hlen]; omega), hg, if_pos rfl, if_pos ht, Int.toNat_natCast]
    congr 1
    rw [List.set_append_right _ _ (Nat.le_refl _), Nat.sub_self, List.set_cons_zero]
theorem signed_eq (L : List S32) (kd : Int) (k : Nat) (hn : L.length < 4398046511104) : quipuref13_signed.f (k + 1) L kd = some (signL L kd) := by
  have w1 : 0 < L.length → wrap64 ((L.length : Int) - 1) = ((L.length - 1 : Nat) : Int) := fun h => by unfold wrap64; omega
  have app : quipuref13_signed.j0 (k + 1) L kd (L.length : Int) false = some (L ++ [⟨kd, if kd = 5 then 1 else 0, ⟨#[]⟩⟩], true) := by
    simp only [quipuref13_signed.j0]
    rw [if_neg (by decide)]
    by_cases h5 : kd = 5
    · rw [if_pos h5, if_pos hn, if_pos h5]
    · rw [if_neg h5, if_pos hn, if_neg h5]
  unfold quipuref13_signed.f signL
  by_cases h5 : kd = 5
  · rw [if_pos h5]
    by_cases hz : 0 < L.length
    · rw [if_pos (by omega), w1 hz, if_pos (by omega), if_pos (by omega)]
      by_cases hf : (rd_T32 L ((L.length - 1 : Nat) : Int)).f0 = 5
      · rw [if_pos ⟨h5, hz, hf⟩, beq_iff_eq.mpr hf]
        simp only [quipuref13_signed.j0]
        rw [if_pos trivial, w1 hz, if_pos (by omega), if_pos (by omega), Option.bind_some, Int.toNat_natCast]
        congr 2
        rw [rd_get _ (L.length - 1) (by rw [List.length_set]; omega)]
        simp
      · rw [if_neg (fun h => hf h.2.2), beq_eq_false_iff_ne.mpr hf]
        exact app
    · rw [if_neg (by omega), if_neg (fun h => hz h.2.1)]
      exact app
  · rw [if_neg h5, if_neg (fun h => h5 h.1)]
    exact app
theorem last_sign (L : List S32) (kd : Int) (hk : 0 < kd) : LastNT (signL L kd).1 := by
  intro hz
  unfold signL at hz ⊢
  split
  · rename_i c
    rw [if_pos c] at hz
    simp only [List.length_set] at hz ⊢
    rw [rd_get _ (L.length - 1) (by rw [List.length_set]; omega)]
    simp only [List.getElem_set_self]
    rw [c.2.2]
    decide
  · rename_i c
    have hlen : (L ++ [(⟨kd, if kd = 5 then 1 else 0, ⟨#[]⟩⟩ : S32)]).length = L.length + 1 := by simp
    simp only [hlen, Nat.add_sub_cancel]
    rw [rd_get _ L.length (by rw [hlen]; omega)]
    simp
    omega
theorem endL_nil (l : List S32) : endL l ⟨#[]⟩ = l := by
  unfold endL
  rw [if_pos (by rw [Lib.toList_data])]
theorem kind_letter (c : ByteArray) (h : kindS c ≠ 0) : letB c = false := by
  unfold kindS at h
  unfold letB
  have hd : c.toList = c.data.toList := Lib.toList_data c
  rw [hd] at h
  (repeat' split at h) <;> first | (rename_i e; rw [e]; decide) | exact absurd rfl h
set_option maxHeartbeats 1000000 in
theorem refParse_l (cs : List ByteArray) (w : Bool) (N : Nat) (hN : N ≤ 1048576) (hcs : ∀ c ∈ cs, IsRune c) (hct : ∀ c ∈ cs, c.size ≤ 4) (hcl : cs.length ≤ 1048576) : ∀ (d i k : Nat) (x : Int) (l : List S32) (t : ByteArray), 20000000 ≤ k → i + d = cs.length → (x = 0 ∨ x = 1) → LastNT l → l.length ≤ 2 * i → t.size ≤ 4 * i → Texts l (4 * i) →
    quipuref13_Parse.l0 (k + 2 * d + 1) cs w (endL l t) (x == 1) (i : Int) = some (parseS w (cs.drop i) false x l t) := by
  intro d
  induction d using Nat.strongRecOn with
  | _ d ih =>
  intro i k x l t hk hi hx hln hl ht htx
  have hel := endL_len l t
  obtain ⟨m, hm⟩ : ∃ m, k + 2 * d = m := ⟨_, rfl⟩
  rw [hm]
  simp only [quipuref13_Parse.l0]
  by_cases hlt : i < cs.length
  case neg =>
    rw [if_neg (by omega), List.drop_eq_nil_of_le (by omega)]
    simp only [parseS, finishS]
    cases w
    · rw [if_neg (by decide), if_pos rfl]
    · rw [if_pos rfl, if_neg (show ¬ (true = false) by decide)]
      by_cases hx1 : x = 1
      · rw [if_pos (beq_iff_eq.mpr hx1), if_pos hx1]
      · rw [if_neg (by simpa using hx1), if_neg hx1, refCheck_eq (endL l t) (4 * i) (by omega) (texts_end htx ht) (by omega) m (by omega), Option.bind_some]
        split
        · rfl
        · rfl
  have hmem := List.getElem_mem hlt
  obtain ⟨c, hc⟩ : ∃ c, cs[i] = c := ⟨_, rfl⟩
  rw [hc] at hmem
  have hR := hcs c hmem
  have hC4 := hct c hmem
  have hd : cs.drop i = c :: cs.drop (i + 1) := by rw [List.drop_eq_getElem_cons hlt, hc]
  have hrd : rdOf ByteArray.empty cs (i : Int) = c := by
    show cs.getD (i : Int).toNat ByteArray.empty = c
    rw [Int.toNat_natCast, List.getD_eq_getElem?_getD, List.getElem?_eq_getElem hlt, hc]
    rfl
  have W1 := Aside0.mk (show wrap64 ((i : Int) + 1) = ((i + 1 : Nat) : Int) by unfold wrap64; omega)
  rw [if_pos (show ((i : Int) < (cs.length : Int)) by omega), if_pos (show (0 : Int) ≤ (i : Int) by omega), hrd, hd]
  simp only [parseS]
  have htx1 : Texts l (4 * (i + 1)) := fun y hy => by have := htx y hy; omega
  have hx2 : (!(x == 1)) = ((1 - x) == 1) := by rcases hx with rfl | rfl <;> rfl
  by_cases hq : c.toList = ([39] : List UInt8)
  · rw [if_pos hq, if_pos (show quoteC c from hq), W1.out, hx2]
    by_cases hl1 : i + 1 < cs.length
    · obtain ⟨c', hc'⟩ : ∃ c', cs[i + 1] = c' := ⟨_, rfl⟩
      have hd1 : cs.drop (i + 1) = c' :: cs.drop (i + 2) := by rw [List.drop_eq_getElem_cons hl1, hc']
      have hrd1 : rdOf ByteArray.empty cs ((i + 1 : Nat) : Int) = c' := by
        show cs.getD ((i + 1 : Nat) : Int).toNat ByteArray.empty = c'
        rw [Int.toNat_natCast, List.getD_eq_getElem?_getD, List.getElem?_eq_getElem hl1, hc']
        rfl
      rw [if_pos (show (((i + 1 : Nat) : Int) < (cs.length : Int)) by omega), if_pos (show (0 : Int) ≤ ((i + 1 : Nat) : Int) by omega), hrd1, hd1]
      by_cases hq1 : c'.toList = ([39] : List UInt8)
      · have W2 := Aside0.mk (show wrap64 (((i + 1 : Nat) : Int) + 1) = ((i + 2 : Nat) : Int) by unfold wrap64; omega)
        rw [if_pos hq1, with_eq l t ⟨#[39]⟩ (by decide) hln (by omega) (by have : (⟨#[39]⟩ : ByteArray).size = 1 := rfl; omega), Option.bind_some, W2.out]
        rw [if_pos (show nextQ (c' :: cs.drop (i + 2)) = true from decide_eq_true hq1)]
        simp only [parseS]
        have h := ih (d - 2) (by omega) (i + 2) (k + 3) x l (t ++ ⟨#[39]⟩) (by omega) (by omega) hx hln (by omega) (by rw [ByteArray.size_append]; have : (⟨#[39]⟩ : ByteArray).size = 1 := rfl; omega) (fun y hy => by have := htx y hy; omega)
        rw [show k + 3 + 2 * (d - 2) + 1 = m by omega] at h
        exact h
      · rw [if_neg hq1]
        rw [if_neg (show ¬ nextQ (c' :: cs.drop (i + 2)) = true from fun h_ => hq1 (of_decide_eq_true h_)), ← hd1]
        have h := ih (d - 1) (by omega) (i + 1) (k + 1) (1 - x) l t (by omega) (by omega) (by omega) hln (by omega) (by omega) htx1
        rw [show k + 1 + 2 * (d - 1) + 1 = m by omega] at h
        exact h
    · rw [if_neg (show ¬ (((i + 1 : Nat) : Int) < (cs.length : Int)) by omega)]
      have hdn : cs.drop (i + 1) = [] := List.drop_eq_nil_of_le (by omega)
      have hnx : nextQ (cs.drop (i + 1)) = false := by rw [hdn]; rfl
      rw [hnx, if_neg (show ¬ (false = true) by decide)]
      have h := ih (d - 1) (by omega) (i + 1) (k + 1) (1 - x) l t (by omega) (by omega) (by omega) hln (by omega) (by omega) htx1
      rw [show k + 1 + 2 * (d - 1) + 1 = m by omega] at h
      exact h
  · rw [if_neg hq, if_neg (show ¬ quoteC c from hq)]
    obtain ⟨m', hm'⟩ : ∃ m', m = m' + 1 := ⟨m - 1, by omega⟩
    have hgo : ∀ x' l' t', (x' = 0 ∨ x' = 1) → LastNT l' → l'.length ≤ 2 * (i + 1) → t'.size ≤ 4 * (i + 1) → Texts l' (4 * (i + 1)) → quipuref13_Parse.l0 m' cs w (endL l' t') (x' == 1) ((i + 1 : Nat) : Int) = some (parseS w (cs.drop (i + 1)) false x' l' t') := fun x' l' t' a b c' d' e' => by
      have h := ih (d - 1) (by omega) (i + 1) k x' l' t' (by omega) (by omega) a b c' d' e'
      rw [show k + 2 * (d - 1) + 1 = m' by omega] at h
      exact h
    have jt : quipuref13_Parse.j1 m cs w (endL l t) (x == 1) (i : Int) true = some (parseS w (cs.drop (i + 1)) false x l (t ++ c)) := by
      rw [hm']
      simp only [quipuref13_Parse.j1]
      rw [if_pos trivial, if_pos (show (0 : Int) ≤ (i : Int) by omega), if_pos (show ((i : Int) < (cs.length : Int)) by omega), hrd, with_eq l t c hR.2 hln (by omega) (by omega), Option.bind_some, W1.out]
      exact hgo x l (t ++ c) hx hln (by omega) (by rw [ByteArray.size_append]; omega) htx1
    by_cases hx1 : x = 1
    · rw [if_pos (beq_iff_eq.mpr hx1), if_neg (show ¬ x = 0 by omega)]
      exact jt
    · have hx0 : x = 0 := by omega
      rw [if_neg (show ¬ (x == 1) = true by simpa using hx1), if_pos hx0, sign_eq, Option.bind_some]
      have hkr := kind_range c
      by_cases hk0 : kindS c = 0
      · rw [if_pos hk0, letter_eq hR, Option.bind_some, if_neg (show ¬ 0 < kindS c by omega)]
        by_cases hlb : letB c = true
        · rw [if_pos hlb, hlb, hm']
          simp only [quipuref13_Parse.j1]
          rw [if_neg (show ¬ ((!true) = true) by decide), if_pos (show (0 : Int) ≤ (i : Int) by omega), if_pos (show ((i : Int) < (cs.length : Int)) by omega), hrd, letter_eq hR, Option.bind_some, if_pos hlb]
        · rw [if_neg hlb, Bool.eq_false_iff.mpr hlb]
          exact jt
      · rw [if_neg hk0, if_pos (show 0 < kindS c by omega), hm']
        have hlf : letB c = false := by
          have hlm := kind_letter c hk0
          exact hlm
        simp only [quipuref13_Parse.j1]
        obtain ⟨m2, hm2⟩ : ∃ m2, m' = m2 + 1 := ⟨m' - 1, by omega⟩
        rw [if_neg (show ¬ (false = true) by decide), if_pos (show (0 : Int) ≤ (i : Int) by omega), if_pos (show ((i : Int) < (cs.length : Int)) by omega), hrd, letter_eq hR, Option.bind_some, hlf, if_neg (show ¬ (false = true) by decide), sign_eq, Option.bind_some]
        have hsg := signed_eq (endL l t) (kindS c) m2 (by omega)
        rw [← hm2] at hsg
        rw [hsg, Option.bind_some]
        by_cases hs2 : (signL (endL l t) (kindS c)).2 = true
        · rw [if_pos hs2, if_pos hs2, W1.out]
          have hsl := signL_len (endL l t) (kindS c)
          have h := hgo x (signL (endL l t) (kindS c)).1 ⟨#[]⟩ hx (last_sign _ _ (by omega)) (by omega) (Nat.zero_le _) (texts_sign (texts_end htx1 (by omega)) _)
          rw [endL_nil] at h
          exact h
        · rw [if_neg hs2, if_neg hs2]
theorem runesAt_size (s : ByteArray) : ∀ (d : Nat) (p : Int), 0 ≤ p → p ≤ s.size → (s.size : Int) - p ≤ d → (∀ c ∈ (runesAt s p).1, c.size ≤ 4) ∧ (((runesAt s p).1.length : Int) ≤ s.size - p)
  | d, p, h0, h1, h2 => by
    by_cases hlt : p < s.size
    · by_cases hz : runeS s p = 0
      · rw [runesAt_bad s p hlt hz]; exact ⟨fun c hc => by simp at hc, by simp; omega⟩
      · have hr := rune_pos s p hz
        have hs := cut_size s p hz
        obtain ⟨d', rfl⟩ : ∃ d', d = d' + 1 := ⟨d - 1, by omega⟩
        have ih := runesAt_size s d' (p + runeS s p) (by omega) (by omega) (by omega)
        rw [runesAt_step s p hz]
        refine ⟨fun c hc => ?_, by simp only [List.length_cons]; omega⟩
        simp only [List.mem_cons] at hc
        rcases hc with rfl | hc
        · omega
        · exact ih.1 c hc
    · rw [runesAt_end s p hlt]; exact ⟨fun c hc => by simp at hc, by simp; omega⟩
theorem refParse_eq (s : ByteArray) (hs : s.size ≤ 1048576) (K : Nat) (hK : 30000000 ≤ K) : quipuref13_Parse.f K s = some (parseT s) := by
  obtain ⟨h1, h2⟩ := runesAt_size s s.size 0 (Int.le_refl _) (by omega) (by omega)
  have hr := runesAt_runes s s.size 0 (Int.le_refl _) (by omega) (by omega)
  have h := refParse_l (runesAt s 0).1 (runesAt s 0).2 1048576 (Nat.le_refl _) hr h1 (by omega) (runesAt s 0).1.length 0 (K - 1 - 2 * (runesAt s 0).1.length) 0 [] ⟨#[]⟩ (by omega) (by omega) (.inl rfl) (fun h => by simp at h) (Nat.zero_le _) (Nat.zero_le _) (fun y hy => by simp at hy)
  rw [show K - 1 - 2 * (runesAt s 0).1.length + 2 * (runesAt s 0).1.length + 1 = K by omega] at h
  unfold quipuref13_Parse.f
  rw [refRunesT s hs K (by omega), Option.bind_some]
  rw [endL_nil, List.drop_zero] at h
  exact h
end Go.Proofs.Ytieipeigjhicfaa.A
