/- Plain law: runes of joined texts and of parts of a text. -/
import Derived.Test.YtieipeigjhicfaaR1
namespace Go.Proofs.Ytieipeigjhicfaa.R1
open Go.RowKit Go.Proofs.Ytieipeigjhicfaa.Q Go.Proofs.YtieipeigjhicfaaW.PrintWords Go.Proofs.YtieipeigjhicfaaW.PrintLast
set_option linter.unusedVariables false
set_option linter.unusedSimpArgs false

/-- What a first byte asks of those behind it, and how many bytes the rune has. -/
def sec (c : Int) : Int × Int × Int :=
  if c < 128 then (0, 0, 1) else if c < 194 then (0, 0, 0) else if c < 224 then (128, 191, 2) else if c = 224 then (160, 191, 3) else if c = 237 then (128, 159, 3)
  else if c < 240 then (128, 191, 3) else if c = 240 then (144, 191, 4) else if c < 244 then (128, 191, 4) else if c = 244 then (128, 143, 4) else (0, 0, 0)
def G (x : Int × Int × Int) (w : Int → Int → Bool) (w2 w3 : Bool) : Int :=
  if x.2.2 ≤ 1 then x.2.2 else if (w x.1 x.2.1 && ((decide (x.2.2 < 3) || w2) && (decide (x.2.2 < 4) || w3))) = true then x.2.2 else 0

theorem runeS_sec (s : ByteArray) (p : Int) (h0 : 0 ≤ p) (h1 : p < s.size) :
    runeS s p = G (sec (bt s p)) (W s (p + 1)) (W s (p + 2) 128 191) (W s (p + 3) 128 191) := by
  unfold runeS
  rw [if_neg (by omega), if_neg (by omega)]
  unfold sec
  by_cases c0 : bt s p < 128
  · simp [c0, G]
  simp only [if_neg c0]
  by_cases c1 : bt s p < 194
  · simp [c1, G]
  simp only [if_neg c1]
  by_cases c2 : bt s p < 224
  · simp [c2, G]
  simp only [if_neg c2]
  by_cases c3 : bt s p = 224
  · simp [c3, G]
  simp only [if_neg c3]
  by_cases c4 : bt s p = 237
  · simp [c4, G]
  simp only [if_neg c4]
  by_cases c5 : bt s p < 240
  · simp [c5, G]
  simp only [if_neg c5]
  by_cases c6 : bt s p = 240
  · simp [c6, G]
  simp only [if_neg c6]
  by_cases c7 : bt s p < 244
  · simp [c7, G]
  simp only [if_neg c7]
  by_cases c8 : bt s p = 244
  · simp [c8, G]
  simp [if_neg c8, G]

theorem sec_range (c : Int) : 0 ≤ (sec c).2.2 ∧ (sec c).2.2 ≤ 4 := by
  unfold sec
  repeat' split
  all_goals decide

theorem runeS_out (s : ByteArray) (p : Int) (h : ¬ (0 ≤ p ∧ p < s.size)) : runeS s p = 0 := by
  unfold runeS
  by_cases a : p < 0
  · rw [if_pos a]
  · rw [if_neg a, if_pos (by omega)]

/-- What holds of bytes here holds of them there: the rune is the same. -/
theorem runeS_mono (s t : ByteArray) (p q : Int) (h0 : 0 ≤ q) (h1 : q < t.size) (hb : bt s p = bt t q)
    (hw : ∀ j lo hi, 0 < j → W s (p + j) lo hi = true → W t (q + j) lo hi = true) (hn : runeS s p ≠ 0) : runeS t q = runeS s p := by
  have hp : 0 ≤ p ∧ p < s.size := Classical.byContradiction fun h => hn (runeS_out s p h)
  rw [runeS_sec s p hp.1 hp.2] at hn ⊢
  rw [runeS_sec t q h0 h1, ← hb]
  generalize sec (bt s p) = x at *
  unfold G at *
  by_cases c : x.2.2 ≤ 1
  · rw [if_pos c, if_pos c]
  rw [if_neg c] at hn
  rw [if_neg c, if_neg c]
  by_cases d : (W s (p + 1) x.1 x.2.1 && ((decide (x.2.2 < 3) || W s (p + 2) 128 191) && (decide (x.2.2 < 4) || W s (p + 3) 128 191))) = true
  · rw [if_pos d, if_pos ?_]
    simp only [Bool.and_eq_true, Bool.or_eq_true] at d ⊢
    exact ⟨hw _ _ _ (by omega) d.1, d.2.1.imp id (hw _ _ _ (by omega)), d.2.2.imp id (hw _ _ _ (by omega))⟩
  · rw [if_neg d] at hn; exact absurd rfl hn

theorem runeS_same (s t : ByteArray) (p q : Int) (h0 : 0 ≤ q) (h1 : q < t.size) (h2 : 0 ≤ p) (h3 : p < s.size) (hb : bt s p = bt t q)
    (hw : ∀ j lo hi, 0 < j → W s (p + j) lo hi = W t (q + j) lo hi) : runeS t q = runeS s p := by
  rw [runeS_sec s p h2 h3, runeS_sec t q h0 h1, ← hb]
  unfold G
  rw [hw 1 _ _ (by omega), hw 2 _ _ (by omega), hw 3 _ _ (by omega)]

theorem size_app (a b : ByteArray) : ((a ++ b).size : Int) = a.size + b.size := by rw [ByteArray.size_append]; omega
theorem bt_app_left (a b : ByteArray) (i : Int) (h0 : 0 ≤ i) (h : i < a.size) : bt (a ++ b) i = bt a i := by
  have h1 : i.toNat < a.size := by omega
  have h2 : i.toNat < (a ++ b).size := by rw [ByteArray.size_append]; omega
  simp only [bt, h1, h2, dite_true]
  rw [ByteArray.getElem_append_left h1]
theorem bt_app_right (a b : ByteArray) (i : Int) (h0 : 0 ≤ i) : bt (a ++ b) (a.size + i) = bt b i := by
  by_cases h : i < b.size
  · have h1 : i.toNat < b.size := by omega
    have h2 : (a.size + i : Int).toNat < (a ++ b).size := by rw [ByteArray.size_append]; omega
    simp only [bt, h1, h2, dite_true]
    rw [ByteArray.getElem_append_right (by omega)]
    congr 2
    have : (a.size + i : Int).toNat - a.size = i.toNat := by omega
    simp only [this]
  · have h1 : ¬ i.toNat < b.size := by omega
    have h2 : ¬ (a.size + i : Int).toNat < (a ++ b).size := by rw [ByteArray.size_append]; omega
    simp only [bt, h1, h2, dite_false]
theorem W_app_left (a b : ByteArray) (i lo hi : Int) (h0 : 0 ≤ i) (h : W a i lo hi = true) : W (a ++ b) i lo hi = true := by
  have hh : i < a.size := by simp only [W, Bool.and_eq_true, decide_eq_true_eq] at h; omega
  rw [W_in a i lo hi hh] at h
  rw [W_in _ _ _ _ (by rw [size_app]; omega), bt_app_left a b i h0 hh]; exact h
theorem W_app_right (a b : ByteArray) (i lo hi : Int) (h0 : 0 ≤ i) : W (a ++ b) (a.size + i) lo hi = W b i lo hi := by
  simp only [W, bt_app_right a b i h0]
  congr 1
  rw [size_app]
  exact decide_eq_decide.mpr (by omega)

theorem runeS_app_left (a b : ByteArray) (p : Int) (h : runeS a p ≠ 0) : runeS (a ++ b) p = runeS a p := by
  have hp : 0 ≤ p ∧ p < a.size := Classical.byContradiction fun hh => h (runeS_out a p hh)
  refine runeS_mono a (a ++ b) p p hp.1 (by rw [size_app]; omega) (bt_app_left a b p hp.1 hp.2).symm (fun j lo hi hj hw => W_app_left a b _ _ _ (by omega) hw) h
theorem runeS_app_right (a b : ByteArray) (p : Int) (h0 : 0 ≤ p) (h1 : p < b.size) : runeS (a ++ b) (a.size + p) = runeS b p := by
  refine runeS_same b (a ++ b) p (a.size + p) (by omega) (by rw [size_app]; omega) h0 h1 (bt_app_right a b p h0).symm (fun j lo hi hj => ?_)
  rw [show (a.size + p + j : Int) = a.size + (p + j) by omega, W_app_right a b _ _ _ (by omega)]

theorem cnt_succ (s : ByteArray) (f : Nat) (p : Int) : cnt s (f + 1) p = if p < s.size then (if runeS s p = 0 then none else (cnt s f (p + runeS s p)).map (· + 1)) else some 0 := rfl
theorem cnt_app_right (a b : ByteArray) : ∀ (f : Nat) (p : Int), 0 ≤ p → cnt (a ++ b) f (a.size + p) = cnt b f p
  | 0, p, h0 => rfl
  | f + 1, p, h0 => by
    simp only [cnt]
    by_cases h : p < b.size
    · rw [if_pos h, if_pos (by rw [size_app]; omega), runeS_app_right a b p h0 h]
      have hr := runeS_range b p
      by_cases z : runeS b p = 0
      · rw [if_pos z, if_pos z]
      · rw [if_neg z, if_neg z, show (a.size + p + runeS b p : Int) = a.size + (p + runeS b p) by omega, cnt_app_right a b f _ (by omega)]
    · rw [if_neg h, if_neg (by rw [size_app]; omega)]

/-- More fuel tells the same. -/
theorem cnt_fuel (s : ByteArray) : ∀ (f g : Nat) (p : Int), 0 ≤ p → p ≤ s.size → (s.size : Int) - p < f → f ≤ g → cnt s g p = cnt s f p
  | 0, g, p, h0, hp, h1, h2 => by omega
  | f + 1, g, p, h0, hp, h1, h2 => by
    obtain ⟨g, rfl⟩ : ∃ m, g = m + 1 := ⟨g - 1, by omega⟩
    simp only [cnt]
    have hr := runeS_range s p
    by_cases h : p < s.size
    · rw [if_pos h, if_pos h]
      by_cases z : runeS s p = 0
      · rw [if_pos z, if_pos z]
      · have := runeS_in s p z
        rw [if_neg z, if_neg z, cnt_fuel s f g _ (by omega) (by omega) (by omega) (by omega)]
    · rw [if_neg h, if_neg h]

theorem cnt_app (a b : ByteArray) : ∀ (f : Nat) (p r : Int), 0 ≤ p → p ≤ a.size → cnt a f p = some r → ∀ F : Nat, (a.size : Int) + b.size - p < F → cnt (a ++ b) F p = (cnt b (b.size + 1) 0).map (r + ·)
  | 0, p, r, h0, h1, h, F, hF => by simp [cnt] at h
  | f + 1, p, r, h0, h1, h, F, hF => by
    simp only [cnt] at h
    by_cases c : p < a.size
    · rw [if_pos c] at h
      by_cases z : runeS a p = 0
      · rw [if_pos z] at h; cases h
      · rw [if_neg z] at h
        obtain ⟨q, hq, rfl⟩ := Option.map_eq_some_iff.1 h
        have hi := runeS_in a p z
        have hr := runeS_range a p
        obtain ⟨F, rfl⟩ : ∃ m, F = m + 1 := ⟨F - 1, by omega⟩
        rw [cnt_succ, if_pos (by rw [size_app]; omega), runeS_app_left a b p z, if_neg z, cnt_app a b f _ q (by omega) (by omega) hq F (by omega)]
        cases cnt b (b.size + 1) 0 with
        | none => rfl
        | some x => simp; omega
    · rw [if_neg c] at h
      cases h
      have e : p = (a.size : Int) + 0 := by omega
      rw [e, cnt_app_right a b F 0 (by omega), cnt_fuel b (b.size + 1) F 0 (by omega) (by omega) (by omega) (by omega)]
      cases cnt b (b.size + 1) 0 with
      | none => rfl
      | some x => simp

theorem runesS_app (a b : ByteArray) (ha : 0 ≤ runesS a) : runesS (a ++ b) = if 0 ≤ runesS b then runesS a + runesS b else -1 := by
  unfold runesS at *
  cases h : cnt a (a.size + 1) 0 with
  | none => rw [h] at ha; simp at ha
  | some n =>
    rw [cnt_app a b (a.size + 1) 0 n (by omega) (by omega) h ((a ++ b).size + 1) (by have := size_app a b; omega)]
    cases hb : cnt b (b.size + 1) 0 with
    | none => simp
    | some m =>
      have := cnt_range b _ 0 m (by omega) (by omega) hb
      simp [this.1]

theorem size_cut (a : ByteArray) (i m : Int) (h0 : 0 ≤ i) (h1 : 0 ≤ m) (h2 : i + m ≤ a.size) : ((a.extract i.toNat (i + m).toNat).size : Int) = m := by
  rw [ByteArray.size_extract]; omega
theorem bt_cut (a : ByteArray) (i m q : Int) (h0 : 0 ≤ i) (h1 : 0 ≤ q) (h2 : q < m) (h3 : i + m ≤ a.size) : bt (a.extract i.toNat (i + m).toNat) q = bt a (i + q) := by
  have a1 : q.toNat < (a.extract i.toNat (i + m).toNat).size := by rw [ByteArray.size_extract]; omega
  have a2 : (i + q).toNat < a.size := by omega
  simp only [bt, a1, a2, dite_true]
  rw [ByteArray.getElem_extract]
  have : i.toNat + q.toNat = (i + q).toNat := by omega
  simp only [this]
theorem W_cut (a : ByteArray) (i m q lo hi : Int) (h0 : 0 ≤ i) (h1 : 0 ≤ q) (h3 : i + m ≤ a.size) (hm : 0 ≤ m) : W (a.extract i.toNat (i + m).toNat) q lo hi = (decide (q < m) && W a (i + q) lo hi) := by
  by_cases h : q < m
  · rw [W_in _ _ _ _ (by rw [size_cut a i m h0 hm h3]; exact h), bt_cut a i m q h0 h1 h h3, W_in a (i + q) lo hi (by omega)]; simp [h]
  · rw [W_out _ _ _ _ (by rw [size_cut a i m h0 hm h3]; exact h)]; simp [h]

theorem runeS_form (s : ByteArray) (p : Int) (h : runeS s p ≠ 0) : runeS s p = (sec (bt s p)).2.2 := by
  have hp : 0 ≤ p ∧ p < s.size := Classical.byContradiction fun hh => h (runeS_out s p hh)
  rw [runeS_sec s p hp.1 hp.2] at h ⊢
  unfold G at *
  split
  · rfl
  · rename_i c
    rw [if_neg c] at h
    split
    · rfl
    · rename_i d; rw [if_neg d] at h; exact absurd rfl h

/-- The bytes of a rune, cut out, are one rune; without its last byte they begin none. -/
theorem runeS_cut (a : ByteArray) (i m : Int) (hz : runeS a i ≠ 0) (hm : 1 ≤ m) (hk : m ≤ runeS a i) :
    runeS (a.extract i.toNat (i + m).toNat) 0 = if m = runeS a i then m else 0 := by
  have hi := runeS_in a i hz
  have hf := runeS_form a i hz
  have hr := runeS_range a i
  rw [runeS_sec _ 0 (by omega) (by rw [size_cut a i m hi.1 (by omega) (by omega)]; omega), bt_cut a i m 0 hi.1 (by omega) (by omega) (by omega)]
  simp only [Int.zero_add, Int.add_zero]
  rw [runeS_sec a i hi.1 (by omega)] at hz
  rw [hf] at hk hr ⊢
  rw [W_cut a i m 2 _ _ hi.1 (by omega) (by omega) (by omega), W_cut a i m 3 _ _ hi.1 (by omega) (by omega) (by omega)]
  have hw1 := fun lo hi2 => W_cut a i m 1 lo hi2 hi.1 (by omega) (by omega) (by omega)
  generalize sec (bt a i) = x at *
  unfold G at *
  by_cases c : x.2.2 ≤ 1
  · rw [if_pos c, if_pos (by omega)]; omega
  rw [if_neg c] at hz
  rw [if_neg c, hw1]
  by_cases d : (W a (i + 1) x.1 x.2.1 && ((decide (x.2.2 < 3) || W a (i + 2) 128 191) && (decide (x.2.2 < 4) || W a (i + 3) 128 191))) = true
  · simp only [Bool.and_eq_true, Bool.or_eq_true, decide_eq_true_eq] at d ⊢
    by_cases e : m = x.2.2
    · rw [if_pos e, if_pos ?_, e]
      refine ⟨⟨by omega, d.1⟩, ?_, ?_⟩
      · rcases d.2.1 with h | h
        · exact .inl h
        · by_cases q : x.2.2 < 3
          · exact .inl q
          · exact .inr ⟨by omega, h⟩
      · rcases d.2.2 with h | h
        · exact .inl h
        · by_cases q : x.2.2 < 4
          · exact .inl q
          · exact .inr ⟨by omega, h⟩
    · rw [if_neg e, if_neg ?_]
      rintro ⟨⟨h1, _⟩, h2, h3⟩
      omega
  · rw [if_neg d] at hz; exact absurd rfl hz

theorem runesS_one (t : ByteArray) (h : runeS t 0 = t.size) (hn : t.size ≠ 0) : runesS t = 1 := by
  unfold runesS
  have : ∃ f, t.size = f + 1 := ⟨t.size - 1, by omega⟩
  obtain ⟨f, hf⟩ := this
  have h1 : runeS t 0 ≠ 0 := by omega
  rw [hf]
  simp only [cnt]
  rw [if_pos (by omega), if_neg h1, Int.zero_add, h, if_neg (by omega)]
  rfl
end Go.Proofs.Ytieipeigjhicfaa.R1
