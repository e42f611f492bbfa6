/- Plain law: texts joined; AffixJoins tells true. -/
import Derived.Test.YtieipeigjhicfaaA5f
namespace Go.Proofs.Ytieipeigjhicfaa.A
open Go.RowKit Go.Proofs.Ytieipeigjhicfaa.Q Go.Proofs.Ytieipeigjhicfaa.R1 Go.Proofs.YtieipeigjhicfaaW.PrintWords Go.Proofs.YtieipeigjhicfaaW.PrintLast
set_option linter.unusedVariables false
/-! ### runes of joined texts -/
theorem cut_left (a b : ByteArray) (p : Int) (h : runeS a p ≠ 0) : cut (a ++ b) p = cut a p := by
  have hr := rune_pos a p h
  unfold cut
  rw [runeS_app_left a b p h]
  apply bytes_inj
  rw [ByteArray.data_extract, ByteArray.data_extract, Array.toList_extract, Array.toList_extract, ByteArray.data_append, Array.toList_append, List.extract_eq_take_drop, List.extract_eq_take_drop, List.drop_append_of_le_length (by rw [Array.length_toList]; show p.toNat ≤ a.size; omega), List.take_append_of_le_length]
  rw [List.length_drop, Array.length_toList]
  show (p + runeS a p).toNat - p.toNat ≤ a.size - p.toNat
  omega
theorem cut_right (a b : ByteArray) (p : Int) (h0 : 0 ≤ p) (h1 : p < b.size) : cut (a ++ b) (a.size + p) = cut b p := by
  have hr := runeS_range b p
  unfold cut
  rw [runeS_app_right a b p h0 h1]
  apply bytes_inj
  rw [ByteArray.data_extract, ByteArray.data_extract, Array.toList_extract, Array.toList_extract, ByteArray.data_append, Array.toList_append, List.extract_eq_take_drop, List.extract_eq_take_drop]
  have e1 : ((a.size : Int) + p).toNat = a.data.toList.length + p.toNat := by rw [Array.length_toList]; show _ = a.size + _; omega
  have e2 : ((a.size : Int) + p + runeS b p).toNat - ((a.size : Int) + p).toNat = (p + runeS b p).toNat - p.toNat := by omega
  rw [e2, e1, List.drop_append, List.drop_of_length_le (by omega), List.nil_append, Nat.add_sub_cancel_left]
theorem runesAt_right (a b : ByteArray) : ∀ (d : Nat) (p : Int), 0 ≤ p → p ≤ b.size → (b.size : Int) - p ≤ d → runesAt (a ++ b) (a.size + p) = runesAt b p
  | d, p, h0, h1, h2 => by
    by_cases hlt : p < b.size
    · have hs : ((a.size : Int) + p) < ((a ++ b).size : Int) := by rw [size_app]; omega
      have hrr := runeS_app_right a b p h0 hlt
      by_cases hz : runeS b p = 0
      · rw [runesAt_bad b p hlt hz, runesAt_bad (a ++ b) _ hs (by rw [hrr]; exact hz)]
      · have hr := rune_pos b p hz
        obtain ⟨d', rfl⟩ : ∃ d', d = d' + 1 := ⟨d - 1, by omega⟩
        have ih := runesAt_right a b d' (p + runeS b p) (by omega) (by omega) (by omega)
        rw [runesAt_step b p hz, runesAt_step (a ++ b) _ (by rw [hrr]; exact hz), hrr, cut_right a b p h0 hlt, Int.add_assoc, ih]
    · rw [runesAt_end b p hlt, runesAt_end (a ++ b) _ (by rw [size_app]; omega)]
theorem runesAt_left (a b : ByteArray) : ∀ (d : Nat) (p : Int), 0 ≤ p → p ≤ a.size → (a.size : Int) - p ≤ d → (runesAt a p).2 = true → runesAt (a ++ b) p = ((runesAt a p).1 ++ (runesAt b 0).1, (runesAt b 0).2)
  | d, p, h0, h1, h2, hw => by
    by_cases hlt : p < a.size
    · by_cases hz : runeS a p = 0
      · rw [runesAt_bad a p hlt hz] at hw; exact absurd hw (by decide)
      · have hr := rune_pos a p hz
        obtain ⟨d', rfl⟩ : ∃ d', d = d' + 1 := ⟨d - 1, by omega⟩
        have hrl := runeS_app_left a b p hz
        rw [runesAt_step a p hz] at hw
        have ih := runesAt_left a b d' (p + runeS a p) (by omega) (by omega) (by omega) hw
        rw [runesAt_step a p hz, runesAt_step (a ++ b) p (by rw [hrl]; exact hz), hrl, cut_left a b p hz, ih]
        rfl
    · have hp : p = a.size := by omega
      have h := runesAt_right a b b.size 0 (Int.le_refl _) (by omega) (by omega)
      rw [Int.add_zero, ← hp] at h
      rw [runesAt_end a p hlt, h]
      rfl
/-! ### the way over runes, told as a state -/
/-- Where the reading stands behind runes; none: refused. -/
def runS : List ByteArray → Bool → Int → List S32 → ByteArray → Option (Int × List S32 × ByteArray)
  | [], _, x, l, t => some (x, l, t)
  | c :: cs, true, x, l, t => runS cs false x l (t ++ ⟨#[39]⟩)
  | c :: cs, false, x, l, t =>
    if quoteC c then (if nextQ cs = true then runS cs true x l t else runS cs false (1 - x) l t)
    else if x = 0 then
      (if 0 < kindS c then (if (signL (endL l t) (kindS c)).2 = true then runS cs false x (signL (endL l t) (kindS c)).1 ⟨#[]⟩ else none)
       else if letB c = true then none else runS cs false x l (t ++ c))
    else runS cs false x l (t ++ c)
def tellS (w : Bool) : Option (Int × List S32 × ByteArray) → List S32 × Int
  | none => ([], 131)
  | some (x, l, t) => finishS w x (endL l t)
theorem parse_run (w : Bool) : ∀ (cs : List ByteArray) (sk : Bool) (x : Int) (l : List S32) (t : ByteArray), parseS w cs sk x l t = tellS w (runS cs sk x l t)
  | [], sk, x, l, t => rfl
  | c :: cs, true, x, l, t => by simp only [parseS, runS]; exact parse_run w cs false x l _
  | c :: cs, false, x, l, t => by
    simp only [parseS, runS]
    by_cases hq : quoteC c
    · rw [if_pos hq, if_pos hq]
      by_cases hn : nextQ cs = true
      · rw [if_pos hn, if_pos hn]; exact parse_run w cs true x l t
      · rw [if_neg hn, if_neg hn]; exact parse_run w cs false _ l t
    · rw [if_neg hq, if_neg hq]
      by_cases hx : x = 0
      · rw [if_pos hx, if_pos hx]
        by_cases hk : 0 < kindS c
        · rw [if_pos hk, if_pos hk]
          by_cases hs : (signL (endL l t) (kindS c)).2 = true
          · rw [if_pos hs, if_pos hs]; exact parse_run w cs false x _ _
          · rw [if_neg hs, if_neg hs]; rfl
        · rw [if_neg hk, if_neg hk]
          by_cases hb : letB c = true
          · rw [if_pos hb, if_pos hb]; rfl
          · rw [if_neg hb, if_neg hb]; exact parse_run w cs false x l _
      · rw [if_neg hx, if_neg hx]; exact parse_run w cs false x l _
theorem run_app (ds : List ByteArray) (hd : nextQ ds = false) : ∀ (cs : List ByteArray) (sk : Bool) (x : Int) (l : List S32) (t : ByteArray), (sk = true → cs ≠ []) →
    runS (cs ++ ds) sk x l t = (runS cs sk x l t).bind fun s => runS ds false s.1 s.2.1 s.2.2
  | [], true, x, l, t, h => absurd rfl (h rfl)
  | [], false, x, l, t, h => rfl
  | c :: cs, true, x, l, t, h => by simp only [List.cons_append, runS]; exact run_app ds hd cs false x l _ (fun h => by cases h)
  | c :: cs, false, x, l, t, h => by
    have hnx : nextQ (cs ++ ds) = nextQ cs := by
      cases cs with
      | nil => exact hd
      | cons e es => rfl
    simp only [List.cons_append, runS]
    rw [hnx]
    by_cases hq : quoteC c
    · rw [if_pos hq, if_pos hq]
      by_cases hn : nextQ cs = true
      · rw [if_pos hn, if_pos hn]
        exact run_app ds hd cs true x l t (fun _ => by rintro rfl; exact absurd hn (by decide))
      · rw [if_neg hn, if_neg hn]; exact run_app ds hd cs false _ l t (fun h => by cases h)
    · rw [if_neg hq, if_neg hq]
      by_cases hx : x = 0
      · rw [if_pos hx, if_pos hx]
        by_cases hk : 0 < kindS c
        · rw [if_pos hk, if_pos hk]
          by_cases hs : (signL (endL l t) (kindS c)).2 = true
          · rw [if_pos hs, if_pos hs]; exact run_app ds hd cs false x _ _ (fun h => by cases h)
          · rw [if_neg hs, if_neg hs]; rfl
        · rw [if_neg hk, if_neg hk]
          by_cases hb : letB c = true
          · rw [if_pos hb, if_pos hb]; rfl
          · rw [if_neg hb, if_neg hb]; exact run_app ds hd cs false x l _ (fun h => by cases h)
      · rw [if_neg hx, if_neg hx]; exact run_app ds hd cs false x l _ (fun h => by cases h)
theorem end_pre (P l : List S32) (t : ByteArray) : endL (P ++ l) t = P ++ endL l t := by
  unfold endL
  split
  · rfl
  · rw [List.append_assoc]
/-- The last token is no currency's. -/
def LastNC (P : List S32) : Prop := 0 < P.length → (rd_T32 P ((P.length - 1 : Nat) : Int)).f0 ≠ 5
theorem sign_pre (P L : List S32) (k : Int) (hP : LastNC P) : signL (P ++ L) k = (P ++ (signL L k).1, (signL L k).2) := by
  by_cases hL : L.length = 0
  · have : L = [] := List.eq_nil_of_length_eq_zero hL
    subst this
    have e1 : signL (P ++ []) k = (P ++ [⟨k, if k = 5 then 1 else 0, ⟨#[]⟩⟩], true) := by
      rw [List.append_nil]
      unfold signL
      rw [if_neg]
      rintro ⟨_, h1, h2⟩
      exact hP h1 h2
    have e2 : signL [] k = ([⟨k, if k = 5 then 1 else 0, ⟨#[]⟩⟩], true) := by
      unfold signL
      rw [if_neg (fun h => by simp at h)]
      rfl
    rw [e1, e2]
  · have hlen : (P ++ L).length - 1 = P.length + (L.length - 1) := by rw [List.length_append]; omega
    have hrd : rd_T32 (P ++ L) (((P ++ L).length - 1 : Nat) : Int) = rd_T32 L ((L.length - 1 : Nat) : Int) := by
      rw [rd_get _ _ (by rw [List.length_append]; omega), rd_get L _ (by omega)]
      simp only [hlen]
      rw [List.getElem_append_right (by omega)]
      congr 1
      omega
    unfold signL
    rw [hrd, hlen]
    by_cases h : k = 5 ∧ 0 < L.length ∧ (rd_T32 L ((L.length - 1 : Nat) : Int)).f0 = 5
    · rw [if_pos h, if_pos ⟨h.1, by rw [List.length_append]; omega, h.2.2⟩]
      rw [List.set_append_right _ _ (by omega), Nat.add_sub_cancel_left]
    · rw [if_neg h, if_neg (fun h' => h ⟨h'.1, by omega, h'.2.2⟩), List.append_assoc]
theorem run_pre (P : List S32) (hP : LastNC P) : ∀ (cs : List ByteArray) (sk : Bool) (x : Int) (l : List S32) (t : ByteArray),
    runS cs sk x (P ++ l) t = (runS cs sk x l t).map fun s => (s.1, P ++ s.2.1, s.2.2)
  | [], sk, x, l, t => rfl
  | c :: cs, true, x, l, t => by simp only [runS]; exact run_pre P hP cs false x l _
  | c :: cs, false, x, l, t => by
    simp only [runS]
    rw [end_pre, sign_pre P _ _ hP]
    by_cases hq : quoteC c
    · rw [if_pos hq, if_pos hq]
      by_cases hn : nextQ cs = true
      · rw [if_pos hn, if_pos hn]; exact run_pre P hP cs true x l t
      · rw [if_neg hn, if_neg hn]; exact run_pre P hP cs false _ l t
    · rw [if_neg hq, if_neg hq]
      by_cases hx : x = 0
      · rw [if_pos hx, if_pos hx]
        by_cases hk : 0 < kindS c
        · rw [if_pos hk, if_pos hk]
          by_cases hs : (signL (endL l t) (kindS c)).2 = true
          · rw [if_pos hs, if_pos hs]; exact run_pre P hP cs false x _ _
          · rw [if_neg hs, if_neg hs]; rfl
        · rw [if_neg hk, if_neg hk]
          by_cases hb : letB c = true
          · rw [if_pos hb, if_pos hb]; rfl
          · rw [if_neg hb, if_neg hb]; exact run_pre P hP cs false x l _
      · rw [if_neg hx, if_neg hx]; exact run_pre P hP cs false x l _
theorem run_x (s : Int × List S32 × ByteArray) : ∀ (cs : List ByteArray) (sk : Bool) (x : Int) (l : List S32) (t : ByteArray), (x = 0 ∨ x = 1) → runS cs sk x l t = some s → (s.1 = 0 ∨ s.1 = 1)
  | [], sk, x, l, t, hx, h => by simp only [runS, Option.some.injEq] at h; subst h; exact hx
  | c :: cs, true, x, l, t, hx, h => by simp only [runS] at h; exact run_x s cs false x l _ hx h
  | c :: cs, false, x, l, t, hx, h => by
    simp only [runS] at h
    by_cases hq : quoteC c
    · rw [if_pos hq] at h
      by_cases hn : nextQ cs = true
      · rw [if_pos hn] at h; exact run_x s cs true x l t hx h
      · rw [if_neg hn] at h; exact run_x s cs false _ l t (by omega) h
    · rw [if_neg hq] at h
      by_cases hx0 : x = 0
      · rw [if_pos hx0] at h
        by_cases hk : 0 < kindS c
        · rw [if_pos hk] at h
          by_cases hs : (signL (endL l t) (kindS c)).2 = true
          · rw [if_pos hs] at h; exact run_x s cs false x _ _ hx h
          · rw [if_neg hs] at h; exact absurd h (by simp)
        · rw [if_neg hk] at h
          by_cases hb : letB c = true
          · rw [if_pos hb] at h; exact absurd h (by simp)
          · rw [if_neg hb] at h; exact run_x s cs false x l _ hx h
      · rw [if_neg hx0] at h; exact run_x s cs false x l _ hx h
/-! ### Check -/
def goodL : Option S32 → List S32 → Bool
  | _, [] => true
  | p, t :: r => !twice p t && (singleS t && goodL (some t) r)
def bytesL : List S32 → Int → Int
  | [], b => b
  | t :: r, b => bytesL r (wrap64 (b + t.f2.size))
theorem checkL_cons (n : Nat) (p : Option S32) (t : S32) (r : List S32) (b : Int) : checkL n p (t :: r) b = if (twice p t || !singleS t) = true then 131 else checkL n (some t) r (wrap64 (b + t.f2.size)) := rfl
theorem goodL_cons (p : Option S32) (t : S32) (r : List S32) : goodL p (t :: r) = (!twice p t && (singleS t && goodL (some t) r)) := rfl
theorem bytesL_cons (t : S32) (r : List S32) (b : Int) : bytesL (t :: r) b = bytesL r (wrap64 (b + t.f2.size)) := rfl
theorem check_good (n : Nat) : ∀ (l : List S32) (p : Option S32) (b : Int), checkL n p l b = if goodL p l = true then (if (n : Int) > 64 then 132 else if bytesL l b > 64 then 132 else 0) else 131
  | [], p, b => rfl
  | t :: r, p, b => by
    rw [checkL_cons, goodL_cons, bytesL_cons, check_good n r (some t)]
    cases h1 : twice p t <;> cases h2 : singleS t <;> rfl
theorem check_cases (l : List S32) : (checkS l = 131 ∧ goodL none l = false) ∨ (goodL none l = true ∧ (checkS l = 0 ∨ checkS l = 132)) := by
  unfold checkS
  rw [check_good]
  cases goodL none l
  · left; exact ⟨rfl, rfl⟩
  · right
    refine ⟨rfl, ?_⟩
    rw [if_pos rfl]
    repeat' split
    all_goals simp
def minusT : S32 := ⟨1, 0, ⟨#[]⟩⟩
theorem good_minus (M : List S32) : goodL (some minusT) M = goodL none M := by
  cases M with
  | nil => rfl
  | cons t r =>
    simp only [goodL]
    have : twice (some minusT) t = false := by
      by_cases h : (1 : Int) = t.f0
      · rw [twice_eq minusT t h, ← h]; rfl
      · exact twice_ne minusT t h
    rw [this, twice_none]
theorem single_minus : singleS minusT = true := by
  have h : minusT.f2.toList = ([] : List UInt8) := by rw [Lib.toList_data]; rfl
  unfold singleS
  rw [if_neg (by decide), if_pos (by decide), if_pos h]
  rfl
theorem good_join (A M : List S32) : ∀ (p : Option S32), goodL p A = true → goodL none M = true → (A = [] → twice p minusT = false) → goodL p (A ++ (minusT :: M)) = true := by
  induction A with
  | nil =>
    intro p _ hm hp
    simp only [List.nil_append, goodL]
    rw [hp rfl, single_minus, good_minus, hm]
    rfl
  | cons t r ih =>
    intro p ha hm hp
    simp only [List.cons_append, goodL] at ha ⊢
    rw [Bool.and_eq_true, Bool.and_eq_true] at ha
    rw [ha.1, ha.2.1, ih (some t) ha.2.2 hm (fun _ => by
      by_cases h : t.f0 = (1 : Int)
      · rw [twice_eq t minusT h]; rfl
      · exact twice_ne t minusT h)]
    rfl
/-! ### the law -/
theorem same_refl (l : List S32) (hl : l.length ≤ 4611686018427387904) (K : Nat) : ∀ (d i : Nat), i + d = l.length → quipuref13_Same.l0 (K + d + 1) l l (i : Int) = some true
  | 0, i, hi => by
    simp only [quipuref13_Same.l0]
    rw [if_neg (by omega)]
  | d + 1, i, hi => by
    have ih := same_refl l hl K d (i + 1) (by omega)
    obtain ⟨m, hm⟩ : ∃ m, K + d + 1 = m := ⟨_, rfl⟩
    rw [hm] at ih
    have W1 := Aside0.mk (show wrap64 ((i : Int) + 1) = ((i + 1 : Nat) : Int) by unfold wrap64; omega)
    rw [show K + (d + 1) + 1 = m + 1 by omega]
    simp only [quipuref13_Same.l0]
    rw [if_pos (show ((i : Int) < (l.length : Int)) by omega), if_pos (show (0 : Int) ≤ (i : Int) by omega), if_pos (show ((i : Int) < (l.length : Int)) by omega), W1.out, ih]
    simp only [beq_self_eq_true, Bool.not_true, Bool.or_false]
    rw [if_neg (by decide)]
theorem same_self (l : List S32) (hl : l.length ≤ 4611686018427387904) (K : Nat) (hK : l.length + 1 ≤ K) : quipuref13_Same.f K l l = some true := by
  have h := same_refl l hl (K - (l.length + 1)) l.length 0 (by omega)
  rw [show K - (l.length + 1) + l.length + 1 = K by omega] at h
  unfold quipuref13_Same.f
  rw [if_pos rfl]
  exact h
theorem tell_ok {w : Bool} {o : Option (Int × List S32 × ByteArray)} {L : List S32} (hx : ∀ s, o = some s → s.1 = 0 ∨ s.1 = 1) (h : tellS w o = (L, 0)) : w = true ∧ ∃ l t, o = some (0, l, t) ∧ endL l t = L ∧ checkS L = 0 := by
  cases o with
  | none => simp [tellS] at h
  | some s =>
    obtain ⟨x, l, t⟩ := s
    simp only [tellS, finishS] at h
    cases w with
    | false => simp at h
    | true =>
      rw [if_neg (by decide)] at h
      have hx1 := hx _ rfl
      by_cases h1 : x = 1
      · rw [if_pos h1] at h; simp at h
      · rw [if_neg h1] at h
        have : x = 0 := by rcases hx1 with h | h; exact h; exact absurd h h1
        subst this
        by_cases hc : checkS (endL l t) = 0
        · rw [if_pos hc] at h
          simp only [Prod.mk.injEq, and_true] at h
          exact ⟨rfl, l, t, rfl, h, h ▸ hc⟩
        · rw [if_neg hc] at h
          simp only [Prod.mk.injEq] at h
          exact absurd h.2 hc
/-! ### bounds -/
def tot : List ByteArray → Nat
  | [] => 0
  | c :: cs => c.size + 1 + tot cs
theorem tot_runes (s : ByteArray) : ∀ (d : Nat) (p : Int), 0 ≤ p → p ≤ s.size → (s.size : Int) - p ≤ d → (tot (runesAt s p).1 : Int) ≤ 2 * (s.size - p)
  | d, p, h0, h1, h2 => by
    by_cases hlt : p < s.size
    · by_cases hz : runeS s p = 0
      · rw [runesAt_bad s p hlt hz]
        show ((0 : Nat) : Int) ≤ _
        omega
      · have hr := rune_pos s p hz
        obtain ⟨d', rfl⟩ : ∃ d', d = d' + 1 := ⟨d - 1, by omega⟩
        have ih := tot_runes s d' (p + runeS s p) (by omega) (by omega) (by omega)
        have hc := cut_size s p hz
        rw [runesAt_step s p hz]
        show (((cut s p).size + 1 + tot (runesAt s (p + runeS s p)).1 : Nat) : Int) ≤ _
        omega
    · rw [runesAt_end s p hlt]
      show ((0 : Nat) : Int) ≤ _
      omega
theorem end_len (l : List S32) (t : ByteArray) : (endL l t).length ≤ l.length + 1 := by
  unfold endL
  split
  · omega
  · rw [List.length_append, List.length_singleton]; exact Nat.le_refl _
theorem sign_len (l : List S32) (k : Int) : (signL l k).1.length ≤ l.length + 1 := by
  unfold signL
  split
  · simp
  · simp
theorem run_bound (N M : Nat) (s : Int × List S32 × ByteArray) : ∀ (cs : List ByteArray) (sk : Bool) (x : Int) (l : List S32) (t : ByteArray), runS cs sk x l t = some s → Texts l N → t.size + tot cs ≤ N → l.length + 2 * tot cs ≤ M →
    Texts s.2.1 N ∧ s.2.2.size ≤ N ∧ s.2.1.length ≤ M
  | [], sk, x, l, t, h, h1, h2, h3 => by
    simp only [runS, Option.some.injEq] at h
    subst h
    exact ⟨h1, h2, h3⟩
  | c :: cs, sk, x, l, t, h, h1, h2, h3 => by
    have e : tot (c :: cs) = c.size + 1 + tot cs := rfl
    rw [e] at h2 h3
    have ee := end_len l t
    have et : Texts (endL l t) N := texts_end h1 (by omega)
    cases sk with
    | true =>
      simp only [runS] at h
      exact run_bound N M s cs false x l _ h h1 (by rw [ByteArray.size_append]; show t.size + 1 + tot cs ≤ N; omega) (by omega)
    | false =>
      simp only [runS] at h
      by_cases hq : quoteC c
      · rw [if_pos hq] at h
        by_cases hn : nextQ cs = true
        · rw [if_pos hn] at h; exact run_bound N M s cs true x l t h h1 (by omega) (by omega)
        · rw [if_neg hn] at h; exact run_bound N M s cs false _ l t h h1 (by omega) (by omega)
      · rw [if_neg hq] at h
        by_cases hx0 : x = 0
        · rw [if_pos hx0] at h
          by_cases hk : 0 < kindS c
          · rw [if_pos hk] at h
            by_cases hs : (signL (endL l t) (kindS c)).2 = true
            · rw [if_pos hs] at h
              have es := sign_len (endL l t) (kindS c)
              exact run_bound N M s cs false x _ _ h (texts_sign et _) (by show 0 + tot cs ≤ N; omega) (by omega)
            · rw [if_neg hs] at h; exact absurd h (by simp)
          · rw [if_neg hk] at h
            by_cases hb : letB c = true
            · rw [if_pos hb] at h; exact absurd h (by simp)
            · rw [if_neg hb] at h; exact run_bound N M s cs false x l _ h h1 (by rw [ByteArray.size_append]; omega) (by omega)
        · rw [if_neg hx0] at h; exact run_bound N M s cs false x l _ h h1 (by rw [ByteArray.size_append]; omega) (by omega)
theorem parseT_run (s : ByteArray) : parseT s = tellS (runesAt s 0).2 (runS (runesAt s 0).1 false 0 [] ⟨#[]⟩) := parse_run _ _ _ _ _ _
/-- What a text read whole says. -/
theorem parse_ok (s : ByteArray) {L : List S32} (h : parseT s = (L, 0)) : (runesAt s 0).2 = true ∧ ∃ l t, runS (runesAt s 0).1 false 0 [] ⟨#[]⟩ = some (0, l, t) ∧ endL l t = L ∧ checkS L = 0 ∧ Texts L (2 * s.size) ∧ L.length ≤ 4 * s.size + 1 := by
  rw [parseT_run] at h
  obtain ⟨h1, l, t, h2, h3, h4⟩ := tell_ok (fun s => run_x s _ _ _ _ _ (.inl rfl)) h
  have ht := tot_runes s s.size 0 (Int.le_refl _) (by omega) (by omega)
  obtain ⟨b1, b2, b3⟩ := run_bound (2 * s.size) (4 * s.size) _ _ _ _ _ _ h2 (fun _ h => by simp at h) (by show 0 + _ ≤ _; omega) (by show 0 + _ ≤ _; omega)
  have := end_len l t
  exact ⟨h1, l, t, h2, h3, h4, by rw [← h3]; exact texts_end b1 b2, by rw [← h3]; exact Nat.le_trans this (by simp only at b3; omega)⟩
def minusC : ByteArray := ⟨#[45]⟩
theorem minus_runes : runesAt minusC 0 = ([minusC], true) := by decide +kernel
theorem minus_kind : kindS minusC = 1 := by decide +kernel
theorem minus_quote : ¬ quoteC minusC := by unfold quoteC; decide +kernel
theorem minus_lastNC (A : List S32) : LastNC (A ++ [minusT]) := by
  intro _
  have : (A ++ [minusT]).length - 1 = A.length := by rw [List.length_append]; simp
  rw [this, rd_get _ _ (by rw [List.length_append]; simp)]
  rw [List.getElem_append_right (Nat.le_refl _)]
  simp only [Nat.sub_self, List.getElem_cons_zero]
  decide
theorem sign_minus (A : List S32) : signL A 1 = (A ++ [minusT], true) := by
  unfold signL
  rw [if_neg (by rintro ⟨h, _⟩; exact absurd h (by decide))]
  rfl
theorem join_parse (a b : ByteArray) {A M : List S32} (ha : parseT a = (A, 0)) (hb : parseT b = (M, 0)) : parseT ((a ++ minusC) ++ b) = finishS true 0 (A ++ [minusT] ++ M) ∧ (checkS (A ++ [minusT] ++ M) = 0 ∨ checkS (A ++ [minusT] ++ M) = 132) := by
  obtain ⟨a1, la, ta, a2, a3, a4, _, _⟩ := parse_ok a ha
  obtain ⟨b1, lb, tb, b2, b3, b4, _, _⟩ := parse_ok b hb
  have r1 := runesAt_left a minusC a.size 0 (Int.le_refl _) (by omega) (by omega) a1
  rw [minus_runes] at r1
  have r2 := runesAt_left (a ++ minusC) b (a ++ minusC).size 0 (Int.le_refl _) (by omega) (by omega) (by rw [r1])
  rw [r1, b1] at r2
  simp only at r2
  constructor
  · rw [parseT_run, r2]
    simp only
    rw [List.append_assoc, run_app _ (by show decide (quoteC minusC) = false; exact decide_eq_false minus_quote) _ _ _ _ _ (fun h => by cases h), a2, Option.bind_some]
    simp only [List.singleton_append, runS]
    rw [if_neg minus_quote, if_pos True.intro, a3, minus_kind, if_pos (by decide), sign_minus]
    simp only
    rw [if_pos True.intro]
    have hp := run_pre (A ++ [minusT]) (minus_lastNC A) (runesAt b 0).1 false 0 [] ⟨#[]⟩
    rw [List.append_nil] at hp
    rw [hp, b2]
    simp only [Option.map_some, tellS]
    rw [end_pre, b3]
  · have gA : goodL none A = true := by
      rcases check_cases A with ⟨h, _⟩ | ⟨h, _⟩
      · rw [h] at a4; exact absurd a4 (by decide)
      · exact h
    have gM : goodL none M = true := by
      rcases check_cases M with ⟨h, _⟩ | ⟨h, _⟩
      · rw [h] at b4; exact absurd b4 (by decide)
      · exact h
    have hj := good_join A M none gA gM (fun _ => rfl)
    have : A ++ [minusT] ++ M = A ++ (minusT :: M) := by simp
    rw [← this] at hj
    rcases check_cases (A ++ [minusT] ++ M) with ⟨_, h⟩ | ⟨_, h⟩
    · rw [h] at hj; exact absurd hj (by decide)
    · exact h
end Go.Proofs.Ytieipeigjhicfaa.A
