/- Plain law: tokens printed are parsed back; AffixBack tells true. -/
import Derived.Test.YtieipeigjhicfaaA6
namespace Go.Proofs.Ytieipeigjhicfaa.A
open Go.RowKit Go.Proofs.Ytieipeigjhicfaa.Q Go.Proofs.Ytieipeigjhicfaa.R1 Go.Proofs.YtieipeigjhicfaaW.PrintWords Go.Proofs.YtieipeigjhicfaaW.PrintLast
set_option linter.unusedVariables false
set_option linter.unusedSimpArgs false
/-! ### runes joined -/
def joinB : List ByteArray → ByteArray
  | [] => ⟨#[]⟩
  | c :: cs => c ++ joinB cs
theorem nil_app (a : ByteArray) : (⟨#[]⟩ : ByteArray) ++ a = a := by apply bytes_inj; simp [ByteArray.data_append]
theorem app_empty (a : ByteArray) : a ++ (⟨#[]⟩ : ByteArray) = a := by apply bytes_inj; simp [ByteArray.data_append]
theorem app_assoc (a b c : ByteArray) : a ++ b ++ c = a ++ (b ++ c) := by apply bytes_inj; simp [ByteArray.data_append]
theorem join_app (a b : List ByteArray) : joinB (a ++ b) = joinB a ++ joinB b := by
  induction a with
  | nil => exact (nil_app _).symm
  | cons c cs ih => show c ++ joinB (cs ++ b) = c ++ joinB cs ++ joinB b; rw [ih, app_assoc]
theorem join_one (c : ByteArray) : joinB [c] = c := app_empty c
theorem runes_one (c : ByteArray) (h : IsRune c) : runesAt c 0 = ([c], true) := by
  have hz : runeS c 0 ≠ 0 := by rw [h.1]; have := h.2; omega
  rw [runesAt_step c 0 hz, h.1, Int.zero_add, runesAt_end c _ (by omega)]
  have : cut c 0 = c := by
    unfold cut
    rw [h.1]
    apply bytes_inj
    rw [ByteArray.data_extract, Array.toList_extract, List.extract_eq_take_drop]
    simp only [Int.zero_add, Int.toNat_natCast, Int.toNat_zero, List.drop_zero, Nat.sub_zero]
    exact List.take_of_length_le (by rw [Array.length_toList]; exact Nat.le_refl _)
  rw [this]
theorem runes_join : ∀ (l : List ByteArray), (∀ c ∈ l, IsRune c) → runesAt (joinB l) 0 = (l, true)
  | [], _ => rfl
  | c :: cs, h => by
    have hc := runes_one c (h c (by simp))
    have ih := runes_join cs (fun x hx => h x (by simp [hx]))
    have := runesAt_left c (joinB cs) c.size 0 (Int.le_refl _) (by omega) (by omega) (by rw [hc])
    rw [hc, ih] at this
    exact this
theorem join_runes (s : ByteArray) : ∀ (d : Nat) (p : Int), 0 ≤ p → p ≤ s.size → (s.size : Int) - p ≤ d → (runesAt s p).2 = true → joinB (runesAt s p).1 = s.extract p.toNat s.size
  | d, p, h0, h1, h2, hw => by
    by_cases hlt : p < s.size
    · by_cases hz : runeS s p = 0
      · rw [runesAt_bad s p hlt hz] at hw; exact absurd hw (by decide)
      · have hr := rune_pos s p hz
        obtain ⟨d', rfl⟩ : ∃ d', d = d' + 1 := ⟨d - 1, by omega⟩
        rw [runesAt_step s p hz] at hw ⊢
        have ih := join_runes s d' (p + runeS s p) (by omega) (by omega) (by omega) hw
        show cut s p ++ joinB (runesAt s (p + runeS s p)).1 = _
        rw [ih]
        unfold cut
        exact ByteArray.extract_append_extract.trans (by rw [Nat.min_eq_left (by omega), Nat.max_eq_right (by omega)])
    · rw [runesAt_end s p hlt]
      apply bytes_inj
      rw [ByteArray.data_extract, Array.toList_extract, List.extract_eq_take_drop, List.drop_of_length_le (by rw [Array.length_toList]; show s.size ≤ _; omega), List.take_nil]
      rfl
theorem runes_whole (s : ByteArray) : ∀ (f : Nat) (p : Int), 0 ≤ p → p ≤ s.size → (s.size : Int) - p < f → cnt s f p ≠ none → (runesAt s p).2 = true
  | 0, p, h0, h1, h2, h => by omega
  | f + 1, p, h0, h1, h2, h => by
    rw [R1.cnt_succ] at h
    by_cases hlt : p < s.size
    · rw [if_pos hlt] at h
      by_cases hz : runeS s p = 0
      · rw [if_pos hz] at h; exact absurd rfl h
      · rw [if_neg hz] at h
        have hr := rune_pos s p hz
        rw [runesAt_step s p hz]
        exact runes_whole s f (p + runeS s p) (by omega) (by omega) (by omega) (fun e => h (by rw [e]; rfl))
    · rw [runesAt_end s p hlt]
theorem runes_valid (s : ByteArray) (h : 0 ≤ runesS s) : (runesAt s 0).2 = true := by
  apply runes_whole s (s.size + 1) 0 (Int.le_refl _) (by omega) (by omega)
  intro e
  unfold runesS at h
  rw [e] at h
  exact absurd h (by decide)
/-! ### quote -/
def Qc : ByteArray := ⟨#[39]⟩
theorem Qc_quote : quoteC Qc := by unfold quoteC; decide +kernel
theorem Qc_rune : IsRune Qc := by unfold IsRune; decide +kernel
theorem quote_is {c : ByteArray} (h : quoteC c) : c = Qc := by
  have : c.data.toList = [39] := by rw [← Lib.toList_data]; exact h
  exact bytes_of c _ this
def dbl : List ByteArray → List ByteArray
  | [] => []
  | c :: cs => if quoteC c then Qc :: Qc :: dbl cs else c :: dbl cs
def wrapR (raw : List ByteArray) (bare : Bool) : List ByteArray := if bare then dbl raw else Qc :: (dbl raw ++ [Qc])
def quoteR : List ByteArray → List ByteArray → Bool → List ByteArray
  | [], raw, bare => wrapR raw bare
  | c :: cs, raw, bare =>
    if quoteC c then quoteR cs (raw ++ [c]) bare
    else if (decide (0 < kindS c) || letB c) = true then quoteR cs (raw ++ [c]) false
    else wrapR raw bare ++ (c :: quoteR cs [] true)
theorem dbl_app (a b : List ByteArray) : dbl (a ++ b) = dbl a ++ dbl b := by
  induction a with
  | nil => rfl
  | cons c cs ih =>
    simp only [List.cons_append, dbl]
    by_cases h : quoteC c
    · rw [if_pos h, if_pos h, ih]; rfl
    · rw [if_neg h, if_neg h, ih]; rfl
theorem flush_eq (bs : List UInt8) (raw : List ByteArray) (bare : Bool) : flushB bs (joinB (dbl raw)) bare = bs ++ (joinB (wrapR raw bare)).data.toList := by
  unfold flushB wrapR
  cases bare
  · simp only [Bool.false_eq_true, if_false]
    show _ = bs ++ (Qc ++ joinB (dbl raw ++ [Qc])).data.toList
    rw [join_app, join_one]
    simp [ByteArray.data_append, Qc]
  · simp only [if_true]
theorem quote_runes (s : ByteArray) (hs : s.size ≤ 1048576) : ∀ (d : Nat) (p : Int) (bs : List UInt8) (raw : List ByteArray) (bare : Bool), 0 ≤ p → p ≤ s.size → (s.size : Int) - p < d → (runesAt s p).2 = true →
    quoteL s d p bs (joinB (dbl raw)) bare = some ⟨(bs ++ (joinB (quoteR (runesAt s p).1 raw bare)).data.toList).toArray⟩
  | 0, p, bs, raw, bare, h0, h1, h2, hw => by omega
  | d + 1, p, bs, raw, bare, h0, h1, h2, hw => by
    have hR := curRune s p (by omega) 0
    rw [Nat.zero_add] at hR
    by_cases hlt : p < s.size
    case neg =>
      simp only [quoteL]
      rw [if_neg hlt, runesAt_end s p hlt, flush_eq]
      rfl
    by_cases hz : runeS s p = 0
    · rw [runesAt_bad s p hlt hz] at hw; exact absurd hw (by decide)
    have hr := rune_pos s p hz
    rw [runesAt_step s p hz] at hw ⊢
    have ih := fun bs raw bare => quote_runes s hs d (p + runeS s p) bs raw bare (by omega) (by omega) (by omega) hw
    simp only [quoteL]
    rw [if_pos hlt, hR, Option.bind_some, if_pos (show 0 < runeS s p ∧ p + runeS s p ≤ s.size by omega)]
    rw [show s.extract p.toNat (p + runeS s p).toNat = cut s p from rfl]
    simp only [quoteR]
    by_cases hq : quoteC (cut s p)
    · rw [if_pos (show (cut s p).toList = ([39] : List UInt8) from hq), if_pos hq]
      have e : joinB (dbl raw) ++ (⟨#[39, 39]⟩ : ByteArray) = joinB (dbl (raw ++ [cut s p])) := by
        rw [dbl_app, join_app]
        simp only [dbl]
        rw [if_pos hq]
        rfl
      rw [e, ih]
    · rw [if_neg (show ¬ (cut s p).toList = ([39] : List UInt8) from hq), if_neg hq, kind_eq, Option.bind_some]
      by_cases hn : (decide (0 < kindS (cut s p)) || letB (cut s p)) = true
      · rw [if_pos hn, if_pos hn]
        have e : joinB (dbl raw) ++ cut s p = joinB (dbl (raw ++ [cut s p])) := by
          rw [dbl_app, join_app]
          simp only [dbl]
          rw [if_neg hq, join_one]
        rw [e, ih]
      · rw [if_neg hn, if_neg hn, flush_eq]
        have := ih (bs ++ (joinB (wrapR raw bare)).data.toList ++ (cut s p).data.toList) [] true
        have e0 : joinB (dbl []) = (⟨#[]⟩ : ByteArray) := rfl
        rw [e0] at this
        rw [this, join_app]
        show _ = some (⟨(bs ++ (joinB (wrapR raw bare) ++ (cut s p ++ joinB (quoteR (runesAt s (p + runeS s p)).1 [] true))).data.toList).toArray⟩ : ByteArray)
        simp [ByteArray.data_append]
/-- What quote prints, as runes. -/
def quoteT (t : ByteArray) : List ByteArray := quoteR (runesAt t 0).1 [] true
theorem quote_eq (t : ByteArray) (hs : t.size ≤ 1048576) (hv : 0 ≤ runesS t) : affix_quote.f t = some (joinB (quoteT t)) := by
  unfold affix_quote.f
  rw [if_pos hs]
  have := quote_runes t hs (t.size + 1) 0 [] [] true (Int.le_refl _) (by omega) (by omega) (runes_valid t hv)
  have e0 : joinB (dbl []) = (⟨#[]⟩ : ByteArray) := rfl
  rw [e0] at this
  rw [this, List.nil_append]
  rfl
theorem dbl_rune (l : List ByteArray) (h : ∀ c ∈ l, IsRune c) : ∀ c ∈ dbl l, IsRune c := by
  induction l with
  | nil => intro c hc; cases hc
  | cons x xs ih =>
    intro c hc
    simp only [dbl] at hc
    split at hc
    · simp only [List.mem_cons] at hc
      rcases hc with rfl | rfl | hc
      · exact Qc_rune
      · exact Qc_rune
      · exact ih (fun c hc => h c (by simp [hc])) c hc
    · simp only [List.mem_cons] at hc
      rcases hc with rfl | hc
      · exact h _ (by simp)
      · exact ih (fun c hc => h c (by simp [hc])) c hc
theorem wrap_rune (l : List ByteArray) (b : Bool) (h : ∀ c ∈ l, IsRune c) : ∀ c ∈ wrapR l b, IsRune c := by
  intro c hc
  unfold wrapR at hc
  cases b
  · simp only [Bool.false_eq_true, if_false, List.mem_cons, List.mem_append, List.not_mem_nil, or_false] at hc
    rcases hc with rfl | hc | rfl
    · exact Qc_rune
    · exact dbl_rune l h c hc
    · exact Qc_rune
  · exact dbl_rune l h c hc
theorem quoteR_rune : ∀ (cs raw : List ByteArray) (b : Bool), (∀ c ∈ cs, IsRune c) → (∀ c ∈ raw, IsRune c) → ∀ c ∈ quoteR cs raw b, IsRune c
  | [], raw, b, h1, h2 => wrap_rune raw b h2
  | x :: cs, raw, b, h1, h2 => by
    have hx := h1 x (by simp)
    have h1' : ∀ c ∈ cs, IsRune c := fun c hc => h1 c (by simp [hc])
    have h2' : ∀ c ∈ raw ++ [x], IsRune c := by
      intro c hc
      rw [List.mem_append, List.mem_singleton] at hc
      rcases hc with hc | rfl
      · exact h2 c hc
      · exact hx
    simp only [quoteR]
    split
    · exact quoteR_rune cs _ b h1' h2'
    · split
      · exact quoteR_rune cs _ false h1' h2'
      · intro c hc
        rw [List.mem_append, List.mem_cons] at hc
        rcases hc with hc | rfl | hc
        · exact wrap_rune raw b h2 c hc
        · exact hx
        · exact quoteR_rune cs [] true h1' (fun c hc => by cases hc) c hc
/-! ### what is quoted is read back -/
theorem row_inside (rest : List ByteArray) (l : List S32) : ∀ (raw : List ByteArray) (t : ByteArray), runS (dbl raw ++ rest) false 1 l t = runS rest false 1 l (t ++ joinB raw)
  | [], t => by rw [show joinB [] = (⟨#[]⟩ : ByteArray) from rfl, app_empty]; rfl
  | c :: cs, t => by
    have ih := row_inside rest l cs (t ++ c)
    show _ = runS rest false 1 l (t ++ (c ++ joinB cs))
    rw [← app_assoc, ← ih]
    simp only [dbl]
    by_cases h : quoteC c
    · rw [if_pos h]
      simp only [List.cons_append, runS]
      rw [if_pos Qc_quote, if_pos (show nextQ (Qc :: (dbl cs ++ rest)) = true from decide_eq_true Qc_quote), quote_is h]
      rfl
    · rw [if_neg h]
      simp only [List.cons_append, runS]
      rw [if_neg h, if_neg (by decide)]
theorem run_bare (rest : List ByteArray) (l : List S32) : ∀ (raw : List ByteArray) (t : ByteArray), (∀ c ∈ raw, quoteC c) → runS (dbl raw ++ rest) false 0 l t = runS rest false 0 l (t ++ joinB raw)
  | [], t, _ => by rw [show joinB [] = (⟨#[]⟩ : ByteArray) from rfl, app_empty]; rfl
  | c :: cs, t, hq => by
    have ih := run_bare rest l cs (t ++ c) (fun x hx => hq x (by simp [hx]))
    have h := hq c (by simp)
    show _ = runS rest false 0 l (t ++ (c ++ joinB cs))
    rw [← app_assoc, ← ih]
    simp only [dbl]
    rw [if_pos h]
    simp only [List.cons_append, runS]
    rw [if_pos Qc_quote, if_pos (show nextQ (Qc :: (dbl cs ++ rest)) = true from decide_eq_true Qc_quote), quote_is h]
    rfl
theorem run_wrap (rest : List ByteArray) (hr : nextQ rest = false) (l : List S32) : ∀ (raw : List ByteArray) (t : ByteArray), (∃ c ∈ raw, ¬ quoteC c) → runS (Qc :: (dbl raw ++ (Qc :: rest))) false 0 l t = runS rest false 0 l (t ++ joinB raw)
  | [], t, h => by obtain ⟨c, hc, _⟩ := h; cases hc
  | c :: cs, t, h => by
    show _ = runS rest false 0 l (t ++ (c ++ joinB cs))
    rw [← app_assoc]
    by_cases hq : quoteC c
    · have ih := run_wrap rest hr l cs (t ++ c) (by
        obtain ⟨x, hx, hn⟩ := h
        rw [List.mem_cons] at hx
        rcases hx with rfl | hx
        · exact absurd hq hn
        · exact ⟨x, hx, hn⟩)
      rw [← ih, quote_is hq]
      have e : dbl (Qc :: cs) = Qc :: Qc :: dbl cs := by simp only [dbl]; rw [if_pos Qc_quote]
      rw [e]
      simp only [List.cons_append]
      rw [show runS (Qc :: Qc :: Qc :: (dbl cs ++ Qc :: rest)) false 0 l t = runS (Qc :: Qc :: (dbl cs ++ Qc :: rest)) true 0 l t by
        conv => lhs; unfold runS
        rw [if_pos Qc_quote, if_pos (show nextQ (Qc :: Qc :: (dbl cs ++ Qc :: rest)) = true from decide_eq_true Qc_quote)]]
      conv => lhs; unfold runS
      rfl
    · have e : dbl (c :: cs) = c :: dbl cs := by simp only [dbl]; rw [if_neg hq]
      have h1 : runS (Qc :: (dbl (c :: cs) ++ (Qc :: rest))) false 0 l t = runS (dbl (c :: cs) ++ (Qc :: rest)) false 1 l t := by
        rw [e]
        conv => lhs; unfold runS
        rw [if_pos Qc_quote, if_neg (show ¬ nextQ ((c :: dbl cs) ++ (Qc :: rest)) = true by show ¬ decide (quoteC c) = true; simpa using hq)]
        rfl
      rw [h1, row_inside]
      show runS (Qc :: rest) false 1 l (t ++ (c ++ joinB cs)) = _
      rw [← app_assoc]
      conv => lhs; unfold runS
      rw [if_pos Qc_quote, if_neg (by rw [hr]; decide)]
      rfl
def Rows_ (raw : List ByteArray) (bare : Bool) : Prop := if bare = true then (∀ c ∈ raw, quoteC c) else (∃ c ∈ raw, ¬ quoteC c)
theorem run_row (rest : List ByteArray) (hr : nextQ rest = false) (l : List S32) (raw : List ByteArray) (bare : Bool) (t : ByteArray) (h : Rows_ raw bare) : runS (wrapR raw bare ++ rest) false 0 l t = runS rest false 0 l (t ++ joinB raw) := by
  unfold wrapR
  cases bare
  · simp only [Bool.false_eq_true, if_false]
    have := run_wrap rest hr l raw t (by unfold Rows_ at h; simpa using h)
    rw [← this]
    simp
  · simp only [if_true]
    exact run_bare rest l raw t (by unfold Rows_ at h; simpa using h)
theorem run_quote (rest : List ByteArray) (hr : nextQ rest = false) (l : List S32) : ∀ (cs raw : List ByteArray) (bare : Bool) (t : ByteArray), Rows_ raw bare → runS (quoteR cs raw bare ++ rest) false 0 l t = runS rest false 0 l (t ++ joinB raw ++ joinB cs)
  | [], raw, bare, t, h => by
    rw [show joinB [] = (⟨#[]⟩ : ByteArray) from rfl, app_empty]
    exact run_row rest hr l raw bare t h
  | c :: cs, raw, bare, t, h => by
    show _ = runS rest false 0 l (t ++ joinB raw ++ (c ++ joinB cs))
    have e : t ++ joinB raw ++ (c ++ joinB cs) = t ++ joinB (raw ++ [c]) ++ joinB cs := by
      rw [join_app, join_one, app_assoc, app_assoc, app_assoc]
    simp only [quoteR]
    by_cases hq : quoteC c
    · rw [if_pos hq, e]
      refine run_quote rest hr l cs _ bare t ?_
      unfold Rows_ at h ⊢
      cases bare
      · simp only [Bool.false_eq_true, if_false] at h ⊢
        obtain ⟨x, hx, hn⟩ := h
        exact ⟨x, by simp [hx], hn⟩
      · simp only [if_true] at h ⊢
        intro x hx
        rw [List.mem_append, List.mem_singleton] at hx
        rcases hx with hx | rfl
        · exact h x hx
        · exact hq
    · rw [if_neg hq]
      by_cases hn : (decide (0 < kindS c) || letB c) = true
      · rw [if_pos hn, e]
        refine run_quote rest hr l cs _ false t ?_
        unfold Rows_
        simp only [Bool.false_eq_true, if_false]
        exact ⟨c, by simp, hq⟩
      · rw [if_neg hn]
        have ih := run_quote rest hr l cs [] true (t ++ joinB raw ++ c) (by unfold Rows_; simp)
        rw [show joinB [] = (⟨#[]⟩ : ByteArray) from rfl, app_empty, app_assoc (t ++ joinB raw)] at ih
        rw [← ih, List.append_assoc, run_row _ (by show decide (quoteC c) = false; exact decide_eq_false hq) l raw bare t h]
        simp only [List.cons_append]
        conv => lhs; unfold runS
        simp only [Bool.or_eq_true, decide_eq_true_eq, not_or] at hn
        rw [if_neg hq, if_pos rfl, if_neg hn.1, if_neg hn.2]
end Go.Proofs.Ytieipeigjhicfaa.A
