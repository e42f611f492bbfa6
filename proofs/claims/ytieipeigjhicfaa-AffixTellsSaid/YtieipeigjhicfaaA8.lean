/- Plain law: Print of tokens, parsed back; AffixBack tells true. -/
import Derived.Test.YtieipeigjhicfaaA7
namespace Go.Proofs.Ytieipeigjhicfaa.A
open Go.RowKit Go.Proofs.Ytieipeigjhicfaa.Q Go.Proofs.Ytieipeigjhicfaa.R1 Go.Proofs.YtieipeigjhicfaaW.PrintWords Go.Proofs.YtieipeigjhicfaaW.PrintLast
set_option linter.unusedVariables false
set_option linter.unusedSimpArgs false
/-! ### the runes that a token is printed as -/
def plusC : ByteArray := ⟨#[43]⟩
def percC : ByteArray := ⟨#[37]⟩
def permC : ByteArray := ⟨#[226, 128, 176]⟩
def currC : ByteArray := ⟨#[194, 164]⟩
def signC (k : Int) : ByteArray := if k = 1 then minusC else if k = 2 then plusC else if k = 3 then percC else permC
def tokR (t : S32) : List ByteArray := if t.f0 = 0 then quoteT t.f2 else if t.f0 = 5 then List.replicate t.f1.toNat currC else [signC t.f0]
def allR (l : List S32) : List ByteArray := (l.map tokR).flatten
theorem signs_rune : IsRune minusC ∧ IsRune plusC ∧ IsRune percC ∧ IsRune permC ∧ IsRune currC := by unfold IsRune; decide +kernel
theorem signs_kind : kindS minusC = 1 ∧ kindS plusC = 2 ∧ kindS percC = 3 ∧ kindS permC = 4 ∧ kindS currC = 5 := by decide +kernel
theorem signs_quote : ¬ quoteC minusC ∧ ¬ quoteC plusC ∧ ¬ quoteC percC ∧ ¬ quoteC permC ∧ ¬ quoteC currC := by unfold quoteC; decide +kernel
theorem sign_rune (k : Int) : IsRune (signC k) := by
  obtain ⟨h1, h2, h3, h4, _⟩ := signs_rune
  unfold signC
  split
  · exact h1
  split
  · exact h2
  split
  · exact h3
  exact h4
theorem signC_quote (k : Int) : ¬ quoteC (signC k) := by
  obtain ⟨h1, h2, h3, h4, _⟩ := signs_quote
  unfold signC
  split
  · exact h1
  split
  · exact h2
  split
  · exact h3
  exact h4
theorem signC_kind {k : Int} (h : k = 1 ∨ k = 2 ∨ k = 3 ∨ k = 4) : kindS (signC k) = k := by
  obtain ⟨h1, h2, h3, h4, _⟩ := signs_kind
  rcases h with rfl | rfl | rfl | rfl
  · exact h1
  · exact h2
  · exact h3
  · exact h4
/-- What singleS tells. -/
theorem single_tells {t : S32} (h : singleS t = true) : (t.f0 = 0 ∧ t.f2.toList ≠ [] ∧ t = ⟨0, 0, t.f2⟩ ∧ 0 ≤ runesS t.f2) ∨ ((t.f0 = 1 ∨ t.f0 = 2 ∨ t.f0 = 3 ∨ t.f0 = 4) ∧ t = ⟨t.f0, 0, ⟨#[]⟩⟩) ∨ (t = ⟨5, 1, ⟨#[]⟩⟩ ∨ t = ⟨5, 2, ⟨#[]⟩⟩ ∨ t = ⟨5, 3, ⟨#[]⟩⟩) := by
  obtain ⟨a, b, c⟩ := t
  have hnil : c.toList = [] → c = ⟨#[]⟩ := fun e => bytes_of c [] (by rw [← Lib.toList_data]; exact e)
  unfold singleS at h
  simp only at h ⊢
  by_cases h0 : a = 0
  · rw [if_pos h0] at h
    by_cases h2 : c.toList = []
    · rw [if_pos h2] at h; exact absurd h (by decide)
    · rw [if_neg h2] at h
      by_cases h1 : b = 0
      · rw [if_pos h1] at h
        subst h0; subst h1
        exact .inl ⟨rfl, h2, rfl, of_decide_eq_true h⟩
      · rw [if_neg h1] at h; exact absurd h (by decide)
  · rw [if_neg h0] at h
    by_cases h14 : a = 1 ∨ a = 2 ∨ a = 3 ∨ a = 4
    · rw [if_pos h14] at h
      by_cases h2 : c.toList = []
      · rw [if_pos h2] at h
        have : b = 0 := by simpa using h
        subst this
        exact .inr (.inl ⟨h14, by rw [hnil h2]⟩)
      · rw [if_neg h2] at h; exact absurd h (by decide)
    · rw [if_neg h14] at h
      by_cases h5 : a = 5
      · rw [if_pos h5] at h
        by_cases h2 : c.toList = []
        · rw [if_pos h2] at h
          by_cases h1 : b ≥ 1
          · rw [if_pos h1] at h
            have h3 : b ≤ 3 := of_decide_eq_true h
            subst h5
            rw [hnil h2]
            have : b = 1 ∨ b = 2 ∨ b = 3 := by omega
            rcases this with rfl | rfl | rfl
            · exact .inr (.inr (.inl rfl))
            · exact .inr (.inr (.inr (.inl rfl)))
            · exact .inr (.inr (.inr (.inr rfl)))
          · rw [if_neg h1] at h; exact absurd h (by decide)
        · rw [if_neg h2] at h; exact absurd h (by decide)
      · rw [if_neg h5] at h; exact absurd h (by decide)
theorem tok_rune (t : S32) : ∀ c ∈ tokR t, IsRune c := by
  intro c hc
  unfold tokR at hc
  split at hc
  · exact quoteR_rune _ _ _ (runesAt_runes t.f2 t.f2.size 0 (Int.le_refl _) (by omega) (by omega)) (fun c hc => by cases hc) c hc
  · split at hc
    · rw [(List.mem_replicate.1 hc).2]; exact signs_rune.2.2.2.2
    · rw [List.mem_singleton.1 hc]; exact sign_rune _
theorem all_rune (l : List S32) : ∀ c ∈ allR l, IsRune c := by
  intro c hc
  unfold allR at hc
  rw [List.mem_flatten] at hc
  obtain ⟨x, hx, hc⟩ := hc
  obtain ⟨t, _, rfl⟩ := List.mem_map.1 hx
  exact tok_rune t c hc
theorem all_cons (t : S32) (r : List S32) : allR (t :: r) = tokR t ++ allR r := rfl
/-- Behind a text no quote comes. -/
theorem next_all {t : S32} {r : List S32} (h : goodL (some t) r = true) (h0 : t.f0 = 0) : nextQ (allR r) = false := by
  cases r with
  | nil => rfl
  | cons u r =>
    rw [goodL_cons, Bool.and_eq_true, Bool.and_eq_true] at h
    obtain ⟨h1, h2, _⟩ := h
    rw [all_cons]
    unfold tokR
    by_cases hu : u.f0 = 0
    · rw [twice_eq t u (by omega), hu] at h1; exact absurd h1 (by decide)
    rw [if_neg hu]
    rcases single_tells h2 with ⟨h, _⟩ | ⟨h, _⟩ | h | h | h
    · exact absurd h hu
    · rw [if_neg (by omega)]
      exact decide_eq_false (signC_quote _)
    all_goals
      subst h
      exact decide_eq_false signs_quote.2.2.2.2
theorem end_nil (l : List S32) : endL l ⟨#[]⟩ = l := by
  unfold endL
  rw [if_pos (by rw [Lib.toList_data])]
theorem run_sign {c : ByteArray} {k : Int} (hq : ¬ quoteC c) (hk : kindS c = k) (h0 : 0 < k) (rest : List ByteArray) (L : List S32) (t : ByteArray) (hs : (signL (endL L t) k).2 = true) : runS (c :: rest) false 0 L t = runS rest false 0 (signL (endL L t) k).1 ⟨#[]⟩ := by
  conv => lhs; unfold runS
  rw [if_neg hq, if_pos rfl, hk, if_pos h0, if_pos hs]
theorem sign_first (P : List S32) (k : Int) (h : k ≠ 5 ∨ LastNC P) : signL P k = (P ++ [⟨k, if k = 5 then 1 else 0, ⟨#[]⟩⟩], true) := by
  unfold signL
  rw [if_neg]
  rintro ⟨h1, h2, h3⟩
  rcases h with h | h
  · exact h h1
  · exact h h2 h3
theorem sign_more (P : List S32) (n : Int) (hn : n = 1 ∨ n = 2) : signL (P ++ [⟨5, n, ⟨#[]⟩⟩]) 5 = (P ++ [⟨5, n + 1, ⟨#[]⟩⟩], true) := by
  have e : (P ++ [(⟨5, n, ⟨#[]⟩⟩ : S32)]).length - 1 = P.length := by rw [List.length_append]; simp
  have er : rd_T32 (P ++ [(⟨5, n, ⟨#[]⟩⟩ : S32)]) ((P.length : Nat) : Int) = ⟨5, n, ⟨#[]⟩⟩ := by
    rw [rd_get _ _ (by rw [List.length_append]; simp), List.getElem_append_right (Nat.le_refl _)]
    simp
  have w : wrap64 (n + 1) = n + 1 := by unfold wrap64; omega
  unfold signL
  rw [e, er]
  simp only
  rw [if_pos ⟨trivial, by rw [List.length_append]; simp, trivial⟩, w, List.set_append_right _ _ (Nat.le_refl _), Nat.sub_self, List.set_cons_zero]
  rw [decide_eq_true (by omega)]
/-- How the last token read and the state belong together. -/
def Tied (p : Option S32) (L : List S32) (t : ByteArray) : Prop :=
  (∀ q, p = some q → ∃ P, endL L t = P ++ [q]) ∧ (p = none → endL L t = []) ∧ (t.toList ≠ [] → ∃ q, p = some q ∧ q.f0 = 0)
theorem tied_lastNC {p : Option S32} {L : List S32} {t : ByteArray} (h : Tied p L t) {u : S32} (hu : u.f0 = 5) (ht : twice p u = false) : LastNC (endL L t) := by
  cases p with
  | none => rw [h.2.1 rfl]; intro h; exact absurd h (by simp)
  | some q =>
    obtain ⟨P, e⟩ := h.1 q rfl
    rw [e]
    intro _
    have e1 : (P ++ [q]).length - 1 = P.length := by rw [List.length_append]; simp
    rw [e1, rd_get _ _ (by rw [List.length_append]; simp), List.getElem_append_right (Nat.le_refl _)]
    simp only [Nat.sub_self, List.getElem_cons_zero]
    intro hq
    rw [twice_eq q u (by omega), hu] at ht
    exact absurd ht (by decide)
theorem run_all : ∀ (l : List S32) (p : Option S32) (L : List S32) (t : ByteArray), goodL p l = true → Tied p L t → ∃ L' t', runS (allR l) false 0 L t = some (0, L', t') ∧ endL L' t' = endL L t ++ l
  | [], p, L, t, _, _ => ⟨L, t, rfl, by rw [List.append_nil]⟩
  | u :: r, p, L, t, hg, ht => by
    rw [goodL_cons, Bool.and_eq_true, Bool.and_eq_true] at hg
    obtain ⟨h1, h2, h3⟩ := hg
    have h1' : twice p u = false := by simpa using h1
    rw [all_cons]
    have fin : ∀ L1 t1, runS (tokR u ++ allR r) false 0 L t = runS (allR r) false 0 L1 t1 → endL L1 t1 = endL L t ++ [u] → (t1.toList ≠ [] → u.f0 = 0) → ∃ L' t', runS (tokR u ++ allR r) false 0 L t = some (0, L', t') ∧ endL L' t' = endL L t ++ (u :: r) := by
      intro L1 t1 e1 e2 e3
      obtain ⟨L', t', a, b⟩ := run_all r (some u) L1 t1 h3 ⟨fun q hq => ⟨endL L t, by cases hq; exact e2⟩, (fun h => by cases h), fun h => ⟨u, rfl, e3 h⟩⟩
      refine ⟨L', t', by rw [e1]; exact a, ?_⟩
      rw [b, e2, List.append_assoc]
      rfl
    rcases single_tells h2 with ⟨h0, hn, hu, hv⟩ | ⟨hk, hu⟩ | hu
    · have htn : t = ⟨#[]⟩ := by
        by_cases e : t.toList = []
        · exact bytes_of t [] (by rw [← Lib.toList_data]; exact e)
        · obtain ⟨q, hq, hq0⟩ := ht.2.2 e
          rw [hq, twice_eq q u (by omega), h0] at h1'
          exact absurd h1' (by decide)
      subst htn
      have hnx := next_all h3 h0
      refine fin L u.f2 ?_ ?_ (fun _ => h0)
      · unfold tokR
        rw [if_pos h0]
        unfold quoteT
        rw [run_quote (allR r) hnx L (runesAt u.f2 0).1 [] true ⟨#[]⟩ (by unfold Rows_; simp)]
        rw [show joinB [] = (⟨#[]⟩ : ByteArray) from rfl, app_empty, nil_app, join_runes u.f2 u.f2.size 0 (Int.le_refl _) (by omega) (by omega) (runes_valid _ hv)]
        congr 1
        exact ByteArray.extract_zero_size
      · rw [end_nil]
        unfold endL
        rw [if_neg hn, ← hu]
    · have hsf := sign_first (endL L t) u.f0 (.inl (by omega))
      refine fin (endL L t ++ [u]) ⟨#[]⟩ ?_ (end_nil _) (fun h => absurd (by rw [Lib.toList_data]) h)
      have et : tokR u = [signC u.f0] := by unfold tokR; rw [if_neg (by omega), if_neg (by omega)]
      rw [et, List.singleton_append, run_sign (signC_quote _) (signC_kind hk) (by omega) _ L t (by rw [hsf]), hsf]
      simp only
      rw [if_neg (show ¬ u.f0 = 5 by omega), ← hu]
    · have h5 : u.f0 = 5 := by rcases hu with rfl | rfl | rfl <;> rfl
      have hl := tied_lastNC ht h5 h1'
      have hsf := sign_first (endL L t) 5 (.inr hl)
      rw [if_pos rfl] at hsf
      have q := signs_quote.2.2.2.2
      have k := signs_kind.2.2.2.2
      have s1 : ∀ rest, runS (currC :: rest) false 0 L t = runS rest false 0 (endL L t ++ [⟨5, 1, ⟨#[]⟩⟩]) ⟨#[]⟩ := by
        intro rest
        rw [run_sign q k (by decide) rest L t (by rw [hsf]), hsf]
      have s2 : ∀ rest n, n = 1 ∨ n = 2 → runS (currC :: rest) false 0 (endL L t ++ [⟨5, n, ⟨#[]⟩⟩]) ⟨#[]⟩ = runS rest false 0 (endL L t ++ [⟨5, n + 1, ⟨#[]⟩⟩]) ⟨#[]⟩ := by
        intro rest n hn
        have hm := sign_more (endL L t) n hn
        rw [run_sign q k (by decide) rest _ _ (by rw [end_nil, hm]), end_nil, hm]
      refine fin (endL L t ++ [u]) ⟨#[]⟩ ?_ (end_nil _) (fun h => absurd (by rw [Lib.toList_data]) h)
      rcases hu with rfl | rfl | rfl
      · show runS (currC :: allR r) false 0 L t = _
        rw [s1]
      · show runS (currC :: currC :: allR r) false 0 L t = _
        rw [s1, s2 _ 1 (.inl rfl)]
        rfl
      · show runS (currC :: currC :: currC :: allR r) false 0 L t = _
        rw [s1, s2 _ 1 (.inl rfl)]
        have := s2 (allR r) 2 (.inr rfl)
        exact this
/-- Tokens that may be are parsed back. -/
theorem parse_all (l : List S32) (h : checkS l = 0) : parseT (joinB (allR l)) = (l, 0) := by
  have hg : goodL none l = true := by
    rcases check_cases l with ⟨h', _⟩ | ⟨h', _⟩
    · rw [h'] at h; exact absurd h (by decide)
    · exact h'
  obtain ⟨L', t', a, b⟩ := run_all l none [] ⟨#[]⟩ hg ⟨fun q hq => (by cases hq), fun _ => end_nil [], fun h => absurd (by rw [Lib.toList_data]) h⟩
  rw [parseT_run, runes_join _ (all_rune l), a]
  simp only [tellS, finishS]
  rw [b, end_nil, List.nil_append, if_neg (by simp), if_neg (by decide), if_pos h]
/-! ### sizes -/
theorem join_size (l : List ByteArray) : (joinB l).size ≤ tot l := by
  induction l with
  | nil => exact Nat.le_refl _
  | cons c cs ih => show (c ++ joinB cs).size ≤ c.size + 1 + tot cs; rw [ByteArray.size_append]; omega
theorem tot_app (a b : List ByteArray) : tot (a ++ b) = tot a + tot b := by
  induction a with
  | nil => simp [tot]
  | cons c cs ih => show c.size + 1 + tot (cs ++ b) = c.size + 1 + tot cs + tot b; rw [ih]; omega
theorem tot_dbl (l : List ByteArray) : tot (dbl l) ≤ 4 * tot l := by
  induction l with
  | nil => exact Nat.le_refl _
  | cons c cs ih =>
    simp only [dbl]
    split
    · show Qc.size + 1 + (Qc.size + 1 + tot (dbl cs)) ≤ 4 * (c.size + 1 + tot cs)
      have : Qc.size = 1 := rfl
      omega
    · show c.size + 1 + tot (dbl cs) ≤ 4 * (c.size + 1 + tot cs)
      omega
theorem tot_wrap (l : List ByteArray) (b : Bool) : tot (wrapR l b) ≤ 4 * tot l + 4 := by
  have := tot_dbl l
  unfold wrapR
  cases b
  · show Qc.size + 1 + tot (dbl l ++ [Qc]) ≤ _
    rw [tot_app]
    have : Qc.size = 1 := rfl
    have : tot [Qc] = 2 := rfl
    omega
  · show tot (dbl l) ≤ _
    omega
theorem tot_quote : ∀ (cs raw : List ByteArray) (b : Bool), tot (quoteR cs raw b) ≤ 4 * tot raw + 8 * tot cs + 4
  | [], raw, b => by have := tot_wrap raw b; show tot (wrapR raw b) ≤ 4 * tot raw + 8 * 0 + 4; omega
  | c :: cs, raw, b => by
    have e : tot (raw ++ [c]) = tot raw + (c.size + 1) := by rw [tot_app]; rfl
    have ec : tot (c :: cs) = c.size + 1 + tot cs := rfl
    simp only [quoteR]
    split
    · have := tot_quote cs (raw ++ [c]) b; omega
    · split
      · have := tot_quote cs (raw ++ [c]) false; omega
      · have h1 := tot_quote cs [] true
        have h2 := tot_wrap raw b
        have h3 : tot ([] : List ByteArray) = 0 := rfl
        rw [tot_app]
        show tot (wrapR raw b) + (c.size + 1 + tot (quoteR cs [] true)) ≤ _
        omega
theorem tok_size (t : S32) (h : singleS t = true) : tot (tokR t) ≤ 16 * t.f2.size + 12 := by
  rcases single_tells h with ⟨h0, hn, hu, hv⟩ | ⟨hk, hu⟩ | hu
  · unfold tokR
    rw [if_pos h0]
    have h1 := tot_quote (runesAt t.f2 0).1 [] true
    have h2 := tot_runes t.f2 t.f2.size 0 (Int.le_refl _) (by omega) (by omega)
    have h3 : tot ([] : List ByteArray) = 0 := rfl
    unfold quoteT
    omega
  · have et : tokR t = [signC t.f0] := by unfold tokR; rw [if_neg (by omega), if_neg (by omega)]
    rw [et]
    have : (signC t.f0).size ≤ 3 := by unfold signC; repeat' split
                                       all_goals decide
    show (signC t.f0).size + 1 + 0 ≤ _
    omega
  · rcases hu with rfl | rfl | rfl <;> decide
def sumT : List S32 → Nat
  | [] => 0
  | t :: r => t.f2.size + sumT r
theorem good_single : ∀ (l : List S32) (p : Option S32), goodL p l = true → ∀ t ∈ l, singleS t = true
  | [], p, _, t, ht => by cases ht
  | u :: r, p, h, t, ht => by
    rw [goodL_cons, Bool.and_eq_true, Bool.and_eq_true] at h
    rw [List.mem_cons] at ht
    rcases ht with rfl | ht
    · exact h.2.1
    · exact good_single r _ h.2.2 t ht
theorem all_size : ∀ (l : List S32), (∀ t ∈ l, singleS t = true) → tot (allR l) ≤ 16 * sumT l + 12 * l.length
  | [], _ => Nat.le_refl _
  | t :: r, h => by
    have h1 := tok_size t (h t (by simp))
    have h2 := all_size r (fun u hu => h u (by simp [hu]))
    rw [all_cons, tot_app]
    show _ ≤ 16 * (t.f2.size + sumT r) + 12 * (r.length + 1)
    omega
theorem bytes_sum (N : Nat) (hN : N ≤ 4194304) : ∀ (l : List S32) (b : Int), Texts l N → 0 ≤ b → b + 4194304 * l.length ≤ 4611686018427387904 → bytesL l b = b + sumT l
  | [], b, _, _, _ => by show b = b + ((0 : Nat) : Int); omega
  | t :: r, b, ht, h0, h1 => by
    have h2 := ht t (by simp)
    rw [List.length_cons] at h1
    have w : wrap64 (b + t.f2.size) = b + t.f2.size := by unfold wrap64; omega
    rw [bytesL_cons, w, bytes_sum N hN r (b + t.f2.size) (fun u hu => ht u (by simp [hu])) (by omega) (by omega)]
    show _ = b + ((t.f2.size + sumT r : Nat) : Int)
    omega
theorem check_zero {l : List S32} (h : checkS l = 0) : goodL none l = true ∧ l.length ≤ 64 ∧ bytesL l 0 ≤ 64 := by
  unfold checkS at h
  rw [check_good] at h
  by_cases hg : goodL none l = true
  · rw [if_pos hg] at h
    by_cases h1 : (l.length : Int) > 64
    · rw [if_pos h1] at h; exact absurd h (by decide)
    · rw [if_neg h1] at h
      by_cases h2 : bytesL l 0 > 64
      · rw [if_pos h2] at h; exact absurd h (by decide)
      · exact ⟨hg, by omega, by omega⟩
  · rw [if_neg hg] at h; exact absurd h (by decide)
theorem sum_mem : ∀ (l : List S32) (t : S32), t ∈ l → t.f2.size ≤ sumT l
  | [], t, h => by cases h
  | u :: r, t, h => by
    rw [List.mem_cons] at h
    show _ ≤ u.f2.size + sumT r
    rcases h with rfl | h
    · omega
    · have := sum_mem r t h; omega
/-! ### Print -/
theorem rep1 : strings_Repeat.f (⟨#[194, 164]⟩ : ByteArray) 1 = some (joinB [currC]) := by decide +kernel
theorem rep2 : strings_Repeat.f (⟨#[194, 164]⟩ : ByteArray) 2 = some (joinB [currC, currC]) := by decide +kernel
theorem rep3 : strings_Repeat.f (⟨#[194, 164]⟩ : ByteArray) 3 = some (joinB [currC, currC, currC]) := by decide +kernel
theorem print_l (l : List S32) (hl : l.length ≤ 64) (hs : ∀ t ∈ l, singleS t = true) (ht : Texts l 64) (K : Nat) : ∀ (d i : Nat) (x : ByteArray), i + d = l.length → x.size ≤ 2000 * i →
    affix_Print.l0 (K + d + 1) x l (l.length : Int) (i : Int) = some (x ++ joinB (allR (l.drop i)), 0)
  | 0, i, x, hi, hx => by
    simp only [affix_Print.l0]
    rw [if_neg (by omega), List.drop_eq_nil_of_le (by omega)]
    show _ = some (x ++ (⟨#[]⟩ : ByteArray), 0)
    rw [app_empty]
  | d + 1, i, x, hi, hx => by
    have hlt : i < l.length := by omega
    have W1 := Aside0.mk (show wrap64 ((i : Int) + 1) = ((i + 1 : Nat) : Int) by unfold wrap64; omega)
    have ih := fun x => print_l l hl hs ht K d (i + 1) x (by omega)
    obtain ⟨m, hm⟩ : ∃ m, K + d + 1 = m := ⟨_, rfl⟩
    rw [show K + (d + 1) + 1 = m + 1 by omega]
    rw [hm] at ih
    have hsg := hs l[i] (List.getElem_mem hlt)
    have htx := ht l[i] (List.getElem_mem hlt)
    have hsz := tok_size l[i] hsg
    have hjs := join_size (tokR l[i])
    have fin : ∀ y : ByteArray, y = joinB (tokR l[i]) → (x.size + y.size ≤ 9223372036854775807 ∧ affix_Print.l0 m (x ++ y) l (l.length : Int) ((i + 1 : Nat) : Int) = some (x ++ joinB (allR (l.drop i)), 0)) := by
      intro y hy
      subst hy
      refine ⟨by omega, ?_⟩
      rw [ih _ (by rw [ByteArray.size_append]; omega), List.drop_eq_getElem_cons hlt, all_cons, join_app, app_assoc]
    have e1 := rd_get l i hlt
    simp only [affix_Print.l0]
    rw [if_pos (show ((i : Int) < (l.length : Int)) by omega), if_pos (show (0 : Int) ≤ (i : Int) by omega), if_pos (show ((i : Int) < (l.length : Int)) by omega), e1, W1.out]
    rcases single_tells hsg with ⟨h0, hn, hu, hv⟩ | ⟨hk, hu⟩ | hu
    · rw [if_pos h0, quote_eq _ (by omega) hv, Option.bind_some]
      obtain ⟨f1, f2⟩ := fin (joinB (quoteT l[i].f2)) (by unfold tokR; rw [if_pos h0])
      rw [if_pos f1, f2]
    · have et : tokR l[i] = [signC l[i].f0] := by unfold tokR; rw [if_neg (by omega), if_neg (by omega)]
      rw [et, join_one] at fin
      rw [if_neg (by omega)]
      rcases hk with hk | hk | hk | hk
      · rw [hk] at fin ⊢
        obtain ⟨f1, f2⟩ := fin ⟨#[45]⟩ rfl
        rw [if_pos rfl, if_pos (show x.size + 1 ≤ 9223372036854775807 from f1), f2]
      · rw [hk] at fin ⊢
        obtain ⟨f1, f2⟩ := fin ⟨#[43]⟩ rfl
        rw [if_neg (by decide), if_pos rfl, if_pos (show x.size + 1 ≤ 9223372036854775807 from f1), f2]
      · rw [hk] at fin ⊢
        obtain ⟨f1, f2⟩ := fin ⟨#[37]⟩ rfl
        rw [if_neg (by decide), if_neg (by decide), if_pos rfl, if_pos (show x.size + 1 ≤ 9223372036854775807 from f1), f2]
      · rw [hk] at fin ⊢
        obtain ⟨f1, f2⟩ := fin ⟨#[226, 128, 176]⟩ rfl
        rw [if_neg (by decide), if_neg (by decide), if_neg (by decide), if_pos rfl, if_pos (show x.size + 3 ≤ 9223372036854775807 from f1), f2]
    · rcases hu with hu | hu | hu
      · rw [hu] at fin ⊢
        obtain ⟨f1, f2⟩ := fin (joinB [currC]) rfl
        simp only
        rw [if_neg (by decide), if_neg (by decide), if_neg (by decide), if_neg (by decide), if_neg (by decide), rep1, Option.bind_some, if_pos f1, f2]
      · rw [hu] at fin ⊢
        obtain ⟨f1, f2⟩ := fin (joinB [currC, currC]) rfl
        simp only
        rw [if_neg (by decide), if_neg (by decide), if_neg (by decide), if_neg (by decide), if_neg (by decide), rep2, Option.bind_some, if_pos f1, f2]
      · rw [hu] at fin ⊢
        obtain ⟨f1, f2⟩ := fin (joinB [currC, currC, currC]) rfl
        simp only
        rw [if_neg (by decide), if_neg (by decide), if_neg (by decide), if_neg (by decide), if_neg (by decide), rep3, Option.bind_some, if_pos f1, f2]
def printT (l : List S32) : ByteArray × Int := if checkS l = 0 then (joinB (allR l), 0) else (⟨#[]⟩, checkS l)
theorem texts_zero (l : List S32) (N : Nat) (hN : N ≤ 4194304) (hl : Texts l N) (hb : l.length ≤ 16777216) (h : checkS l = 0) : goodL none l = true ∧ l.length ≤ 64 ∧ sumT l ≤ 64 ∧ Texts l 64 := by
  obtain ⟨h1, h2, h3⟩ := check_zero h
  have := bytes_sum N hN l 0 hl (Int.le_refl _) (by omega)
  exact ⟨h1, h2, by omega, fun t ht => Nat.le_trans (sum_mem l t ht) (by omega)⟩
theorem print_size (l : List S32) (N : Nat) (hN : N ≤ 4194304) (hl : Texts l N) (hb : l.length ≤ 16777216) : (printT l).1.size ≤ 2000 := by
  unfold printT
  by_cases h : checkS l = 0
  · rw [if_pos h]
    obtain ⟨h1, h2, h3, h4⟩ := texts_zero l N hN hl hb h
    have := all_size l (good_single l none h1)
    have := join_size (allR l)
    show (joinB (allR l)).size ≤ 2000
    omega
  · rw [if_neg h]; exact Nat.zero_le _
theorem affixPrint_eq (l : List S32) (N : Nat) (hN : N ≤ 4194304) (hl : Texts l N) (hb : l.length ≤ 16777216) (K : Nat) (hK : N + l.length + 100 ≤ K) : affix_Print.f K l = some (printT l) := by
  unfold affix_Print.f printT
  rw [affixCheck_eq l N (by omega) hl (by omega) K (by omega), Option.bind_some]
  by_cases h : checkS l = 0
  · obtain ⟨h1, h2, h3, h4⟩ := texts_zero l N hN hl hb h
    have hp := print_l l h2 (good_single l none h1) h4 (K - l.length - 1) l.length 0 ⟨#[]⟩ (by omega) (Nat.zero_le _)
    rw [show K - l.length - 1 + l.length + 1 = K by omega, nil_app] at hp
    rw [if_pos h, if_pos h]
    exact hp
  · rw [if_neg h, if_neg h]
/-! ### the law -/
theorem parse_error (s : ByteArray) (h : (parseT s).2 ≠ 0) : (parseT s).1 = [] := by
  rw [parseT_run] at h ⊢
  generalize runS (runesAt s 0).1 false 0 [] ⟨#[]⟩ = o at h ⊢
  cases o with
  | none => rfl
  | some x =>
    obtain ⟨a, b, c⟩ := x
    simp only [tellS, finishS] at h ⊢
    split
    · rfl
    · rename_i h1
      rw [if_neg h1] at h
      split
      · rfl
      · rename_i h2
        rw [if_neg h2] at h
        split
        · rename_i h3
          rw [if_pos h3] at h
          exact absurd rfl h
        · rfl
theorem AffixBack_true (l : List S32) (a : ByteArray) (hl : l.length ≤ 1048576) (ht : Texts l 1048576) (hs : a.size ≤ 1048576) : ∃ K, quipulaw13_AffixBack.f K l a = some true := by
  refine ⟨20000001, ?_⟩
  have hf := fixed_ge 20000000 (by decide)
  obtain ⟨K, hK⟩ : ∃ K, 20000000 = K := ⟨_, rfl⟩
  have hK2 : 20000001 = K + 1 := by omega
  rw [hK] at hf
  rw [hK2]
  have hj : quipulaw13_AffixBack.j0 (K + 1) a = some true := by
    simp only [quipulaw13_AffixBack.j0]
    rw [affixParse_eq a hs, Option.bind_some]
    by_cases h : (parseT a).2 = 0
    · obtain ⟨L, eL⟩ : ∃ L, (parseT a).1 = L := ⟨_, rfl⟩
      have ha : parseT a = (L, 0) := by rw [← h, ← eL]
      obtain ⟨_, _, _, _, _, c0, a5, a6⟩ := parse_ok a ha
      have a5' : Texts L 4194304 := fun t ht => Nat.le_trans (a5 t ht) (by omega)
      have hps := print_size L 4194304 (Nat.le_refl _) a5' (by omega)
      have hpt : printT L = (joinB (allR L), 0) := by unfold printT; rw [if_pos c0]
      rw [ha, if_pos rfl, affixPrint_eq L 4194304 (Nat.le_refl _) a5' (by omega) K (by omega), Option.bind_some, affixParse_eq _ (by omega), Option.bind_some]
      simp only
      rw [affixCheck_eq L 4194304 (by omega) a5' (by omega) K (by omega), Option.bind_some, c0, if_pos rfl, hpt]
      simp only
      rw [if_pos trivial, parse_all L c0]
      simp only
      rw [if_pos trivial, same_self L (by omega) K (by omega), Option.bind_some, if_pos rfl, hf]
      rfl
    · rw [if_neg h, parse_error a h, if_pos (show (([] : List S32).length : Int) = 0 from rfl), hf]
      rfl
  have e2 := affixCheck_eq l 1048576 (by omega) ht (by omega) (K + 1) (by omega)
  have e1 := affixPrint_eq l 1048576 (by omega) ht (by omega) (K + 1) (by omega)
  have hps := print_size l 1048576 (by omega) ht (by omega)
  have hsm := same_self l (by omega) (K + 1) (by omega)
  unfold quipulaw13_AffixBack.f
  rw [e1, Option.bind_some, e2, Option.bind_some]
  by_cases c0 : checkS l = 0
  · have hpt : printT l = (joinB (allR l), 0) := by unfold printT; rw [if_pos c0]
    rw [hpt] at hps
    rw [hpt, c0, if_neg (by simp), if_pos rfl, affixParse_eq _ (by exact Nat.le_trans hps (by omega)), Option.bind_some]
    simp only
    rw [parse_all l c0, if_pos rfl]
    rw [hsm, Option.bind_some, if_pos rfl, hj]
  · have hpt : printT l = (⟨#[]⟩, checkS l) := by unfold printT; rw [if_neg c0]
    have hb : (checkS l == 0) = false := by simpa using c0
    rw [hpt]
    simp only
    rw [hb, if_neg (by simp), if_neg c0, hj]
end Go.Proofs.Ytieipeigjhicfaa.A
