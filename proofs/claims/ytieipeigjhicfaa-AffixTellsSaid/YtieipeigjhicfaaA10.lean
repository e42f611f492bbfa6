/- Plain law: the document's Print, Turn, Has; AffixTells. -/
import Derived.Test.YtieipeigjhicfaaA8
import Derived.Test.YtieipeigjhicfaaTw
namespace Go.Proofs.Ytieipeigjhicfaa.A
open Go.RowKit Go.Proofs.Ytieipeigjhicfaa.Q Go.Proofs.Ytieipeigjhicfaa.R1 Go.Proofs.YtieipeigjhicfaaW.PrintWords Go.Proofs.YtieipeigjhicfaaW.PrintLast
set_option linter.unusedVariables false
set_option linter.unusedSimpArgs false
theorem rdC (cs : List ByteArray) (j : Nat) (h : j < cs.length) : rdOf ByteArray.empty cs (j : Int) = cs[j] := by
  show cs.getD (j : Int).toNat _ = _
  rw [Int.toNat_natCast, List.getD_eq_getElem?_getD, List.getElem?_eq_getElem h]
  rfl
def needB (c : ByteArray) : Bool := decide (0 < kindS c) || letB c
/-- How the document's text goes on at a rune. -/
theorem text_step (cs : List ByteArray) (hcs : ∀ c ∈ cs, IsRune c) (j : Nat) (hj : j < cs.length) (k : Nat) (out : ByteArray) (i : Int) (bare : Bool) (row : ByteArray) :
    quipuref13_text.l1 (k + 1) cs out i (j : Int) bare row = quipuref13_text.j2 k cs out i (j : Int) bare row (decide (quoteC cs[j]) || needB cs[j]) := by
  simp only [quipuref13_text.l1]
  rw [if_pos (show (j : Int) < (cs.length : Int) by omega), if_pos (show (0 : Int) ≤ (j : Int) by omega), rdC cs j hj]
  by_cases hq : quoteC cs[j]
  · rw [if_pos (show (cs[j]).toList = ([39] : List UInt8) from hq), decide_eq_true hq, Bool.true_or]
  · rw [if_neg (show ¬ (cs[j]).toList = ([39] : List UInt8) from hq), decide_eq_false hq, Bool.false_or, sign_eq, Option.bind_some]
    unfold needB
    by_cases hk : 0 < kindS cs[j]
    · rw [if_pos (show kindS cs[j] > 0 from hk), decide_eq_true hk, Bool.true_or]
    · rw [if_neg (show ¬ kindS cs[j] > 0 from hk), decide_eq_false hk, Bool.false_or, letter_eq (hcs _ (List.getElem_mem hj)), Option.bind_some]
theorem text_loop (cs : List ByteArray) (hcs : ∀ c ∈ cs, IsRune c) (hc4 : ∀ c ∈ cs, c.size ≤ 4) (hn : cs.length ≤ 1048576) : ∀ (d : Nat),
    (∀ (i : Nat) (out : ByteArray) (K : Nat), i + d = cs.length → 6 * d + 1 ≤ K → out.size ≤ 20 * i → quipuref13_text.l0 K cs out (i : Int) = some (out ++ joinB (quoteR (cs.drop i) [] true))) ∧
    (∀ (j i : Nat) (raw : List ByteArray) (bare : Bool) (out : ByteArray) (K : Nat), j + d = cs.length → i + raw.length = j → 0 < raw.length → 6 * d + 4 ≤ K → out.size ≤ 20 * i → (joinB (dbl raw)).size ≤ 8 * raw.length →
      quipuref13_text.l1 K cs out (i : Int) (j : Int) bare (joinB (dbl raw)) = some (out ++ joinB (quoteR (cs.drop j) raw bare)))
  := by
    -- behind a row: it is laid down
    have flush : ∀ (d j i : Nat) (raw : List ByteArray) (bare : Bool) (out : ByteArray) (K : Nat), j + d = cs.length → i + raw.length = j → 0 < raw.length → out.size ≤ 20 * i → (joinB (dbl raw)).size ≤ 8 * raw.length →
        (∀ (i : Nat) (out : ByteArray), i + d = cs.length → out.size ≤ 20 * i → quipuref13_text.l0 K cs out (i : Int) = some (out ++ joinB (quoteR (cs.drop i) [] true))) →
        quipuref13_text.j2 (K + 1) cs out (i : Int) (j : Int) bare (joinB (dbl raw)) false = some (out ++ (joinB (wrapR raw bare) ++ joinB (quoteR (cs.drop j) [] true))) := by
      intro d j i raw bare out K hj hij hr ho hrs hA
      simp only [quipuref13_text.j2]
      rw [if_neg (by decide), if_neg (show ¬ (j : Int) = (i : Int) by omega)]
      cases bare
      · have e0 : joinB (wrapR raw false) = (⟨#[39]⟩ : ByteArray) ++ joinB (dbl raw) ++ (⟨#[39]⟩ : ByteArray) := by
          show Qc ++ joinB (dbl raw ++ [Qc]) = _
          rw [join_app, join_one, app_assoc]
          rfl
        have s1 : ((⟨#[39]⟩ : ByteArray) ++ joinB (dbl raw)).size = 1 + (joinB (dbl raw)).size := by rw [ByteArray.size_append]; rfl
        have s2 : ((⟨#[39]⟩ : ByteArray) ++ joinB (dbl raw) ++ (⟨#[39]⟩ : ByteArray)).size = 1 + (joinB (dbl raw)).size + 1 := by rw [ByteArray.size_append, s1]; rfl
        rw [if_neg (by decide), if_pos (by omega), if_pos (by rw [s1]; omega), if_pos (by rw [s2]; omega), hA j _ hj (by rw [ByteArray.size_append, s2]; omega), e0, app_assoc]
      · have e0 : joinB (wrapR raw true) = joinB (dbl raw) := rfl
        rw [if_pos rfl, if_pos (by omega), hA j _ hj (by rw [ByteArray.size_append]; omega), e0, app_assoc]
    -- a rune that is taken into the row
    have take : ∀ (j i : Nat) (raw : List ByteArray) (bare : Bool) (out : ByteArray) (K : Nat) (hj : j < cs.length), (joinB (dbl raw)).size ≤ 8 * raw.length → raw.length ≤ j → (decide (quoteC cs[j]) || needB cs[j]) = true →
        ∃ bare', (joinB (dbl (raw ++ [cs[j]]))).size ≤ 8 * (raw ++ [cs[j]]).length ∧ quipuref13_text.j2 (K + 1) cs out (i : Int) (j : Int) bare (joinB (dbl raw)) true = quipuref13_text.l1 K cs out (i : Int) ((j + 1 : Nat) : Int) bare' (joinB (dbl (raw ++ [cs[j]]))) ∧ quoteR (cs.drop j) raw bare = quoteR (cs.drop (j + 1)) (raw ++ [cs[j]]) bare' := by
      intro j i raw bare out K hj hrs hrj hd
      have hm := List.getElem_mem hj
      have h4 := hc4 _ hm
      have w : wrap64 ((j : Int) + 1) = ((j + 1 : Nat) : Int) := by unfold wrap64; omega
      rw [List.drop_eq_getElem_cons hj]
      simp only [quipuref13_text.j2, quoteR]
      rw [if_pos True.intro, if_pos (show (0 : Int) ≤ (j : Int) by omega), if_pos (show (j : Int) < (cs.length : Int) by omega), rdC cs j hj, w]
      by_cases hq : quoteC cs[j]
      · have e : joinB (dbl raw) ++ (⟨#[39, 39]⟩ : ByteArray) = joinB (dbl (raw ++ [cs[j]])) := by
          rw [dbl_app, join_app]
          simp only [dbl]
          rw [if_pos hq]
          rfl
        have es : (joinB (dbl (raw ++ [cs[j]]))).size = (joinB (dbl raw)).size + 2 := by rw [← e, ByteArray.size_append]; rfl
        refine ⟨bare, by rw [es, List.length_append, List.length_singleton]; omega, ?_, ?_⟩
        · rw [if_pos (show (cs[j]).toList = ([39] : List UInt8) from hq), if_pos (by omega), e]
        · rw [if_pos hq]
      · have e : joinB (dbl raw) ++ cs[j] = joinB (dbl (raw ++ [cs[j]])) := by
          rw [dbl_app, join_app]
          simp only [dbl]
          rw [if_neg hq, join_one]
        have es : (joinB (dbl (raw ++ [cs[j]]))).size = (joinB (dbl raw)).size + cs[j].size := by rw [← e, ByteArray.size_append]
        rw [decide_eq_false hq, Bool.false_or] at hd
        refine ⟨false, by rw [es, List.length_append, List.length_singleton]; omega, ?_, ?_⟩
        · rw [if_neg (show ¬ (cs[j]).toList = ([39] : List UInt8) from hq), if_pos (by omega), e]
        · rw [if_neg hq, if_pos (show (decide (0 < kindS cs[j]) || letB cs[j]) = true from hd)]
    intro d
    induction d with
    | zero =>
      have A0 : ∀ (i : Nat) (out : ByteArray) (K : Nat), i + 0 = cs.length → 6 * 0 + 1 ≤ K → out.size ≤ 20 * i → quipuref13_text.l0 K cs out (i : Int) = some (out ++ joinB (quoteR (cs.drop i) [] true)) := by
        intro i out K hi hK ho
        obtain ⟨k, rfl⟩ : ∃ k, K = k + 1 := ⟨K - 1, by omega⟩
        simp only [quipuref13_text.l0]
        rw [if_neg (by omega), List.drop_eq_nil_of_le (by omega)]
        show some out = some (out ++ (⟨#[]⟩ : ByteArray))
        rw [app_empty]
      refine ⟨A0, ?_⟩
      intro j i raw bare out K hj hij hr hK ho hrs
      obtain ⟨k, rfl⟩ : ∃ k, K = k + 1 + 1 := ⟨K - 2, by omega⟩
      have hfl := flush _ j i raw bare out k hj hij hr ho hrs (fun i out hi ho => A0 i out k hi (by omega) ho)
      rw [show quipuref13_text.l1 (k + 1 + 1) cs out (i : Int) (j : Int) bare (joinB (dbl raw)) = quipuref13_text.j2 (k + 1) cs out (i : Int) (j : Int) bare (joinB (dbl raw)) false by
        conv => lhs; unfold quipuref13_text.l1
        rw [if_neg (by omega)], hfl, List.drop_eq_nil_of_le (by omega)]
      show some (out ++ (joinB (wrapR raw bare) ++ (⟨#[]⟩ : ByteArray))) = _
      rw [app_empty]
      rfl
    | succ d ih =>
      obtain ⟨ihA, ihB⟩ := ih
      have B0 : ∀ (j : Nat) (out : ByteArray) (K : Nat), j + (d + 1) = cs.length → 6 * (d + 1) ≤ K → out.size ≤ 20 * j → quipuref13_text.l1 K cs out (j : Int) (j : Int) true (joinB (dbl [])) = some (out ++ joinB (quoteR (cs.drop j) [] true)) := by
        intro j out K hj hK ho
        obtain ⟨k, rfl⟩ : ∃ k, K = k + 1 + 1 := ⟨K - 2, by omega⟩
        have hlt : j < cs.length := by omega
        rw [text_step cs hcs j hlt]
        cases hd : (decide (quoteC cs[j]) || needB cs[j]) with
        | true =>
          obtain ⟨b', t1, t2, t3⟩ := take j j [] true out k hlt (Nat.zero_le _) (Nat.zero_le _) hd
          rw [t2, ihB (j + 1) j _ b' out k (by omega) (by simp) (by simp) (by omega) ho t1, t3]
        | false =>
          have w : wrap64 ((j : Int) + 1) = ((j + 1 : Nat) : Int) := by unfold wrap64; omega
          have h4 := hc4 _ (List.getElem_mem hlt)
          rw [Bool.or_eq_false_iff] at hd
          have hq : ¬ quoteC cs[j] := of_decide_eq_false hd.1
          rw [List.drop_eq_getElem_cons hlt]
          simp only [quipuref13_text.j2, quoteR]
          rw [if_neg (by decide), if_pos True.intro, if_pos (show (0 : Int) ≤ (j : Int) by omega), if_pos (show (j : Int) < (cs.length : Int) by omega), rdC cs j hlt, if_pos (by omega), w, ihA (j + 1) _ k (by omega) (by omega) (by rw [ByteArray.size_append]; omega)]
          rw [if_neg hq, if_neg (by have := hd.2; unfold needB at this; rw [this]; decide)]
          rw [app_assoc]
          rfl
      have A1 : ∀ (i : Nat) (out : ByteArray) (K : Nat), i + (d + 1) = cs.length → 6 * (d + 1) + 1 ≤ K → out.size ≤ 20 * i → quipuref13_text.l0 K cs out (i : Int) = some (out ++ joinB (quoteR (cs.drop i) [] true)) := by
        intro i out K hi hK ho
        obtain ⟨k, rfl⟩ : ∃ k, K = k + 1 := ⟨K - 1, by omega⟩
        have := B0 i out k hi (by omega) ho
        conv => lhs; unfold quipuref13_text.l0
        rw [if_pos (by omega)]
        exact this
      refine ⟨A1, ?_⟩
      intro j i raw bare out K hj hij hr hK ho hrs
      obtain ⟨k, rfl⟩ : ∃ k, K = k + 1 + 1 := ⟨K - 2, by omega⟩
      have hlt : j < cs.length := by omega
      rw [text_step cs hcs j hlt]
      cases hd : (decide (quoteC cs[j]) || needB cs[j]) with
      | true =>
        obtain ⟨b', t1, t2, t3⟩ := take j i raw bare out k hlt hrs (by omega) hd
        rw [t2, ihB (j + 1) i _ b' out k (by omega) (by rw [List.length_append, List.length_singleton]; omega) (by rw [List.length_append, List.length_singleton]; omega) (by omega) ho t1, t3]
      | false =>
        rw [flush _ j i raw bare out k hj hij hr ho hrs (fun i out hi ho => A1 i out k hi (by omega) ho)]
        rw [Bool.or_eq_false_iff] at hd
        have hq : ¬ quoteC cs[j] := of_decide_eq_false hd.1
        have hn2 : ¬ (decide (0 < kindS cs[j]) || letB cs[j]) = true := by have := hd.2; unfold needB at this; rw [this]; decide
        rw [List.drop_eq_getElem_cons hlt]
        simp only [quoteR]
        rw [if_neg hq, if_neg hn2, if_neg hq, if_neg hn2, show wrapR [] true ++ cs[j] :: quoteR (List.drop (j + 1) cs) [] true = cs[j] :: quoteR (List.drop (j + 1) cs) [] true from rfl, join_app]
theorem refText_eq (t : ByteArray) (hs : t.size ≤ 1048576) (hv : 0 ≤ runesS t) (K : Nat) (hK : 6 * t.size + 20 ≤ K) : quipuref13_text.f K t = some (joinB (quoteT t)) := by
  obtain ⟨h1, h2⟩ := runesAt_size t t.size 0 (Int.le_refl _) (by omega) (by omega)
  have hr := runesAt_runes t t.size 0 (Int.le_refl _) (by omega) (by omega)
  unfold quipuref13_text.f
  rw [refRunesT t hs K (by omega), Option.bind_some]
  have h := (text_loop (runesAt t 0).1 hr h1 (by omega) (runesAt t 0).1.length).1 0 ⟨#[]⟩ K (by omega) (by omega) (Nat.le_refl _)
  rw [nil_app, List.drop_zero] at h
  exact h
theorem refPrint_l (l : List S32) (hl : l.length ≤ 64) (hs : ∀ t ∈ l, singleS t = true) (ht : Texts l 64) : ∀ (d i K : Nat) (x : ByteArray), i + d = l.length → x.size ≤ 2000 * i → 2000 + 6 * d + 1 ≤ K →
    quipuref13_Print.l0 K l x (i : Int) = some (x ++ joinB (allR (l.drop i)), 0)
  | 0, i, K, x, hi, hx, hK => by
    obtain ⟨k, rfl⟩ : ∃ k, K = k + 1 := ⟨K - 1, by omega⟩
    simp only [quipuref13_Print.l0]
    rw [if_neg (by omega), List.drop_eq_nil_of_le (by omega)]
    show _ = some (x ++ (⟨#[]⟩ : ByteArray), 0)
    rw [app_empty]
  | d + 1, i, K, x, hi, hx, hK => by
    have hlt : i < l.length := by omega
    have W1 := Aside0.mk (show wrap64 ((i : Int) + 1) = ((i + 1 : Nat) : Int) by unfold wrap64; omega)
    have ih := fun x K => refPrint_l l hl hs ht d (i + 1) K x (by omega)
    obtain ⟨m, rfl⟩ : ∃ m, K = m + 1 + 1 + 1 + 1 + 1 + 1 := ⟨K - 6, by omega⟩
    have hsg := hs l[i] (List.getElem_mem hlt)
    have htx := ht l[i] (List.getElem_mem hlt)
    have hsz := tok_size l[i] hsg
    have hjs := join_size (tokR l[i])
    have fin : ∀ (y z : ByteArray) (K : Nat), z = x ++ y → y = joinB (tokR l[i]) → 2000 + 6 * d + 1 ≤ K → (x.size + y.size ≤ 9223372036854775807 ∧ quipuref13_Print.l0 K l z ((i + 1 : Nat) : Int) = some (x ++ joinB (allR (l.drop i)), 0)) := by
      intro y z K hz hy hK
      subst hz
      subst hy
      refine ⟨by omega, ?_⟩
      rw [ih _ K (by rw [ByteArray.size_append]; omega) hK, List.drop_eq_getElem_cons hlt, all_cons, join_app, app_assoc]
    have e1 := rd_get l i hlt
    have c1 : (i : Int) < (l.length : Int) := by omega
    have c2 : (0 : Int) ≤ (i : Int) := by omega
    conv => lhs; unfold quipuref13_Print.l0
    rw [if_pos c1, if_pos c2, e1, W1.out]
    rcases single_tells hsg with ⟨h0, hn, hu, hv⟩ | ⟨hk, hu⟩ | hu
    · rw [if_pos h0, refText_eq _ (by omega) hv _ (by omega), Option.bind_some]
      obtain ⟨f1, f2⟩ := fin (joinB (quoteT l[i].f2)) _ (m + 1 + 1 + 1 + 1 + 1) rfl (by unfold tokR; rw [if_pos h0]) (by omega)
      rw [if_pos f1, f2]
    · have et : tokR l[i] = [signC l[i].f0] := by unfold tokR; rw [if_neg (by omega), if_neg (by omega)]
      rw [et, join_one] at fin
      rw [if_neg (by omega)]
      rcases hk with hk | hk | hk | hk
      · rw [hk] at fin ⊢
        obtain ⟨f1, f2⟩ := fin ⟨#[45]⟩ _ (m + 1 + 1 + 1 + 1 + 1) rfl rfl (by omega)
        rw [if_pos rfl, if_pos (show x.size + 1 ≤ 9223372036854775807 from f1), f2]
      · rw [hk] at fin ⊢
        obtain ⟨f1, f2⟩ := fin ⟨#[43]⟩ _ (m + 1 + 1 + 1 + 1 + 1) rfl rfl (by omega)
        rw [if_neg (by decide), if_pos rfl, if_pos (show x.size + 1 ≤ 9223372036854775807 from f1), f2]
      · rw [hk] at fin ⊢
        obtain ⟨f1, f2⟩ := fin ⟨#[37]⟩ _ (m + 1 + 1 + 1 + 1 + 1) rfl rfl (by omega)
        rw [if_neg (by decide), if_neg (by decide), if_pos rfl, if_pos (show x.size + 1 ≤ 9223372036854775807 from f1), f2]
      · rw [hk] at fin ⊢
        obtain ⟨f1, f2⟩ := fin ⟨#[226, 128, 176]⟩ _ (m + 1 + 1 + 1 + 1 + 1) rfl rfl (by omega)
        rw [if_neg (by decide), if_neg (by decide), if_neg (by decide), if_pos rfl, if_pos (show x.size + 3 ≤ 9223372036854775807 from f1), f2]
    · have h5 : l[i].f0 = 5 := by rcases hu with hu | hu | hu <;> rw [hu]
      rw [if_neg (by omega), if_neg (by omega), if_neg (by omega), if_neg (by omega), if_neg (by omega)]
      -- one sign of a currency
      have step : ∀ (K : Nat) (z : ByteArray) (n f : Int), l[i].f1 = f → n < f → 0 ≤ n → n < 4 → z.size ≤ 2000 * 64 + 100 → quipuref13_Print.l1 (K + 1) l z (i : Int) n = quipuref13_Print.l1 K l (z ++ (⟨#[194, 164]⟩ : ByteArray)) (i : Int) (n + 1) := by
        intro K z n f hf hn h0 h4 hz
        have w : wrap64 (n + 1) = n + 1 := by unfold wrap64; omega
        conv => lhs; unfold quipuref13_Print.l1
        rw [if_pos c2, if_pos c1, e1, hf, if_pos hn, if_pos (by omega), w]
      have last : ∀ (K : Nat) (z : ByteArray) (n f : Int), l[i].f1 = f → ¬ n < f → quipuref13_Print.l1 (K + 1) l z (i : Int) n = quipuref13_Print.l0 K l z ((i + 1 : Nat) : Int) := by
        intro K z n f hf hn
        conv => lhs; unfold quipuref13_Print.l1
        rw [if_pos c2, if_pos c1, e1, hf, if_neg hn, W1.out]
      have s2 : ∀ z : ByteArray, (z ++ (⟨#[194, 164]⟩ : ByteArray)).size = z.size + 2 := fun z => by rw [ByteArray.size_append]; rfl
      have hx64 : x.size ≤ 2000 * 64 := by omega
      rcases hu with hu | hu | hu
      · have hf : l[i].f1 = 1 := by rw [hu]
        rw [hu] at fin
        rw [step _ x 0 1 hf (by decide) (by decide) (by decide) (by omega), last _ _ (0 + 1) 1 hf (by decide)]
        exact (fin (joinB [currC]) _ _ (by rw [join_one]; rfl) rfl (by omega)).2
      · have hf : l[i].f1 = 2 := by rw [hu]
        rw [hu] at fin
        rw [step _ x 0 2 hf (by decide) (by decide) (by decide) (by omega), step _ _ (0 + 1) 2 hf (by decide) (by decide) (by decide) (by rw [s2]; omega), last _ _ (0 + 1 + 1) 2 hf (by decide)]
        exact (fin (joinB [currC, currC]) _ _ (by rw [app_assoc]; rfl) rfl (by omega)).2
      · have hf : l[i].f1 = 3 := by rw [hu]
        rw [hu] at fin
        rw [step _ x 0 3 hf (by decide) (by decide) (by decide) (by omega), step _ _ (0 + 1) 3 hf (by decide) (by decide) (by decide) (by rw [s2]; omega), step _ _ (0 + 1 + 1) 3 hf (by decide) (by decide) (by decide) (by rw [s2, s2]; omega), last _ _ (0 + 1 + 1 + 1) 3 hf (by decide)]
        exact (fin (joinB [currC, currC, currC]) _ _ (by rw [app_assoc, app_assoc]; rfl) rfl (by omega)).2
end Go.Proofs.Ytieipeigjhicfaa.A
