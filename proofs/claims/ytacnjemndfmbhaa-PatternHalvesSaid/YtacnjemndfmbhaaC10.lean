import Derived.Test.YtacnjemndfmbhaaC6
import Derived.Test.YtacnjemndfmbhaaC8
import Derived.Test.YtacnjemndfmbhaaC9
namespace Go.Proofs.Ytacnjemndfmbhaa
open Go.RowKit
theorem aP18 {p : Prop} (h : p := by
    go_enter Try.func23, Try.ntmps23
    go_wp2_with (first | (go_at_call 33; (with_reducible refine (check_calls L.A L.c x.p _ (Kd.C_below HR.out.r.p HQ.out.below) HR.out.r.pc HR.out.p).mono ?_); rintro e w1 ⟨rfl, hb⟩; have nq := Aside0.mk (HQ.out.step hb); clear HQ hb; have HQ := nq; clear nq; obtain ⟨c0, c1, c2, c3, c4, c5, c6, c7, c8, c9, c10, c11⟩ := sub_at HQ.out.box) | (go_at_call 33; (with_reducible refine (check_calls L.B L.d x.s _ (Kd.C_below HR.out.r.s HQ.out.below) HR.out.r.sc HR.out.s).mono ?_); rintro e w1 ⟨rfl, hb⟩; have nq := Aside0.mk (HQ.out.step hb); clear HQ hb; have HQ := nq; clear nq; obtain ⟨c0, c1, c2, c3, c4, c5, c6, c7, c8, c9, c10, c11⟩ := sub_at HQ.out.box) | (go_at_call 34; (with_reducible refine (in_calls _ _ _ _).mono ?_); rintro e w1 ⟨rfl, rfl⟩))
    go_ret
    exact ⟨ret_bool HE.out.symm, HQ.out.below⟩) : p := h
theorem aP49 {p : Prop} (h : p := by (with_reducible repeat (first | refine blk_drewN ?_ _ | refine blk_drew ?_)); exact HK.out) : p := h
theorem aP48 {p : Prop} (h : p := by repeat (first | (with_reducible first | exact HX.out | apply pw_below_drewN | apply below_drew1) | exact HX.out)) : p := h
theorem aP47 {p : Prop} (h : p := by first | exact HQ.out | exact HQ.out.drew1 | exact HQ.out.drewN _) : p := h
end Go.Proofs.Ytacnjemndfmbhaa
section
namespace Go.Proofs.Ytacnjemndfmbhaa.A
open Go.RowKit Go.Proofs.Ytacnjemndfmbhaa.Q Go.Proofs.Ytacnjemndfmbhaa.R1 Go.Proofs.YtacnjemndfmbhaaW.PrintWords Go.Proofs.YtacnjemndfmbhaaW.PrintLast
set_option linter.unusedVariables false
set_option linter.unusedSimpArgs false
theorem rdC (cs : List ByteArray) (j : Nat) (h : j < cs.length) : rdOf ByteArray.empty cs (j : Int) = cs[j] := by
  show cs.getD (j : Int).toNat _ = _
  rw [Int.toNat_natCast, List.getD_eq_getElem?_getD, List.getElem?_eq_getElem h]
  rfl
def needB (c : ByteArray) : Bool := decide (0 < kindS c) || letB c
theorem text_step (cs : List ByteArray) (hcs : ∀ c ∈ cs, IsRune c) (j : Nat) (hj : j < cs.length) (k : Nat) (out : ByteArray) (i : Int) (bare : Bool) (row : ByteArray) :
    quipuref13_text.l1 (k + 1) cs out i (j : Int) bare row = quipuref13_text.j2 k cs out i (j : Int) bare row (decide (quoteC cs[j]) || needB cs[j]) := by
  simp only [quipuref13_text.l1]
  rw [if_pos (show (j : Int) < (cs.length : Int) by omega), if_pos (show (0 : Int) ≤ (j : Int) by omega), rdC cs j hj]
  by_cases hq : quoteC cs[j]
  · rw [if_pos (show (cs[j]).toList = ([39] : List UInt8) from hq), decide_eq_true hq, Bool.true_or]
  · rw [if_neg (show ¬ (cs[j]).toList = ([39] : List UInt8) from hq), decide_eq_false hq, Bool.false_or, sign_eq, Option.bind_some]
    unfold needB
    by_cases hk : 0 < kindS cs[j]
    · rw [if_pos (show kindS cs[j] > 0 from hk), decide_eq_true hk, Bool.true_or]
    · rw [if_neg (show ¬ kindS cs[j] > 0 from hk), decide_eq_false hk, Bool.false_or, letter_eq (hcs _ (List.getElem_mem hj)), Option.bind_some]
theorem text_loop (cs : List ByteArray) (hcs : ∀ c ∈ cs, IsRune c) (hc4 : ∀ c ∈ cs, c.size ≤ 4) (hn : cs.length ≤ 1048576) : ∀ (d : Nat),
    (∀ (i : Nat) (out : ByteArray) (K : Nat), i + d = cs.length → 6 * d + 1 ≤ K → out.size ≤ 20 * i → quipuref13_text.l0 K cs out (i : Int) = some (out ++ joinB (quoteR (cs.drop i) [] true))) ∧
    (∀ (j i : Nat) (raw : List ByteArray) (bare : Bool) (out : ByteArray) (K : Nat), j + d = cs.length → i + raw.length = j → 0 < raw.length → 6 * d + 4 ≤ K → out.size ≤ 20 * i → (joinB (dbl raw)).size ≤ 8 * raw.length →
      quipuref13_text.l1 K cs out (i : Int) (j : Int) bare (joinB (dbl raw)) = some (out ++ joinB (quoteR (cs.drop j) raw bare)))
  := by
    -- behind a row: it is laid down
    have flush : ∀ (d j i : Nat) (raw : List ByteArray) (bare : Bool) (out : ByteArray) (K : Nat), j + d = cs.length → i + raw.length = j → 0 < raw.length → out.size ≤ 20 * i → (joinB (dbl raw)).size ≤ 8 * raw.length →
        (∀ (i : Nat) (out : ByteArray), i + d = cs.length → out.size ≤ 20 * i → quipuref13_text.l0 K cs out (i : Int) = some (out ++ joinB (quoteR (cs.drop i) [] true))) →
        quipuref13_text.j2 (K + 1) cs out (i : Int) (j : Int) bare (joinB (dbl raw)) false = some (out ++ (joinB (wrapR raw bare) ++ joinB (quoteR (cs.drop j) [] true))) := by
      intro d j i raw bare out K hj hij hr ho hrs hA
      simp only [quipuref13_text.j2]
      rw [if_neg (by decide), if_neg (show ¬ (j : Int) = (i : Int) by omega)]
      cases bare
      · have e0 : joinB (wrapR raw false) = (⟨#[39]⟩ : ByteArray) ++ joinB (dbl raw) ++ (⟨#[39]⟩ : ByteArray) := by
          show Qc ++ joinB (dbl raw ++ [Qc]) = _
          rw [join_app, join_one, app_assoc]
          rfl
        have s1 : ((⟨#[39]⟩ : ByteArray) ++ joinB (dbl raw)).size = 1 + (joinB (dbl raw)).size := by rw [ByteArray.size_append]; rfl
        have s2 : ((⟨#[39]⟩ : ByteArray) ++ joinB (dbl raw) ++ (⟨#[39]⟩ : ByteArray)).size = 1 + (joinB (dbl raw)).size + 1 := by rw [ByteArray.size_append, s1]; rfl
        rw [if_neg (by decide), if_pos (by omega), if_pos (by rw [s1]; omega), if_pos (by rw [s2]; omega), hA j _ hj (by rw [ByteArray.size_append, s2]; omega), e0, app_assoc]
      · have e0 : joinB (wrapR raw true) = joinB (dbl raw) := rfl
        rw [if_pos rfl, if_pos (by omega), hA j _ hj (by rw [ByteArray.size_append]; omega), e0, app_assoc]
    -- a rune that is taken into the row
    have take : ∀ (j i : Nat) (raw : List ByteArray) (bare : Bool) (out : ByteArray) (K : Nat) (hj : j < cs.length), (joinB (dbl raw)).size ≤ 8 * raw.length → raw.length ≤ j → (decide (quoteC cs[j]) || needB cs[j]) = true →
        ∃ bare', (joinB (dbl (raw ++ [cs[j]]))).size ≤ 8 * (raw ++ [cs[j]]).length ∧ quipuref13_text.j2 (K + 1) cs out (i : Int) (j : Int) bare (joinB (dbl raw)) true = quipuref13_text.l1 K cs out (i : Int) ((j + 1 : Nat) : Int) bare' (joinB (dbl (raw ++ [cs[j]]))) ∧ quoteR (cs.drop j) raw bare = quoteR (cs.drop (j + 1)) (raw ++ [cs[j]]) bare' := by
      intro j i raw bare out K hj hrs hrj hd
      have hm := List.getElem_mem hj
      have h4 := hc4 _ hm
      have w : wrap64 ((j : Int) + 1) = ((j + 1 : Nat) : Int) := by unfold wrap64; omega
      rw [List.drop_eq_getElem_cons hj]
      simp only [quipuref13_text.j2, quoteR]
      rw [if_pos True.intro, if_pos (show (0 : Int) ≤ (j : Int) by omega), if_pos (show (j : Int) < (cs.length : Int) by omega), rdC cs j hj, w]
      by_cases hq : quoteC cs[j]
      · have e : joinB (dbl raw) ++ (⟨#[39, 39]⟩ : ByteArray) = joinB (dbl (raw ++ [cs[j]])) := by
          rw [dbl_app, join_app]
          simp only [dbl]
          rw [if_pos hq]
          rfl
        have es : (joinB (dbl (raw ++ [cs[j]]))).size = (joinB (dbl raw)).size + 2 := by rw [← e, ByteArray.size_append]; rfl
        refine ⟨bare, by rw [es, List.length_append, List.length_singleton]; omega, ?_, ?_⟩
        · rw [if_pos (show (cs[j]).toList = ([39] : List UInt8) from hq), if_pos (by omega), e]
        · rw [if_pos hq]
      · have e : joinB (dbl raw) ++ cs[j] = joinB (dbl (raw ++ [cs[j]])) := by
          rw [dbl_app, join_app]
          simp only [dbl]
          rw [if_neg hq, join_one]
        have es : (joinB (dbl (raw ++ [cs[j]]))).size = (joinB (dbl raw)).size + cs[j].size := by rw [← e, ByteArray.size_append]
        rw [decide_eq_false hq, Bool.false_or] at hd
        refine ⟨false, by rw [es, List.length_append, List.length_singleton]; omega, ?_, ?_⟩
        · rw [if_neg (show ¬ (cs[j]).toList = ([39] : List UInt8) from hq), if_pos (by omega), e]
        · rw [if_neg hq, if_pos (show (decide (0 < kindS cs[j]) || letB cs[j]) = true from hd)]
    intro d
    induction d with
    | zero =>
      have A0 : ∀ (i : Nat) (out : ByteArray) (K : Nat), i + 0 = cs.length → 6 * 0 + 1 ≤ K → out.size ≤ 20 * i → quipuref13_text.l0 K cs out (i : Int) = some (out ++ joinB (quoteR (cs.drop i) [] true)) := by
        intro i out K hi hK ho
        obtain ⟨k, rfl⟩ : ∃ k, K = k + 1 := ⟨K - 1, by omega⟩
        simp only [quipuref13_text.l0]
        rw [if_neg (by omega), List.drop_eq_nil_of_le (by omega)]
        show some out = some (out ++ (⟨#[]⟩ : ByteArray))
        rw [app_empty]
      refine ⟨A0, ?_⟩
      intro j i raw bare out K hj hij hr hK ho hrs
      obtain ⟨k, rfl⟩ : ∃ k, K = k + 1 + 1 := ⟨K - 2, by omega⟩
      have hfl := flush _ j i raw bare out k hj hij hr ho hrs (fun i out hi ho => A0 i out k hi (by omega) ho)
      rw [show quipuref13_text.l1 (k + 1 + 1) cs out (i : Int) (j : Int) bare (joinB (dbl raw)) = quipuref13_text.j2 (k + 1) cs out (i : Int) (j : Int) bare (joinB (dbl raw)) false by
        conv => lhs; unfold quipuref13_text.l1
        rw [if_neg (by omega)], hfl, List.drop_eq_nil_of_le (by omega)]
      show some (out ++ (joinB (wrapR raw bare) ++ (⟨#[]⟩ : ByteArray))) = _
      rw [app_empty]
      rfl
    | succ d ih =>
      obtain ⟨ihA, ihB⟩ := ih
      have B0 : ∀ (j : Nat) (out : ByteArray) (K : Nat), j + (d + 1) = cs.length → 6 * (d + 1) ≤ K → out.size ≤ 20 * j → quipuref13_text.l1 K cs out (j : Int) (j : Int) true (joinB (dbl [])) = some (out ++ joinB (quoteR (cs.drop j) [] true)) := by
        intro j out K hj hK ho
        obtain ⟨k, rfl⟩ : ∃ k, K = k + 1 + 1 := ⟨K - 2, by omega⟩
        have hlt : j < cs.length := by omega
        rw [text_step cs hcs j hlt]
        cases hd : (decide (quoteC cs[j]) || needB cs[j]) with
        | true =>
          obtain ⟨b', t1, t2, t3⟩ := take j j [] true out k hlt (Nat.zero_le _) (Nat.zero_le _) hd
          rw [t2, ihB (j + 1) j _ b' out k (by omega) (by simp) (by simp) (by omega) ho t1, t3]
        | false =>
          have w : wrap64 ((j : Int) + 1) = ((j + 1 : Nat) : Int) := by unfold wrap64; omega
          have h4 := hc4 _ (List.getElem_mem hlt)
          rw [Bool.or_eq_false_iff] at hd
          have hq : ¬ quoteC cs[j] := of_decide_eq_false hd.1
          rw [List.drop_eq_getElem_cons hlt]
          simp only [quipuref13_text.j2, quoteR]
          rw [if_neg (by decide), if_pos True.intro, if_pos (show (0 : Int) ≤ (j : Int) by omega), if_pos (show (j : Int) < (cs.length : Int) by omega), rdC cs j hlt, if_pos (by omega), w, ihA (j + 1) _ k (by omega) (by omega) (by rw [ByteArray.size_append]; omega)]
          rw [if_neg hq, if_neg (by have := hd.2; unfold needB at this; rw [this]; decide)]
          rw [app_assoc]
          rfl
      have A1 : ∀ (i : Nat) (out : ByteArray) (K : Nat), i + (d + 1) = cs.length → 6 * (d + 1) + 1 ≤ K → out.size ≤ 20 * i → quipuref13_text.l0 K cs out (i : Int) = some (out ++ joinB (quoteR (cs.drop i) [] true)) := by
        intro i out K hi hK ho
        obtain ⟨k, rfl⟩ : ∃ k, K = k + 1 := ⟨K - 1, by omega⟩
        have := B0 i out k hi (by omega) ho
        conv => lhs; unfold quipuref13_text.l0
        rw [if_pos (by omega)]
        exact this
      refine ⟨A1, ?_⟩
      intro j i raw bare out K hj hij hr hK ho hrs
      obtain ⟨k, rfl⟩ : ∃ k, K = k + 1 + 1 := ⟨K - 2, by omega⟩
      have hlt : j < cs.length := by omega
      rw [text_step cs hcs j hlt]
      cases hd : (decide (quoteC cs[j]) || needB cs[j]) with
      | true =>
        obtain ⟨b', t1, t2, t3⟩ := take j i raw bare out k hlt hrs (by omega) hd
        rw [t2, ihB (j + 1) i _ b' out k (by omega) (by rw [List.length_append, List.length_singleton]; omega) (by rw [List.length_append, List.length_singleton]; omega) (by omega) ho t1, t3]
      | false =>
        rw [flush _ j i raw bare out k hj hij hr ho hrs (fun i out hi ho => A1 i out k hi (by omega) ho)]
        rw [Bool.or_eq_false_iff] at hd
        have hq : ¬ quoteC cs[j] := of_decide_eq_false hd.1
        have hn2 : ¬ (decide (0 < kindS cs[j]) || letB cs[j]) = true := by have := hd.2; unfold needB at this; rw [this]; decide
        rw [List.drop_eq_getElem_cons hlt]
        simp only [quoteR]
        rw [if_neg hq, if_neg hn2, if_neg hq, if_neg hn2, show wrapR [] true ++ cs[j] :: quoteR (List.drop (j + 1) cs) [] true = cs[j] :: quoteR (List.drop (j + 1) cs) [] true from rfl, join_app]
theorem refText_eq (t : ByteArray) (hs : t.size ≤ 1048576) (hv : 0 ≤ runesS t) (K : Nat) (hK : 6 * t.size + 20 ≤ K) : quipuref13_text.f K t = some (joinB (quoteT t)) := by
  obtain ⟨h1, h2⟩ := runesAt_size t t.size 0 (Int.le_refl _) (by omega) (by omega)
  have hr := runesAt_runes t t.size 0 (Int.le_refl _) (by omega) (by omega)
  unfold quipuref13_text.f
  rw [refRunesT t hs K (by omega), Option.bind_some]
  have h := (text_loop (runesAt t 0).1 hr h1 (by omega) (runesAt t 0).1.length).1 0 ⟨#[]⟩ K (by omega) (by omega) (Nat.le_refl _)
  rw [nil_app, List.drop_zero] at h
  exact h
theorem refPrint_l (l : List S53) (hl : l.length ≤ 64) (hs : ∀ t ∈ l, singleS t = true) (ht : Texts l 64) : ∀ (d i K : Nat) (x : ByteArray), i + d = l.length → x.size ≤ 2000 * i → 2000 + 6 * d + 1 ≤ K →
    quipuref13_Print.l0 K l x (i : Int) = some (x ++ joinB (allR (l.drop i)), 0)
  | 0, i, K, x, hi, hx, hK => by
    obtain ⟨k, rfl⟩ : ∃ k, K = k + 1 := ⟨K - 1, by omega⟩
    simp only [quipuref13_Print.l0]
    rw [if_neg (by omega), List.drop_eq_nil_of_le (by omega)]
    show _ = some (x ++ (⟨#[]⟩ : ByteArray), 0)
    rw [app_empty]
  | d + 1, i, K, x, hi, hx, hK => by
    have hlt : i < l.length := by omega
    have W1 := Aside0.mk (show wrap64 ((i : Int) + 1) = ((i + 1 : Nat) : Int) by unfold wrap64; omega)
    have ih := fun x K => refPrint_l l hl hs ht d (i + 1) K x (by omega)
    obtain ⟨m, rfl⟩ : ∃ m, K = m + 1 + 1 + 1 + 1 + 1 + 1 := ⟨K - 6, by omega⟩
    have hsg := hs l[i] (List.getElem_mem hlt)
    have htx := ht l[i] (List.getElem_mem hlt)
    have hsz := tok_size l[i] hsg
    have hjs := join_size (tokR l[i])
    have fin : ∀ (y z : ByteArray) (K : Nat), z = x ++ y → y = joinB (tokR l[i]) → 2000 + 6 * d + 1 ≤ K → (x.size + y.size ≤ 9223372036854775807 ∧ quipuref13_Print.l0 K l z ((i + 1 : Nat) : Int) = some (x ++ joinB (allR (l.drop i)), 0)) := by
      intro y z K hz hy hK
      subst hz
      subst hy
      refine ⟨by omega, ?_⟩
      rw [ih _ K (by rw [ByteArray.size_append]; omega) hK, List.drop_eq_getElem_cons hlt, all_cons, join_app, app_assoc]
    have e1 := rd_get l i hlt
    have c1 : (i : Int) < (l.length : Int) := by omega
    have c2 : (0 : Int) ≤ (i : Int) := by omega
    conv => lhs; unfold quipuref13_Print.l0
    rw [if_pos c1, if_pos c2, e1, W1.out]
    rcases single_tells hsg with ⟨h0, hn, hu, hv⟩ | ⟨hk, hu⟩ | hu
    · rw [if_pos h0, refText_eq _ (by omega) hv _ (by omega), Option.bind_some]
      obtain ⟨f1, f2⟩ := fin (joinB (quoteT l[i].f2)) _ (m + 1 + 1 + 1 + 1 + 1) rfl (by unfold tokR; rw [if_pos h0]) (by omega)
      rw [if_pos f1, f2]
    · have et : tokR l[i] = [signC l[i].f0] := aP46
      rw [et, join_one] at fin
      rw [if_neg (by omega)]
      rcases hk with hk | hk | hk | hk
      · rw [hk] at fin ⊢
        obtain ⟨f1, f2⟩ := fin ⟨#[45]⟩ _ (m + 1 + 1 + 1 + 1 + 1) rfl rfl (by omega)
        rw [if_pos rfl, if_pos (show x.size + 1 ≤ 9223372036854775807 from f1), f2]
      · rw [hk] at fin ⊢
        obtain ⟨f1, f2⟩ := fin ⟨#[43]⟩ _ (m + 1 + 1 + 1 + 1 + 1) rfl rfl (by omega)
        rw [if_neg (by decide), if_pos rfl, if_pos (show x.size + 1 ≤ 9223372036854775807 from f1), f2]
      · rw [hk] at fin ⊢
        obtain ⟨f1, f2⟩ := fin ⟨#[37]⟩ _ (m + 1 + 1 + 1 + 1 + 1) rfl rfl (by omega)
        rw [if_neg (by decide), if_neg (by decide), if_pos rfl, if_pos (show x.size + 1 ≤ 9223372036854775807 from f1), f2]
      · rw [hk] at fin ⊢
        obtain ⟨f1, f2⟩ := fin ⟨#[226, 128, 176]⟩ _ (m + 1 + 1 + 1 + 1 + 1) rfl rfl (by omega)
        rw [if_neg (by decide), if_neg (by decide), if_neg (by decide), if_pos rfl, if_pos (show x.size + 3 ≤ 9223372036854775807 from f1), f2]
    · have h5 : l[i].f0 = 5 := by rcases hu with hu | hu | hu <;> rw [hu]
      rw [if_neg (by omega), if_neg (by omega), if_neg (by omega), if_neg (by omega), if_neg (by omega)]
      -- one sign of a currency
      have step : ∀ (K : Nat) (z : ByteArray) (n f : Int), l[i].f1 = f → n < f → 0 ≤ n → n < 4 → z.size ≤ 2000 * 64 + 100 → quipuref13_Print.l1 (K + 1) l z (i : Int) n = quipuref13_Print.l1 K l (z ++ (⟨#[194, 164]⟩ : ByteArray)) (i : Int) (n + 1) := by
        intro K z n f hf hn h0 h4 hz
        have w : wrap64 (n + 1) = n + 1 := by unfold wrap64; omega
        conv => lhs; unfold quipuref13_Print.l1
        rw [if_pos c2, if_pos c1, e1, hf, if_pos hn, if_pos (by omega), w]
      have last : ∀ (K : Nat) (z : ByteArray) (n f : Int), l[i].f1 = f → ¬ n < f → quipuref13_Print.l1 (K + 1) l z (i : Int) n = quipuref13_Print.l0 K l z ((i + 1 : Nat) : Int) := by
        intro K z n f hf hn
        conv => lhs; unfold quipuref13_Print.l1
        rw [if_pos c2, if_pos c1, e1, hf, if_neg hn, W1.out]
      have s2 : ∀ z : ByteArray, (z ++ (⟨#[194, 164]⟩ : ByteArray)).size = z.size + 2 := fun z => by rw [ByteArray.size_append]; rfl
      have hx64 : x.size ≤ 2000 * 64 := by omega
      rcases hu with hu | hu | hu
      · have hf : l[i].f1 = 1 := by rw [hu]
        rw [hu] at fin
        rw [step _ x 0 1 hf (by decide) (by decide) (by decide) (by omega), last _ _ (0 + 1) 1 hf (by decide)]
        exact (fin (joinB [currC]) _ _ (by rw [join_one]; rfl) rfl (by omega)).2
      · have hf : l[i].f1 = 2 := by rw [hu]
        rw [hu] at fin
        rw [step _ x 0 2 hf (by decide) (by decide) (by decide) (by omega), step _ _ (0 + 1) 2 hf (by decide) (by decide) (by decide) (by rw [s2]; omega), last _ _ (0 + 1 + 1) 2 hf (by decide)]
        exact (fin (joinB [currC, currC]) _ _ (by rw [app_assoc]; rfl) rfl (by omega)).2
      · have hf : l[i].f1 = 3 := by rw [hu]
        rw [hu] at fin
        rw [step _ x 0 3 hf (by decide) (by decide) (by decide) (by omega), step _ _ (0 + 1) 3 hf (by decide) (by decide) (by decide) (by rw [s2]; omega), step _ _ (0 + 1 + 1) 3 hf (by decide) (by decide) (by decide) (by rw [s2, s2]; omega), last _ _ (0 + 1 + 1 + 1) 3 hf (by decide)]
        exact (fin (joinB [currC, currC, currC]) _ _ (by rw [app_assoc, app_assoc]; rfl) rfl (by omega)).2
theorem bytes_wide : ∀ (l : List S53) (b : Int), Texts l 281474976710656 → 0 ≤ b → b + 281474976710656 * l.length ≤ 4611686018427387904 → bytesL l b = b + sumT l
  | [], b, _, _, _ => by show b = b + ((0 : Nat) : Int); omega
  | t :: r, b, ht, h0, h1 => by
    have h2 := ht t (by simp)
    rw [List.length_cons] at h1
    have w : wrap64 (b + t.f2.size) = b + t.f2.size := by unfold wrap64; omega
    rw [bytesL_cons, w, bytes_wide r (b + t.f2.size) (fun u hu => ht u (by simp [hu])) (by omega) (by omega)]
    show _ = b + ((t.f2.size + sumT r : Nat) : Int)
    omega
theorem texts_wide (l : List S53) (hl : Texts l 281474976710656) (h : checkS l = 0) : goodL none l = true ∧ l.length ≤ 64 ∧ sumT l ≤ 64 ∧ Texts l 64 := by
  obtain ⟨h1, h2, h3⟩ := check_zero h
  have := bytes_wide l 0 hl (Int.le_refl _) (by omega)
  exact ⟨h1, h2, by omega, fun t ht => Nat.le_trans (sum_mem l t ht) (by omega)⟩
theorem print_wide (l : List S53) (hl : Texts l 281474976710656) (hb : l.length ≤ 4398046511104) (K : Nat) (hK : 281474976710656 + l.length + 10000 ≤ K) : affix_Print.f K l = some (printT l) ∧ quipuref13_Print.f K l = some (printT l) := by
  have e1 := affixCheck_eq l 281474976710656 (Nat.le_refl _) hl (by omega) K (by omega)
  have e2 := refCheck_eq l 281474976710656 (Nat.le_refl _) hl (by omega) K (by omega)
  unfold affix_Print.f quipuref13_Print.f printT
  rw [e1, e2, Option.bind_some, Option.bind_some]
  by_cases h : checkS l = 0
  · obtain ⟨h1, h2, h3, h4⟩ := texts_wide l hl h
    have hp := print_l l h2 (good_single l none h1) h4 (K - l.length - 1) l.length 0 ⟨#[]⟩ (by omega) (Nat.zero_le _)
    rw [show K - l.length - 1 + l.length + 1 = K by omega, nil_app] at hp
    have hq := refPrint_l l h2 (good_single l none h1) h4 l.length 0 K ⟨#[]⟩ (by omega) (Nat.zero_le _) (by omega)
    rw [nil_app] at hq
    rw [if_pos h, if_pos h, if_pos h]
    exact ⟨hp, hq⟩
  · rw [if_neg h, if_neg h, if_neg h]
    exact ⟨rfl, rfl⟩
end Go.Proofs.Ytacnjemndfmbhaa.A
end
section
namespace Go.Proofs.Ytacnjemndfmbhaa.Q
open Go.RowKit Go.Proofs.Ytacnjemndfmbhaa.A Go.Proofs.YtacnjemndfmbhaaW.PrintWords Go.Proofs.YtacnjemndfmbhaaW.PrintLast Go.Proofs.YtacnjemndfmbhaaW.PrintMore
set_option linter.unusedVariables false
theorem seal0 {α : Type} (a : α) : ∃ b, b = a := ⟨a, rfl⟩
noncomputable def checkS : List S53 → Int := Classical.choose (seal0 A.checkS)
theorem checkS_eq : checkS = A.checkS := Classical.choose_spec (seal0 A.checkS)
noncomputable def printT : List S53 → ByteArray × Int := Classical.choose (seal0 A.printT)
theorem printT_eq : printT = A.printT := Classical.choose_spec (seal0 A.printT)
noncomputable def parseT : ByteArray → List S53 × Int := Classical.choose (seal0 A.parseT)
theorem parseT_eq : parseT = A.parseT := Classical.choose_spec (seal0 A.parseT)
noncomputable def runesS : ByteArray → Int := Classical.choose (seal0 R1.runesS)
theorem runesS_eq : runesS = R1.runesS := Classical.choose_spec (seal0 R1.runesS)
noncomputable def runeS : ByteArray → Int → Int := Classical.choose (seal0 R1.runeS)
theorem runeS_eq : runeS = R1.runeS := Classical.choose_spec (seal0 R1.runeS)
def TokOk (l : List S53) : Prop := Texts l 281474976710656 ∧ l.length < 4398046511104
noncomputable def runesT : List S53 → Int
  | [] => 0
  | t :: r => (if t.f0 = 0 then runesS t.f2 else if t.f0 = 5 then t.f1 else 1) + runesT r
theorem check_calls (A : Option Addr) (c : Nat) (l : List S53) (w : World) (hr : Kd.C k53 w A l.length l) (hc : l.length ≤ c) (ht : TokOk l) :
    Calls Try.prog 33 #[.slice A l.length c] w fun e w' => e = .returned (.int .i64 (checkS l)) ∧ Below w.heap.size w w' :=
  affix_Check.calls (281474976710656 + l.length + 21) A c l (checkS l) w hr hc (by rw [checkS_eq]; exact affixCheck_eq l 281474976710656 (Nat.le_refl _) ht.1 (by have := ht.2; omega) (281474976710656 + l.length + 21) (Nat.le_refl _))
theorem print_calls (A : Option Addr) (c : Nat) (l : List S53) (w : World) (hG : Glob w) (hr : Kd.C k53 w A l.length l) (hc : l.length ≤ c) (ht : TokOk l) :
    Calls Try.prog 53 #[.slice A l.length c] w fun e w' => e = .returned (.tuple #[.string (printT l).1, .int .i64 (printT l).2]) ∧ Below w.heap.size w w' :=
  affix_Print.calls (281474976710656 + l.length + 10000) A c l (printT l).1 (printT l).2 w hG hr hc (by rw [printT_eq]; exact (print_wide l ht.1 (by have := ht.2; omega) _ (Nat.le_refl _)).1)
theorem runes_calls (s : ByteArray) (w : World) (hs : s.size ≤ 281474976710656) : Calls Try.prog 35 #[.string s] w fun e w' => e = .returned (.int .i64 (runesS s)) ∧ Below w.heap.size w w' :=
  (cursor_Runes.calls (s.size + 1 + 0 + 5) s (runesS s) w (by rw [runesS_eq]; exact R1.curRunes s hs 0)).mono fun e w' h => ⟨h.1, h.2.below⟩
theorem rune_calls (s : ByteArray) (p : Int) (w : World) (hs : s.size ≤ 281474976710656) : Calls Try.prog 62 #[.string s, .int .i64 p] w fun e w' => e = .returned (.int .i64 (runeS s p)) ∧ Below w.heap.size w w' :=
  (cursor_Rune.calls (0 + 5) s p (runeS s p) w (by rw [runeS_eq]; exact R1.curRune s p hs 0)).mono fun e w' h => ⟨h.1, h.2.below⟩
theorem tok_runes {t : S53} (h : singleS t = true) : 0 ≤ (if t.f0 = 0 then runesS t.f2 else if t.f0 = 5 then t.f1 else 1) ∧ (if t.f0 = 0 then runesS t.f2 else if t.f0 = 5 then t.f1 else 1) ≤ t.f2.size + 3 := by
  have hl : runesS t.f2 ≤ t.f2.size := by rw [runesS_eq]; exact R1.runesS_le t.f2
  rw [runesS_eq] at hl ⊢
  rcases single_tells h with ⟨h0, h1, h2, h3⟩ | ⟨h0, h1⟩ | h0
  · rw [if_pos h0]; omega
  · rw [if_neg (by omega), if_neg (by omega)]; omega
  · have hf : t.f0 = 5 ∧ 1 ≤ t.f1 ∧ t.f1 ≤ 3 := by rcases h0 with h0 | h0 | h0 <;> (rw [h0]; exact ⟨rfl, by decide, by decide⟩)
    rw [if_neg (by omega), if_pos hf.1]; omega
theorem runesT_sum : ∀ (l : List S53), (∀ t ∈ l, singleS t = true) → 0 ≤ runesT l ∧ runesT l ≤ sumT l + 3 * l.length
  | [], _ => ⟨Int.le_refl _, by show (0 : Int) ≤ ((0 : Nat) : Int) + 3 * ((0 : Nat) : Int); omega⟩
  | t :: r, h => by
    have h1 := tok_runes (h t (by simp))
    have h2 := runesT_sum r (fun u hu => h u (by simp [hu]))
    have e : runesT (t :: r) = (if t.f0 = 0 then runesS t.f2 else if t.f0 = 5 then t.f1 else 1) + runesT r := rfl
    have e2 : (sumT (t :: r) : Int) = t.f2.size + sumT r := by show ((t.f2.size + sumT r : Nat) : Int) = _; omega
    rw [e, e2, List.length_cons]
    omega
theorem runesT_range (l : List S53) (h0 : checkS l = 0) (ht : TokOk l) : 0 ≤ runesT l ∧ runesT l ≤ 100000 := by
  obtain ⟨h1, h2, h3, h4⟩ := texts_wide l ht.1 (by rw [← checkS_eq]; exact h0)
  have := runesT_sum l (good_single l none h1)
  omega
theorem wr2 {x : Int} (h0 : 0 ≤ x) (h1 : x ≤ 1000000) : wrap64 x = x := by unfold wrap64; omega
theorem truns_l (l : List S53) (hs : ∀ t ∈ l, singleS t = true) (hl : l.length ≤ 64) (ht : Texts l 64) (k : Nat) : ∀ (d i : Nat) (n : Int), i + d = l.length → 0 ≤ n → n ≤ 100 * i → pattern_runes.l0 (k + 100 + d) n l (l.length : Int) (i : Int) = some (n + runesT (l.drop i))
  | 0, i, n, hi, h0, h1 => by
    rw [show k + 100 + 0 = (k + 99) + 1 by omega, pattern_runes.l0, if_neg (by omega), List.drop_eq_nil_of_le (by omega)]
    show _ = some (n + 0)
    rw [Int.add_zero]
  | d + 1, i, n, hi, h0, h1 => by
    have hlt : i < l.length := by omega
    have hg := rd_get l i hlt
    have hm : l[i] ∈ l := List.getElem_mem hlt
    have hb := tok_runes (hs _ hm)
    have hz := ht _ hm
    have hd : runesT (l.drop i) = (if l[i].f0 = 0 then runesS l[i].f2 else if l[i].f0 = 5 then l[i].f1 else 1) + runesT (l.drop (i + 1)) := by rw [List.drop_eq_getElem_cons hlt]; rfl
    have wi : wrap64 ((i : Int) + 1) = ((i + 1 : Nat) : Int) := by rw [wr2 (by omega) (by omega)]; omega
    have ih := fun m h2 h3 => truns_l l hs hl ht k d (i + 1) m (by omega) h2 h3
    have hr := R1.curRunes l[i].f2 (by omega) (k + 94 + d - l[i].f2.size)
    rw [← runesS_eq] at hr
    rw [show l[i].f2.size + 1 + (k + 94 + d - l[i].f2.size) + 5 = k + 100 + d by omega] at hr
    rw [show k + 100 + (d + 1) = (k + 100 + d) + 1 by omega, pattern_runes.l0, if_pos (by omega), if_pos (by omega), if_pos (by omega), hg, wi, hd]
    by_cases c0 : l[i].f0 = 0
    · rw [if_pos c0] at hb ⊢
      rw [if_pos c0, hr, Option.bind_some, wr2 (by omega) (by omega), ih _ (by omega) (by omega)]
      congr 1; omega
    · rw [if_neg c0] at hb ⊢
      rw [if_neg c0]
      by_cases c5 : l[i].f0 = 5
      · rw [if_pos c5] at hb ⊢
        rw [if_pos c5, wr2 (by omega) (by omega), ih _ (by omega) (by omega)]
        congr 1; omega
      · rw [if_neg c5] at hb ⊢
        rw [if_neg c5, wr2 (by omega) (by omega), ih _ (by omega) (by omega)]
        congr 1; omega
theorem truns_calls (A : Option Addr) (c : Nat) (l : List S53) (w : World) (hr : Kd.C k53 w A l.length l) (hc : l.length ≤ c) (ht : TokOk l) (h0 : checkS l = 0) :
    Calls Try.prog 46 #[.slice A l.length c] w fun e w' => e = .returned (.int .i64 (runesT l)) ∧ Below w.heap.size w w' := by
  obtain ⟨h1, h2, h3, h4⟩ := texts_wide l ht.1 (by rw [← checkS_eq]; exact h0)
  refine pattern_runes.calls (0 + 100 + l.length) A c l (runesT l) w hr hc ?_
  have := truns_l l (good_single l none h1) h2 h4 0 l.length 0 0 (by omega) (Int.le_refl _) (by omega)
  rw [List.drop_zero, Int.zero_add] at this
  exact this
theorem list_beq {a b : ByteArray} : (a.toList == b.toList) = decide (a = b) := by
  by_cases h : a = b
  · subst h; simp
  · rw [decide_eq_false h, beq_eq_false_iff_ne]
    intro e
    exact h (bytes_inj (by rw [Lib.toList_data, Lib.toList_data] at e; exact e))
theorem same_l (l m : List S53) (he : l.length = m.length) (hl : l.length < 4398046511104) (K : Nat) : ∀ (d i : Nat), i + d = l.length → quipuref13_Same.l0 (K + d + 1) l m (i : Int) = some (decide (l.drop i = m.drop i))
  | 0, i, hi => by
    simp only [quipuref13_Same.l0]
    rw [if_neg (by omega), List.drop_eq_nil_of_le (by omega), List.drop_eq_nil_of_le (by omega)]
    rfl
  | d + 1, i, hi => by
    have ih := same_l l m he hl K d (i + 1) (by omega)
    obtain ⟨q, hq⟩ : ∃ q, K + d + 1 = q := ⟨_, rfl⟩
    rw [hq] at ih
    have W1 := Aside0.mk (show wrap64 ((i : Int) + 1) = ((i + 1 : Nat) : Int) by unfold wrap64; omega)
    have h1 : i < l.length := by omega
    have h2 : i < m.length := by omega
    rw [show K + (d + 1) + 1 = q + 1 by omega]
    simp only [quipuref13_Same.l0]
    rw [if_pos (by omega), if_pos (by omega), if_pos (by omega), W1.out, ih, rd_get l i h1, rd_get m i h2, list_beq, List.drop_eq_getElem_cons h1, List.drop_eq_getElem_cons h2]
    obtain ⟨a, ha⟩ : ∃ a, l[i] = a := ⟨_, rfl⟩
    obtain ⟨b, hb⟩ : ∃ b, m[i] = b := ⟨_, rfl⟩
    rw [ha, hb]
    cases a; cases b
    rename_i a0 a1 a2 b0 b1 b2
    simp only [List.cons.injEq, S53.mk.injEq]
    by_cases e0 : a0 = b0
    · by_cases e1 : a1 = b1
      · by_cases e2 : a2 = b2
        · simp [e0, e1, e2]
        · simp [e0, e1, e2]
      · simp [e0, e1]
    · simp [e0]
theorem same_calls (A : Option Addr) (c : Nat) (l : List S53) (B : Option Addr) (d : Nat) (m : List S53) (w : World) (hr : Kd.C k53 w A l.length l) (hc : l.length ≤ c) (hr2 : Kd.C k53 w B m.length m) (hd : m.length ≤ d) (hl : l.length < 4398046511104) :
    Calls Try.prog 29 #[.slice A l.length c, .slice B m.length d] w fun e w' => e = .returned (.bool (decide (l = m))) ∧ Below w.heap.size w w' := by
  refine (quipuref13_Same.calls (0 + l.length + 1) A c l B d m (decide (l = m)) w hr hc hr2 hd ?_).mono fun e w' h => ⟨h.1, h.2.below⟩
  unfold quipuref13_Same.f
  by_cases he : l.length = m.length
  · rw [if_pos (by omega)]
    exact same_l l m he hl 0 l.length 0 (by omega)
  · rw [if_neg (by omega), decide_eq_false (fun e => he (by rw [e]))]
def repB (b : UInt8) (n : Int) : ByteArray := ⟨(List.replicate n.toNat b).toArray⟩
theorem repB_list (b : UInt8) (n : Int) : (repB b n).data.toList = List.replicate n.toNat b := by show (List.replicate n.toNat b).toArray.toList = _; simp
theorem repB_size (b : UInt8) (n : Int) : (repB b n).size = n.toNat := by show (List.replicate n.toNat b).toArray.size = _; simp
structure Fine (x : Sb) : Prop where
  im0 : 0 ≤ x.im
  im1 : x.im ≤ 32
  fx0 : 0 ≤ x.fx
  fx1 : x.fx ≤ 32
  fn0 : 0 ≤ x.fn
  fn1 : x.fn ≤ x.fx
  pr0 : 0 ≤ x.pr
  pr1 : x.pr ≤ 16
  se0 : 0 ≤ x.se
  se1 : x.se ≤ 16
  em0 : 0 ≤ x.em
  em1 : x.em ≤ 9
  ps : x.pr = 0 → x.se = 0
def rawD (im hi lo : Int) : List UInt8 := List.replicate (hi - mx lo im).toNat 35 ++ List.replicate (mn hi im - lo).toNat 48
def leastS (x : Sb) : Int := mx (mx 1 x.im) (if 0 < x.pr then x.pr + x.se + 1 else 0)
def placesL (x : Sb) (n : Int) : List UInt8 :=
  if 0 < x.pr then (if 0 < x.se then rawD x.im n (x.pr + x.se) ++ [44] ++ rawD x.im (x.pr + x.se) x.pr ++ [44] ++ rawD x.im x.pr 0 else rawD x.im n x.pr ++ [44] ++ rawD x.im x.pr 0)
  else rawD x.im n 0
def fracL (x : Sb) : List UInt8 := if 0 < x.fx then [46] ++ List.replicate x.fn.toNat 48 ++ List.replicate (x.fx - x.fn).toNat 35 else []
def expL (x : Sb) : List UInt8 := if 0 < x.em then [69] ++ (if x.ep then [43] else []) ++ List.replicate x.em.toNat 48 else []
def digL (x : Sb) (n : Int) : List UInt8 := placesL x n ++ fracL x ++ expL x
def digS (x : Sb) (n : Int) : ByteArray := ⟨(digL x n).toArray⟩
noncomputable def lengthS (x : Sb) (n : Int) : Int := runesT x.p + (digL x n).length + runesT x.s
def fineB (x : Sb) : Bool := inB x.im 0 32 && (inB x.fx 0 32 && (inB x.fn 0 x.fx && (inB x.pr 0 16 && (inB x.se 0 16 && inB x.em 0 9))))
def oddB (x : Sb) : Bool := (x.pr == 0 && decide (0 < x.se)) || ((x.em == 0 && x.ep) || (decide (0 < x.em) && decide (0 < x.pr)))
def edgeB (x : Sb) : Bool := (x.pa == 1 && x.p.length == 0) || (x.pa == 3 && x.s.length == 0)
noncomputable def padB (x : Sb) : Bool :=
  if x.pad.toList.isEmpty then x.pa == 0 && x.wd == 0
  else runesS x.pad == 1 && (inB x.pa 0 3 && (!edgeB x && inB x.wd (lengthS x (leastS x)) 99))
noncomputable def halfS (x : Sb) : Bool := checkS x.p == 0 && (checkS x.s == 0 && (fineB x && (!oddB x && padB x)))
noncomputable def wideS (x : Sb) : Int := if x.pad.toList.isEmpty then leastS x else leastS x + (x.wd - lengthS x (leastS x))
def fillS (x : Sb) (k : Int) : ByteArray := if x.pad.toList.isEmpty then ⟨#[]⟩ else if x.pa = k then ⟨#[42]⟩ ++ x.pad else ⟨#[]⟩
noncomputable def textS (x : Sb) : ByteArray := fillS x 0 ++ (printT x.p).1 ++ fillS x 1 ++ digS x (wideS x) ++ fillS x 2 ++ (printT x.s).1 ++ fillS x 3
structure Pt where
  pos : Sb
  ng : Bool
  neg : Sb
noncomputable def wholeS (x : Pt) : ByteArray := if x.ng then textS x.pos ++ (⟨#[59]⟩ ++ textS x.neg) else textS x.pos
noncomputable def formB (x : Pt) : Bool := halfS x.pos && (if x.ng then halfS x.neg else zeroB x.neg)
noncomputable def checkP (x : Pt) : Int := if formB x then (if (wholeS x).size > 128 then 142 else 0) else 141
noncomputable def printP (x : Pt) : ByteArray × Int := if checkP x = 0 then (wholeS x, 0) else (⟨#[]⟩, checkP x)
theorem raw_len (im hi lo : Int) (h0 : 0 ≤ im) (h1 : 0 ≤ lo) (h : lo ≤ hi) : ((rawD im hi lo).length : Int) = hi - lo := by
  unfold rawD mx mn
  rw [List.length_append, List.length_replicate, List.length_replicate]
  split <;> split <;> omega
end Go.Proofs.Ytacnjemndfmbhaa.Q
end
section
namespace Go.Proofs.Ytacnjemndfmbhaa.Q
open Go.RowKit Go.Proofs.Ytacnjemndfmbhaa.A Go.Proofs.YtacnjemndfmbhaaW.PrintWords Go.Proofs.YtacnjemndfmbhaaW.PrintLast Go.Proofs.YtacnjemndfmbhaaW.PrintMore
set_option linter.unusedVariables false
set_option linter.unusedSimpArgs false
def commaB (x : Sb) (n k : Int) : Bool := decide (0 < x.pr) && (decide (k < n) && (k == x.pr || (decide (0 < x.se) && k == x.pr + x.se)))
def dstep (x : Sb) (n k : Int) : List UInt8 := (if commaB x n k = true then [44] else []) ++ [if x.im < k then 35 else 48]
def dDown (x : Sb) (n : Int) : Nat → List UInt8
  | 0 => []
  | k + 1 => dstep x n ((k : Int) + 1) ++ dDown x n k
theorem repeat1 (b : UInt8) (n : Int) (w : World) (h0 : 0 ≤ n) (h1 : n ≤ 300) : Calls Try.prog 76 #[.string ⟨#[b]⟩, .int .i64 n] w fun e w' => e = .returned (.string (repB b n)) ∧ Below w.heap.size w w' := by
  obtain ⟨m, rfl⟩ : ∃ m : Nat, n = m := ⟨n.toNat, by omega⟩
  have e : Lib.repeatL [b] m = List.replicate m b := by
    induction m with
    | zero => rfl
    | succ m ih => show [b] ++ Lib.repeatL [b] m = _; rw [ih (by omega) (by omega)]; rfl
  have := Try.strings_Repeat ⟨#[b]⟩ m w (by omega) (by show 1 * m ≤ _; omega)
  rw [e] at this
  exact this
structure DS (w0 w : World) (L : Sl) (x : Sb) (bs : List UInt8) : Prop where
  bu : Lib.IsBuilder 90 5 w0.heap.size (w0.heap.size + 1) (Lib.byteCells bs) w
  box : w.heap[w0.heap.size]? = some (.cells (subC L x) 24 (0, 0))
  below : Below w0.heap.size w0 w
theorem DS.start (w : World) (L : Sl) (x : Sb) : DS w ((w.alloc (.cells (subC L x) 24)).alloc (.cells #[.pointer none, .slice none 0 0] 90)) L x [] := by
  have e0 : (w.alloc (.cells (subC L x) 24)).heap.size = w.heap.size + 1 := by simp
  refine ⟨.inl ⟨by omega, .slice none 0 0, ?_, ⟨rfl, .inl ⟨rfl, rfl⟩⟩, by simp [Value.ownBlock]⟩, ?_, below_alloc (below_alloc (Below.refl _ _) _) _⟩
  · rw [← e0, heap_alloc_new]
  · rw [heap_alloc_old _ _ (by omega), heap_alloc_new]
theorem DS.step {w0 w w' : World} {L : Sl} {x : Sb} {bs : List UInt8} (h : DS w0 w L x bs) (hb : Below w.heap.size w w') : DS w0 w' L x bs := by
  obtain ⟨cb, hbb⟩ := isb_blk h.bu
  exact ⟨isb_move h.bu (hb.block _ (blk_lt hbb)) (fun k c hk => hb.block k (blk_lt hk)), blk_below h.box hb, below_step h.below hb⟩
theorem DS.put {w0 w w' : World} {L : Sl} {x : Sb} {bs : List UInt8} {s : ByteArray} (h : DS w0 w L x bs) (hu : Lib.BuilderAt 90 5 w0.heap.size (w0.heap.size + 1) (.pointer (some ⟨w0.heap.size + 1, 0, none⟩)) (Lib.byteCells bs ++ Lib.strCells s) w') (hb : Below w0.heap.size w w') (hk : KeepT w w' (w0.heap.size + 1)) : DS w0 w' L x (bs ++ s.data.toList) := by
  rw [cells_str] at hu
  exact ⟨.inr hu, hk _ _ _ (by omega) (by decide) h.box, below_trans0 h.below hb⟩
theorem DS.drewN {w0 w : World} {L : Sl} {x : Sb} {bs : List UInt8} (h : DS w0 w L x bs) (n : Nat) : DS w0 (w.drewN n) L x bs := h.step (pw_below_drewN (Below.refl _ _) n)
theorem DS.drew1 {w0 w : World} {L : Sl} {x : Sb} {bs : List UInt8} (h : DS w0 w L x bs) : DS w0 w.drew L x bs := h.step (below_drew1 (Below.refl _ _))
theorem write_any {w0 w : World} {L : Sl} {x : Sb} {bs : List UInt8} (h : DS w0 w L x bs) (s : ByteArray) (hl : bs.length + s.size ≤ 100000) : Calls Try.prog 77 #[.pointer (some ⟨w0.heap.size + 1, 0, none⟩), .string s] w fun e w' => e = .returned (.tuple #[.int .i64 s.size, .nilIface]) ∧ DS w0 w' L x (bs ++ s.data.toList) :=
  (writeString w0.heap.size (w0.heap.size + 1) (Lib.byteCells bs) s w h.bu (by rw [Lib.byteCells_length]; omega) (below_size h.below)).mono fun e w' ⟨he, hu, hb, hk⟩ => ⟨he, h.put hu hb hk⟩
theorem DS.cells {w0 w : World} {L : Sl} {x : Sb} {bs : List UInt8} (h : DS w0 w L x bs) : w.cell? ⟨w0.heap.size, 2, none⟩ = some (.int .i64 x.im) ∧ w.cell? ⟨w0.heap.size, 3, none⟩ = some (.int .i64 x.fn) ∧ w.cell? ⟨w0.heap.size, 4, none⟩ = some (.int .i64 x.fx) ∧ w.cell? ⟨w0.heap.size, 5, none⟩ = some (.int .i64 x.pr) ∧ w.cell? ⟨w0.heap.size, 6, none⟩ = some (.int .i64 x.se) ∧ w.cell? ⟨w0.heap.size, 7, none⟩ = some (.int .i64 x.em) ∧ w.cell? ⟨w0.heap.size, 8, none⟩ = some (.bool x.ep) :=
  ⟨(blk_cell h.box 2).trans rfl, (blk_cell h.box 3).trans rfl, (blk_cell h.box 4).trans rfl, (blk_cell h.box 5).trans rfl, (blk_cell h.box 6).trans rfl, (blk_cell h.box 7).trans rfl, (blk_cell h.box 8).trans rfl⟩
theorem sz_one (b : UInt8) : (⟨#[b]⟩ : ByteArray).size = 1 := rfl
theorem comma_ways (x : Sb) (n q : Int) : (decide (0 < x.pr) = false ∧ Aside0 (commaB x n q = false)) ∨ (decide (0 < x.pr) = true ∧ decide (q < n) = false ∧ Aside0 (commaB x n q = false)) ∨ (decide (0 < x.pr) = true ∧ decide (q < n) = true ∧ (q == x.pr) = true ∧ Aside0 (commaB x n q = true)) ∨ (decide (0 < x.pr) = true ∧ decide (q < n) = true ∧ (q == x.pr) = false ∧ decide (0 < x.se) = false ∧ Aside0 (commaB x n q = false)) ∨ (decide (0 < x.pr) = true ∧ decide (q < n) = true ∧ (q == x.pr) = false ∧ decide (0 < x.se) = true ∧ (q == x.pr + x.se) = false ∧ Aside0 (commaB x n q = false)) ∨ (decide (0 < x.pr) = true ∧ decide (q < n) = true ∧ (q == x.pr) = false ∧ decide (0 < x.se) = true ∧ (q == x.pr + x.se) = true ∧ Aside0 (commaB x n q = true)) := by
  rcases Bool.eq_false_or_eq_true (decide (0 < x.pr)) with t1 | t1
  case inr => exact .inl ⟨t1, ⟨by unfold commaB; rw [t1]; rfl⟩⟩
  rcases Bool.eq_false_or_eq_true (decide (q < n)) with t2 | t2
  case inr => exact .inr (.inl ⟨t1, t2, ⟨by unfold commaB; rw [t1, t2]; rfl⟩⟩)
  rcases Bool.eq_false_or_eq_true (q == x.pr) with t3 | t3
  case inl => exact .inr (.inr (.inl ⟨t1, t2, t3, ⟨by unfold commaB; rw [t1, t2, t3]; rfl⟩⟩))
  rcases Bool.eq_false_or_eq_true (decide (0 < x.se)) with t4 | t4
  case inr => exact .inr (.inr (.inr (.inl ⟨t1, t2, t3, t4, ⟨by unfold commaB; rw [t1, t2, t3, t4]; rfl⟩⟩)))
  rcases Bool.eq_false_or_eq_true (q == x.pr + x.se) with t5 | t5
  case inr => exact .inr (.inr (.inr (.inr (.inl ⟨t1, t2, t3, t4, t5, ⟨by unfold commaB; rw [t1, t2, t3, t4, t5]; rfl⟩⟩))))
  exact .inr (.inr (.inr (.inr (.inr ⟨t1, t2, t3, t4, t5, ⟨by unfold commaB; rw [t1, t2, t3, t4, t5]; rfl⟩⟩))))
set_option maxHeartbeats 16000000 in
set_option maxRecDepth 100000 in
theorem digits_walk (L : Sl) (x : Sb) (n : Int) (w : World) (hf : Fine x) (hn : leastS x ≤ n) (hn2 : n ≤ 200) : Calls Try.prog 54 #[subV L x, .int .i64 n] w fun e w' => e = .returned (.string ⟨(dDown x n n.toNat ++ fracL x ++ expL x).toArray⟩) ∧ Below w.heap.size w w' := by
  have hl0 : 1 ≤ leastS x := by unfold leastS mx; (repeat' split) <;> omega
  have HF := Aside0.mk hf
  have HN := Aside0.mk (show 1 ≤ n ∧ n ≤ 200 by omega)
  have HS := Aside0.mk (DS.start w L x)
  clear hf hn hn2 hl0
  go_enter Try.func54, Try.ntmps54
  go_wp2
  go_loopg [6] n.toNat (fun gk v6 wr => ∃ (q : Int) (bs : List UInt8), v6 = .int .i64 q ∧ Aside0 (q = gk) ∧ Aside0 (bs ++ dDown x n gk = dDown x n n.toNat) ∧ Aside0 (q ≤ n ∧ (bs.length : Int) ≤ 2 * (n - q)) ∧ Aside0 (DS w wr L x bs))
  case atStart => exact ⟨n, [], rfl, ⟨by have := HN.out; omega⟩, ⟨rfl⟩, ⟨by simp⟩, HS⟩
  case round =>
    clear HS
    obtain ⟨q, bs, rfl, HK, HA, HI, HQ⟩ := hrel
    obtain ⟨c2, c3, c4, c5, c6, c7, c8⟩ := HQ.out.cells
    cases gk with
    | zero =>
      have d0 : decide (0 < q) = false := decide_eq_false (by have := HK.out; omega)
      have HA0 := Aside0.mk (show bs = dDown x n n.toNat by have := HA.out; simpa [dDown] using this)
      have HL := Aside0.mk (show bs.length ≤ 400 by have := HI.out; have := HN.out; have := HK.out; omega)
      have hw : IntKind.i64.wrap (x.fx - x.fn) = x.fx - x.fn := IntWalk.i64_in _ (by obtain ⟨f1, f2, f3, f4, f5, f6, _, _, _, _, f7, f8, _⟩ := HF.out; omega)
      have hz1 : 1 + (repB 48 x.fn).size ≤ 9223372036854775807 := by rw [repB_size]; obtain ⟨f1, f2, f3, f4, f5, f6, _, _, _, _, f7, f8, _⟩ := HF.out; omega
      have hz2 : 1 + (repB 48 x.fn).size + (repB 35 (x.fx - x.fn)).size ≤ 9223372036854775807 := by rw [repB_size, repB_size]; obtain ⟨f1, f2, f3, f4, f5, f6, _, _, _, _, f7, f8, _⟩ := HF.out; omega
      have hz3 := eq_false (Nat.not_lt.2 hz1)
      have hz4 := eq_false (Nat.not_lt.2 hz2)
      rcases Bool.eq_false_or_eq_true (decide (0 < x.fx)) with t1 | t1
      all_goals rcases Bool.eq_false_or_eq_true (decide (0 < x.em)) with t2 | t2
      all_goals rcases Bool.eq_false_or_eq_true x.ep with t3 | t3
      all_goals
        go_wp2_with (first | (go_at_call 77; (with_reducible refine (write_any HQ.out _ ?s1).mono ?_); (case s1 => have := HL.out; simp only [List.length_append, List.length_cons, List.length_nil, List.length_replicate, ByteArray.data_append, Array.toList_append, repB_list, ByteArray.size_append, sz_one, repB_size]; (obtain ⟨f1, f2, f3, f4, f5, f6, _, _, _, _, f7, f8, _⟩ := HF.out; omega)); rintro e w1 ⟨rfl, hq⟩; have nq := Aside0.mk hq; clear hq HQ c2 c3 c4 c5 c6 c7 c8; have HQ := nq; clear nq; obtain ⟨c2, c3, c4, c5, c6, c7, c8⟩ := HQ.out.cells) | (go_at_call 76; (with_reducible refine (repeat1 _ _ _ ?r1 ?r2).mono ?_); (case r1 => (obtain ⟨f1, f2, f3, f4, f5, f6, _, _, _, _, f7, f8, _⟩ := HF.out; omega)); (case r2 => (obtain ⟨f1, f2, f3, f4, f5, f6, _, _, _, _, f7, f8, _⟩ := HF.out; omega)); rintro e w1 ⟨rfl, hb⟩; have nq := Aside0.mk ((aP47 : DS w _ L x _).step hb); clear hb HQ c2 c3 c4 c5 c6 c7 c8; have HQ := nq; clear nq; obtain ⟨c2, c3, c4, c5, c6, c7, c8⟩ := HQ.out.cells) | (go_at_call 78; (with_reducible refine (Try.Builder_String_any w.heap.size (w.heap.size + 1) _ _ HQ.out.bu (below_size HQ.out.below)).mono ?_); rintro e w4 ⟨rfl, hb4⟩; have HB4 := Aside0.mk (below_trans0 HQ.out.below hb4); clear hb4))
        (try (go_region_held3 (fun w' => w'.cell? ⟨w.heap.size, 3, none⟩ = some (.int .i64 x.fn) ∧ w'.cell? ⟨w.heap.size, 4, none⟩ = some (.int .i64 x.fx)) (first | exact ⟨HQ.out.cells.2.1, HQ.out.cells.2.2.1⟩) (first | (go_at_call 77; (with_reducible refine (write_any HQ.out _ ?s1).mono ?_); (case s1 => have := HL.out; simp only [List.length_append, List.length_cons, List.length_nil, List.length_replicate, ByteArray.data_append, Array.toList_append, repB_list, ByteArray.size_append, sz_one, repB_size]; (obtain ⟨f1, f2, f3, f4, f5, f6, _, _, _, _, f7, f8, _⟩ := HF.out; omega)); rintro e w1 ⟨rfl, hq⟩; have nq := Aside0.mk hq; clear hq HQ c2 c3 c4 c5 c6 c7 c8; have HQ := nq; clear nq; obtain ⟨c2, c3, c4, c5, c6, c7, c8⟩ := HQ.out.cells) | (go_at_call 76; (with_reducible refine (repeat1 _ _ _ ?r1 ?r2).mono ?_); (case r1 => (obtain ⟨f1, f2, f3, f4, f5, f6, _, _, _, _, f7, f8, _⟩ := HF.out; omega)); (case r2 => (obtain ⟨f1, f2, f3, f4, f5, f6, _, _, _, _, f7, f8, _⟩ := HF.out; omega)); rintro e w1 ⟨rfl, hb⟩; have nq := Aside0.mk ((aP47 : DS w _ L x _).step hb); clear hb HQ c2 c3 c4 c5 c6 c7 c8; have HQ := nq; clear nq; obtain ⟨c2, c3, c4, c5, c6, c7, c8⟩ := HQ.out.cells)); go_wp2_with (first | (go_at_call 77; (with_reducible refine (write_any HQ.out _ ?s1).mono ?_); (case s1 => have := HL.out; simp only [List.length_append, List.length_cons, List.length_nil, List.length_replicate, ByteArray.data_append, Array.toList_append, repB_list, ByteArray.size_append, sz_one, repB_size]; (obtain ⟨f1, f2, f3, f4, f5, f6, _, _, _, _, f7, f8, _⟩ := HF.out; omega)); rintro e w1 ⟨rfl, hq⟩; have nq := Aside0.mk hq; clear hq HQ c2 c3 c4 c5 c6 c7 c8; have HQ := nq; clear nq; obtain ⟨c2, c3, c4, c5, c6, c7, c8⟩ := HQ.out.cells) | (go_at_call 76; (with_reducible refine (repeat1 _ _ _ ?r1 ?r2).mono ?_); (case r1 => (obtain ⟨f1, f2, f3, f4, f5, f6, _, _, _, _, f7, f8, _⟩ := HF.out; omega)); (case r2 => (obtain ⟨f1, f2, f3, f4, f5, f6, _, _, _, _, f7, f8, _⟩ := HF.out; omega)); rintro e w1 ⟨rfl, hb⟩; have nq := Aside0.mk ((aP47 : DS w _ L x _).step hb); clear hb HQ c2 c3 c4 c5 c6 c7 c8; have HQ := nq; clear nq; obtain ⟨c2, c3, c4, c5, c6, c7, c8⟩ := HQ.out.cells) | (go_at_call 78; (with_reducible refine (Try.Builder_String_any w.heap.size (w.heap.size + 1) _ _ HQ.out.bu (below_size HQ.out.below)).mono ?_); rintro e w4 ⟨rfl, hb4⟩; have HB4 := Aside0.mk (below_trans0 HQ.out.below hb4); clear hb4))))
        go_ret
        refine ⟨?_, HB4.out⟩
        rw [← HA0.out]
        simp only [decide_eq_true_eq, decide_eq_false_iff_not] at t1 t2
        simp [fracL, expL, t1, t2, t3, repB_list]
    | succ k =>
      have d0 : decide (0 < q) = true := decide_eq_true (by have := HK.out; omega)
      have hq1 : 1 ≤ q := by have := HK.out; omega
      have hq2 : q ≤ 200 := by have := HI.out; have := HN.out; omega
      obtain ⟨i0, i1, _, _, _, _, p0, p1, s0, s1, _, _, _⟩ := HF.out
      have HT : ∀ b : Bool, decide (x.im < q) = b → Aside0 ((if x.im < q then (35 : UInt8) else 48) = if b = true then 35 else 48) := fun b h => ⟨by rw [← h]; simp⟩
      rcases comma_ways x n q with ⟨t1, HC⟩ | ⟨t1, t2, HC⟩ | ⟨t1, t2, t3, HC⟩ | ⟨t1, t2, t3, t4, HC⟩ | ⟨t1, t2, t3, t4, t5, HC⟩ | ⟨t1, t2, t3, t4, t5, HC⟩
      all_goals rcases Bool.eq_false_or_eq_true (decide (x.im < q)) with t6 | t6
      all_goals
        have HU := HT _ t6
        clear HT
        go_wp2_with (go_at_call 77; (with_reducible refine (write_any HQ.out _ ?s1).mono ?_); (case s1 => have := HI.out; have := HN.out; simp only [List.length_append, List.length_cons, List.length_nil, show (⟨#[44]⟩ : ByteArray).size = 1 from rfl, show (⟨#[35]⟩ : ByteArray).size = 1 from rfl, show (⟨#[48]⟩ : ByteArray).size = 1 from rfl]; omega); rintro e w1 ⟨rfl, hq⟩; have nq := Aside0.mk hq; clear hq HQ c2 c3 c4 c5 c6 c7 c8; have HQ := nq; clear nq; obtain ⟨c2, c3, c4, c5, c6, c7, c8⟩ := HQ.out.cells)
        go_roundg k
        case measure => omega
        case rel => exact ⟨q - 1, _, by first | (with_reducible rfl) | rfl, ⟨by have := HK.out; omega⟩, ⟨by have h_ := HA.out; simp only [dDown] at h_; rw [show ((k : Int) + 1) = q by have := HK.out; omega] at h_; rw [← h_]; unfold dstep; rw [HC.out, HU.out]; simp⟩, ⟨by have := HI.out; simp only [List.length_append, List.length_cons, List.length_nil]; omega⟩, HQ⟩
end Go.Proofs.Ytacnjemndfmbhaa.Q
end
section
namespace Go.Proofs.Ytacnjemndfmbhaa.Q
open Go.RowKit Go.Proofs.Ytacnjemndfmbhaa.A Go.Proofs.YtacnjemndfmbhaaW.PrintWords Go.Proofs.YtacnjemndfmbhaaW.PrintLast Go.Proofs.YtacnjemndfmbhaaW.PrintMore
set_option linter.unusedVariables false
theorem raw_step (im : Int) (hi lo : Nat) (h : lo ≤ hi) : rawD im ((hi : Int) + 1) lo = [if im < (hi : Int) + 1 then 35 else 48] ++ rawD im hi lo := by
  unfold rawD
  by_cases c : im < (hi : Int) + 1
  · rw [if_pos c]
    have e1 : ((hi : Int) + 1 - mx lo im).toNat = ((hi : Int) - mx lo im).toNat + 1 := by unfold mx; split <;> omega
    have e2 : mn ((hi : Int) + 1) im = mn (hi : Int) im := by unfold mn; (repeat' split) <;> omega
    rw [e1, e2, List.replicate_succ]; rfl
  · rw [if_neg c]
    have e1 : ((hi : Int) + 1 - mx lo im).toNat = 0 := by unfold mx; split <;> omega
    have e0 : ((hi : Int) - mx lo im).toNat = 0 := by unfold mx; split <;> omega
    have e2 : (mn ((hi : Int) + 1) im - lo).toNat = (mn (hi : Int) im - lo).toNat + 1 := by unfold mn; (repeat' split) <;> omega
    rw [e1, e0, e2, List.replicate_succ]; rfl
theorem raw_none (im : Int) (lo : Nat) (h : 0 ≤ im) : rawD im lo lo = [] := by
  unfold rawD
  have e1 : ((lo : Int) - mx lo im).toNat = 0 := by unfold mx; split <;> omega
  have e2 : (mn (lo : Int) im - lo).toNat = 0 := by unfold mn; split <;> omega
  rw [e1, e2]; rfl
theorem down_seg (x : Sb) (n : Int) (h0 : 0 ≤ x.im) (lo : Nat) : ∀ d : Nat, (∀ k : Int, lo < k → k ≤ lo + d → commaB x n k = false) → dDown x n (lo + d) = rawD x.im ((lo + d : Nat) : Int) lo ++ dDown x n lo
  | 0, _ => by rw [Nat.add_zero, raw_none _ _ h0]; rfl
  | d + 1, h => by
    have ih := down_seg x n h0 lo d (fun k h1 h2 => h k h1 (by omega))
    have hc := h (((lo + d : Nat) : Int) + 1) (by omega) (by omega)
    show dstep x n (((lo + d : Nat) : Int) + 1) ++ dDown x n (lo + d) = _
    have e : ((lo + (d + 1) : Nat) : Int) = ((lo + d : Nat) : Int) + 1 := by omega
    rw [e, raw_step _ _ _ (by omega), ih]
    unfold dstep
    rw [hc]
    simp
theorem down_comma (x : Sb) (n : Int) (h0 : 0 ≤ x.im) (lo d : Nat) (hc : commaB x n ((lo + d : Nat) + 1) = true) (h : ∀ k : Int, lo < k → k ≤ lo + d → commaB x n k = false) : dDown x n (lo + d + 1) = [44] ++ rawD x.im ((lo + d + 1 : Nat) : Int) lo ++ dDown x n lo := by
  have ih := down_seg x n h0 lo d h
  show dstep x n (((lo + d : Nat) : Int) + 1) ++ dDown x n (lo + d) = _
  have e : ((lo + d + 1 : Nat) : Int) = ((lo + d : Nat) : Int) + 1 := by omega
  rw [e, raw_step _ _ _ (by omega), ih]
  unfold dstep
  rw [hc]
  simp
theorem comma_no {x : Sb} {n k : Int} (h : ¬ (0 < x.pr ∧ k < n ∧ (k = x.pr ∨ (0 < x.se ∧ k = x.pr + x.se)))) : commaB x n k = false := by
  rw [Bool.eq_false_iff]
  intro c
  apply h
  simpa [commaB] using c
theorem comma_yes {x : Sb} {n k : Int} (h : 0 < x.pr ∧ k < n ∧ (k = x.pr ∨ (0 < x.se ∧ k = x.pr + x.se))) : commaB x n k = true := by
  simpa [commaB] using h
theorem down_places (x : Sb) (n : Int) (hf : Fine x) (hn : leastS x ≤ n) : dDown x n n.toNat = placesL x n := by
  obtain ⟨i0, i1, _, _, _, _, p0, p1, s0, s1, _, _, ps⟩ := hf
  have hl : 1 ≤ n ∧ (0 < x.pr → x.pr + x.se + 1 ≤ n) := by unfold leastS mx at hn; split at hn <;> split at hn <;> (try split at hn) <;> omega
  obtain ⟨N, rfl⟩ : ∃ N : Nat, n = N := ⟨n.toNat, by omega⟩
  obtain ⟨P, hP⟩ : ∃ P : Nat, x.pr = P := ⟨x.pr.toNat, by omega⟩
  obtain ⟨S, hS⟩ : ∃ S : Nat, x.se = S := ⟨x.se.toNat, by omega⟩
  rw [Int.toNat_natCast]
  unfold placesL
  by_cases hp : 0 < x.pr
  · have hn1 := hl.2 hp
    have hlow : dDown x N P = [44] ++ rawD x.im x.pr 0 := by
      have := down_comma x N i0 0 (P - 1) (comma_yes ⟨hp, by omega, .inl (by omega)⟩) (fun k h1 h2 => comma_no (by omega))
      rw [show 0 + (P - 1) + 1 = P by omega, show dDown x N 0 = [] from rfl, List.append_nil] at this
      rw [this, hP]; rfl
    rw [if_pos hp]
    by_cases hs : 0 < x.se
    · rw [if_pos hs]
      have hmid : dDown x N (P + S) = [44] ++ rawD x.im (x.pr + x.se) x.pr ++ dDown x N P := by
        have := down_comma x N i0 P (S - 1) (comma_yes ⟨hp, by omega, .inr ⟨hs, by omega⟩⟩) (fun k h1 h2 => comma_no (by omega))
        rw [show P + (S - 1) + 1 = P + S by omega] at this
        rw [this, hP, hS]; rfl
      have htop := down_seg x N i0 (P + S) (N - (P + S)) (fun k h1 h2 => comma_no (by omega))
      rw [show P + S + (N - (P + S)) = N by omega] at htop
      rw [htop, hmid, hlow, hP, hS]
      simp [Int.natCast_add]
    · rw [if_neg hs]
      have htop := down_seg x N i0 P (N - P) (fun k h1 h2 => comma_no (by omega))
      rw [show P + (N - P) = N by omega] at htop
      rw [htop, hlow, hP]
      simp
  · rw [if_neg hp]
    have htop := down_seg x N i0 0 N (fun k h1 h2 => comma_no (by omega))
    rw [Nat.zero_add, show dDown x N 0 = [] from rfl, List.append_nil] at htop
    rw [htop]; rfl
theorem digits_calls (L : Sl) (x : Sb) (n : Int) (w : World) (hf : Fine x) (hn : leastS x ≤ n) (hn2 : n ≤ 200) : Calls Try.prog 54 #[subV L x, .int .i64 n] w fun e w' => e = .returned (.string (digS x n)) ∧ Below w.heap.size w w' := by
  have := digits_walk L x n w hf hn hn2
  rw [down_places x n hf hn] at this
  exact this
theorem dig_size (x : Sb) (n : Int) (hf : Fine x) (hn : leastS x ≤ n) (hn2 : n ≤ 200) : (digS x n).size = (digL x n).length ∧ (digL x n).length ≤ 300 := by
  refine ⟨by show (digL x n).toArray.size = _; simp, ?_⟩
  obtain ⟨i0, i1, a1, a2, a3, a4, p0, p1, s0, s1, e0, e1, ps⟩ := hf
  have hl : 1 ≤ n ∧ (0 < x.pr → x.pr + x.se + 1 ≤ n) := by unfold leastS mx at hn; split at hn <;> split at hn <;> (try split at hn) <;> omega
  have h1 : (placesL x n).length ≤ 202 := by
    unfold placesL
    split
    · split
      · have r1 := raw_len x.im n (x.pr + x.se) i0 (by omega) (by omega)
        have r2 := raw_len x.im (x.pr + x.se) x.pr i0 (by omega) (by omega)
        have r3 := raw_len x.im x.pr 0 i0 (by omega) (by omega)
        simp only [List.length_append, List.length_cons, List.length_nil]
        omega
      · have r1 := raw_len x.im n x.pr i0 (by omega) (by omega)
        have r3 := raw_len x.im x.pr 0 i0 (by omega) (by omega)
        simp only [List.length_append, List.length_cons, List.length_nil]
        omega
    · have r1 := raw_len x.im n 0 i0 (by omega) (by omega)
      omega
  have h2 : (fracL x).length ≤ 33 := by unfold fracL; split <;> simp <;> omega
  have h3 : (expL x).length ≤ 11 := by unfold expL; split <;> (try split) <;> simp <;> omega
  unfold digL
  simp only [List.length_append]
  omega
end Go.Proofs.Ytacnjemndfmbhaa.Q
end
section
namespace Go.Proofs.Ytacnjemndfmbhaa.Q
open Go.RowKit Go.Proofs.Ytacnjemndfmbhaa.A Go.Proofs.YtacnjemndfmbhaaW.PrintWords Go.Proofs.YtacnjemndfmbhaaW.PrintLast Go.Proofs.YtacnjemndfmbhaaW.PrintMore
attribute [local go_sem] max2_int min2_int max_two min_two max_three min_three max_four min_four
set_option linter.unusedVariables false
set_option linter.unusedSimpArgs false
@[reducible] def subAt (w : World) (g : Nat) (L : Sl) (x : Sb) : Prop := w.cell? ⟨g, 0, none⟩ = some (.slice L.A x.p.length L.c) ∧ w.cell? ⟨g, 1, none⟩ = some (.slice L.B x.s.length L.d) ∧ w.cell? ⟨g, 2, none⟩ = some (.int .i64 x.im) ∧ w.cell? ⟨g, 3, none⟩ = some (.int .i64 x.fn) ∧ w.cell? ⟨g, 4, none⟩ = some (.int .i64 x.fx) ∧ w.cell? ⟨g, 5, none⟩ = some (.int .i64 x.pr) ∧ w.cell? ⟨g, 6, none⟩ = some (.int .i64 x.se) ∧ w.cell? ⟨g, 7, none⟩ = some (.int .i64 x.em) ∧ w.cell? ⟨g, 8, none⟩ = some (.bool x.ep) ∧ w.cell? ⟨g, 9, none⟩ = some (.string x.pad) ∧ w.cell? ⟨g, 10, none⟩ = some (.int .i64 x.pa) ∧ w.cell? ⟨g, 11, none⟩ = some (.int .i64 x.wd)
theorem sub_at {w : World} {g : Nat} {L : Sl} {x : Sb} (h : w.heap[g]? = some (.cells (subC L x) 24 (0, 0))) : subAt w g L x :=
  ⟨(blk_cell h 0).trans rfl, (blk_cell h 1).trans rfl, (blk_cell h 2).trans rfl, (blk_cell h 3).trans rfl, (blk_cell h 4).trans rfl, (blk_cell h 5).trans rfl, (blk_cell h 6).trans rfl, (blk_cell h 7).trans rfl, (blk_cell h 8).trans rfl, (blk_cell h 9).trans rfl, (blk_cell h 10).trans rfl, (blk_cell h 11).trans rfl⟩
set_option maxHeartbeats 8000000 in
set_option maxRecDepth 100000 in
theorem length_calls (L : Sl) (x : Sb) (n : Int) (w : World) (hr : SubR w L x) (h1 : TokOk x.p) (h2 : TokOk x.s) (k1 : checkS x.p = 0) (k2 : checkS x.s = 0) (hf : Fine x) (hn : leastS x ≤ n) (hn2 : n ≤ 200) :
    Calls Try.prog 36 #[subV L x, .int .i64 n] w fun e w' => e = .returned (.int .i64 (lengthS x n)) ∧ Below w.heap.size w w' := by
  have HR := Aside0.mk hr
  have H1 := Aside0.mk (And.intro h1 k1)
  have H2 := Aside0.mk (And.intro h2 k2)
  have HF := Aside0.mk hf
  have HN := Aside0.mk (And.intro hn hn2)
  have HS := Aside0.mk (dig_size x n hf hn hn2)
  have HL := Aside0.mk (And.intro (runesT_range x.p k1 h1) (runesT_range x.s k2 h2))
  have hw1 : IntKind.i64.wrap (runesT x.p + ((digS x n).size : Int)) = runesT x.p + ((digL x n).length : Int) := by rw [HS.out.1]; exact IntWalk.i64_in _ (by have := HS.out.2; have := HL.out; omega)
  have hw2 : IntKind.i64.wrap (runesT x.p + ((digL x n).length : Int) + runesT x.s) = lengthS x n := IntWalk.i64_in _ (by have := HS.out.2; have := HL.out; omega)
  have HB := Aside0.mk (Below.refl w.heap.size w)
  clear hr h1 h2 k1 k2 hf hn hn2
  have HK := Aside0.mk (heap_alloc_new w (.cells (subC L x) 24))
  have HX := Aside0.mk (below_alloc (Below.refl w.heap.size w) (.cells (subC L x) 24))
  go_enter Try.func36, Try.ntmps36
  go_wp2_with fail
  go_region_held3 (fun w' => w'.cell? ⟨w.heap.size, 0, none⟩ = some (.slice L.A x.p.length L.c) ∧ w'.cell? ⟨w.heap.size, 1, none⟩ = some (.slice L.B x.s.length L.d) ∧ w'.cell? ⟨w.heap.size, 2, none⟩ = some (.int .i64 x.im) ∧ w'.cell? ⟨w.heap.size, 3, none⟩ = some (.int .i64 x.fn) ∧ w'.cell? ⟨w.heap.size, 4, none⟩ = some (.int .i64 x.fx) ∧ w'.cell? ⟨w.heap.size, 5, none⟩ = some (.int .i64 x.pr) ∧ w'.cell? ⟨w.heap.size, 6, none⟩ = some (.int .i64 x.se) ∧ w'.cell? ⟨w.heap.size, 7, none⟩ = some (.int .i64 x.em) ∧ w'.cell? ⟨w.heap.size, 8, none⟩ = some (.bool x.ep) ∧ w'.cell? ⟨w.heap.size, 9, none⟩ = some (.string x.pad) ∧ w'.cell? ⟨w.heap.size, 10, none⟩ = some (.int .i64 x.pa) ∧ w'.cell? ⟨w.heap.size, 11, none⟩ = some (.int .i64 x.wd))
    (first | exact sub_at HK.out)
    (first
      | (go_at_call 46; (with_reducible refine (truns_calls L.A L.c x.p _ ?a1 HR.out.pc H1.out.1 H1.out.2).mono ?_); (case a1 => exact Kd.C_below HR.out.p (aP48)); rintro e w1 ⟨rfl, hb⟩; have nk := Aside0.mk (blk_below (aP49) hb); have nx := Aside0.mk (below_step (aP48) hb); clear HK HX hb; have HK := nk; have HX := nx; clear nk nx)
      | (go_at_call 46; (with_reducible refine (truns_calls L.B L.d x.s _ ?a1 HR.out.sc H2.out.1 H2.out.2).mono ?_); (case a1 => exact Kd.C_below HR.out.s (aP48)); rintro e w1 ⟨rfl, hb⟩; have nk := Aside0.mk (blk_below (aP49) hb); have nx := Aside0.mk (below_step (aP48) hb); clear HK HX hb; have HK := nk; have HX := nx; clear nk nx)
      | (go_at_call 54; (with_reducible refine (digits_calls L x n _ HF.out HN.out.1 HN.out.2).mono ?_); rintro e w1 ⟨rfl, hb⟩; have nk := Aside0.mk (blk_below (aP49) hb); have nx := Aside0.mk (below_step (aP48) hb); clear HK HX hb; have HK := nk; have HX := nx; clear nk nx))
  go_wp2
  go_ret
  exact ⟨rfl, HX.out⟩
set_option maxHeartbeats 8000000 in
set_option maxRecDepth 100000 in
theorem least_calls (L : Sl) (x : Sb) (w : World) (hf : Fine x) : Calls Try.prog 37 #[subV L x] w fun e w' => e = .returned (.int .i64 (leastS x)) ∧ Below w.heap.size w w' := by
  obtain ⟨i0, i1, _, _, _, _, p0, p1, s0, s1, _, _, _⟩ := hf
  by_cases h1 : 1 < x.im
  all_goals by_cases h2 : 0 < x.pr
  all_goals by_cases h3 : 1 < x.pr + x.se + 1
  all_goals by_cases h4 : x.im < x.pr + x.se + 1
  all_goals first | omega | skip
  all_goals
    go_enter Try.func37, Try.ntmps37
    go_wp2
    go_ret
    exact ⟨ret_int (by unfold leastS mx; (repeat' split) <;> omega), below_alloc (Below.refl _ _) _⟩
end Go.Proofs.Ytacnjemndfmbhaa.Q
end
section
namespace Go.Proofs.Ytacnjemndfmbhaa.Q
open Go.RowKit Go.Proofs.Ytacnjemndfmbhaa.A Go.Proofs.YtacnjemndfmbhaaW.PrintWords Go.Proofs.YtacnjemndfmbhaaW.PrintLast Go.Proofs.YtacnjemndfmbhaaW.PrintMore
set_option linter.unusedVariables false
set_option linter.unusedSimpArgs false
structure HW (w0 w : World) (L : Sl) (x : Sb) : Prop where
  box : w.heap[w0.heap.size]? = some (.cells (subC L x) 24 (0, 0))
  below : Below w0.heap.size w0 w
theorem HW.start (w : World) (L : Sl) (x : Sb) : HW w (w.alloc (.cells (subC L x) 24)) L x := ⟨heap_alloc_new w _, below_alloc (Below.refl _ _) _⟩
theorem HW.step {w0 w w1 : World} {L : Sl} {x : Sb} (h : HW w0 w L x) (hb : Below w.heap.size w w1) : HW w0 w1 L x := ⟨blk_below h.box hb, below_step h.below hb⟩
theorem HW.drew1 {w0 w : World} {L : Sl} {x : Sb} (h : HW w0 w L x) : HW w0 w.drew L x := h.step (below_drew1 (Below.refl _ _))
theorem HW.drewN {w0 w : World} {L : Sl} {x : Sb} (h : HW w0 w L x) (n : Nat) : HW w0 (w.drewN n) L x := h.step (pw_below_drewN (Below.refl _ _) n)
structure SubOk (w : World) (L : Sl) (x : Sb) : Prop where
  r : SubR w L x
  p : TokOk x.p
  s : TokOk x.s
  pad : x.pad.size ≤ 281474976710656
theorem SubOk.below {w w1 : World} {L : Sl} {x : Sb} (h : SubOk w L x) (hb : Below w.heap.size w w1) : SubOk w1 L x := ⟨h.r.below hb, h.p, h.s, h.pad⟩
theorem fine_of {x : Sb} (h : fineB x = true) (ho : oddB x = false) : Fine x := by
  simp [fineB, inB] at h
  simp [oddB] at ho
  obtain ⟨h1, h2, h3, h4, h5, h6⟩ := h
  exact ⟨h1.1, h1.2, h2.1, h2.2, h3.1, h3.2, h4.1, h4.2, h5.1, h5.2, h6.1, h6.2, fun e => by have := ho.1 e; omega⟩
theorem neq_of {a : Int} {b : Bool} (h : (a == 0) = b) : (a != 0) = !b := by rw [← h]; rfl
theorem pos_of {a c : Int} (h : inB a 0 c = true) : decide (0 < a) = !(a == 0) := by
  simp [inB] at h
  by_cases e : a = 0
  · subst e; rfl
  · rw [decide_eq_true (by omega), beq_eq_false_iff_ne.mpr e]; rfl
theorem least_le {x : Sb} (h : Fine x) : leastS x ≤ 200 := by
  obtain ⟨i0, i1, _, _, _, _, p0, p1, s0, s1, _, _, _⟩ := h
  unfold leastS mx
  (repeat' split) <;> omega
set_option maxHeartbeats 16000000 in
set_option maxRecDepth 100000 in
theorem half_calls (L : Sl) (x : Sb) (w : World) (hr : SubOk w L x) : Calls Try.prog 23 #[subV L x] w fun e w' => e = .returned (.bool (halfS x)) ∧ Below w.heap.size w w' := by
  have HR := Aside0.mk hr
  have HQ := Aside0.mk (HW.start w L x)
  clear hr
  rcases Bool.eq_false_or_eq_true (checkS x.p == 0) with k1 | k1
  case inr =>
    have k1' := neq_of k1
    have HE := Aside0.mk (show halfS x = false by simp [halfS, k1])
    go_enter Try.func23, Try.ntmps23
    go_wp2_with (go_at_call 33; (with_reducible refine (check_calls L.A L.c x.p _ (Kd.C_below HR.out.r.p HQ.out.below) HR.out.r.pc HR.out.p).mono ?_); rintro e w1 ⟨rfl, hb⟩; have nq := Aside0.mk (HQ.out.step hb); clear HQ hb; have HQ := nq; clear nq; obtain ⟨c0, c1, c2, c3, c4, c5, c6, c7, c8, c9, c10, c11⟩ := sub_at HQ.out.box)
    go_ret
    exact ⟨ret_bool HE.out.symm, HQ.out.below⟩
  have k1' := neq_of k1
  rcases Bool.eq_false_or_eq_true (checkS x.s == 0) with k2 | k2
  case inr =>
    have k2' := neq_of k2
    have HE := Aside0.mk (show halfS x = false by simp [halfS, k2])
    go_enter Try.func23, Try.ntmps23
    go_wp2_with (first | (go_at_call 33; (with_reducible refine (check_calls L.A L.c x.p _ (Kd.C_below HR.out.r.p HQ.out.below) HR.out.r.pc HR.out.p).mono ?_); rintro e w1 ⟨rfl, hb⟩; have nq := Aside0.mk (HQ.out.step hb); clear HQ hb; have HQ := nq; clear nq; obtain ⟨c0, c1, c2, c3, c4, c5, c6, c7, c8, c9, c10, c11⟩ := sub_at HQ.out.box) | (go_at_call 33; (with_reducible refine (check_calls L.B L.d x.s _ (Kd.C_below HR.out.r.s HQ.out.below) HR.out.r.sc HR.out.s).mono ?_); rintro e w1 ⟨rfl, hb⟩; have nq := Aside0.mk (HQ.out.step hb); clear HQ hb; have HQ := nq; clear nq; obtain ⟨c0, c1, c2, c3, c4, c5, c6, c7, c8, c9, c10, c11⟩ := sub_at HQ.out.box))
    go_ret
    exact ⟨ret_bool HE.out.symm, HQ.out.below⟩
  have k2' := neq_of k2
  rcases Bool.eq_false_or_eq_true (inB x.im 0 32) with f0 | f0
  case inr =>
    have HE := Aside0.mk (show halfS x = false by simp [halfS, fineB, f0])
    exact aP18
  rcases Bool.eq_false_or_eq_true (inB x.fx 0 32) with f1 | f1
  case inr =>
    have HE := Aside0.mk (show halfS x = false by simp [halfS, fineB, f1])
    exact aP18
  rcases Bool.eq_false_or_eq_true (inB x.fn 0 x.fx) with f2 | f2
  case inr =>
    have HE := Aside0.mk (show halfS x = false by simp [halfS, fineB, f2])
    exact aP18
  rcases Bool.eq_false_or_eq_true (inB x.pr 0 16) with f3 | f3
  case inr =>
    have HE := Aside0.mk (show halfS x = false by simp [halfS, fineB, f3])
    exact aP18
  rcases Bool.eq_false_or_eq_true (inB x.se 0 16) with f4 | f4
  case inr =>
    have HE := Aside0.mk (show halfS x = false by simp [halfS, fineB, f4])
    exact aP18
  rcases Bool.eq_false_or_eq_true (inB x.em 0 9) with f5 | f5
  case inr =>
    have HE := Aside0.mk (show halfS x = false by simp [halfS, fineB, f5])
    exact aP18
  have HF := Aside0.mk (show fineB x = true by simp [fineB, *])
  have HE := Aside0.mk (show halfS x = (!oddB x && padB x) by simp [halfS, HF.out, k1, k2])
  go_enter Try.func23, Try.ntmps23
  go_upto_region 5 with (first | (go_at_call 33; (with_reducible refine (check_calls L.A L.c x.p _ (Kd.C_below HR.out.r.p HQ.out.below) HR.out.r.pc HR.out.p).mono ?_); rintro e w1 ⟨rfl, hb⟩; have nq := Aside0.mk (HQ.out.step hb); clear HQ hb; have HQ := nq; clear nq; obtain ⟨c0, c1, c2, c3, c4, c5, c6, c7, c8, c9, c10, c11⟩ := sub_at HQ.out.box) | (go_at_call 33; (with_reducible refine (check_calls L.B L.d x.s _ (Kd.C_below HR.out.r.s HQ.out.below) HR.out.r.sc HR.out.s).mono ?_); rintro e w1 ⟨rfl, hb⟩; have nq := Aside0.mk (HQ.out.step hb); clear HQ hb; have HQ := nq; clear nq; obtain ⟨c0, c1, c2, c3, c4, c5, c6, c7, c8, c9, c10, c11⟩ := sub_at HQ.out.box) | (go_at_call 34; (with_reducible refine (in_calls _ _ _ _).mono ?_); rintro e w1 ⟨rfl, rfl⟩))
  go_cut [75] (fun v wc => v = .bool (oddB x) ∧ Aside0 (HW w wc L x))
  case first =>
    have hp := pos_of f3
    have he := pos_of f5
    clear f0 f1 f2 f3 f4 f5 k1 k1' k2 k2'
    rcases Bool.eq_false_or_eq_true (x.pr == 0) with t1 | t1
    all_goals rcases Bool.eq_false_or_eq_true (decide (0 < x.se)) with t2 | t2
    all_goals rcases Bool.eq_false_or_eq_true (x.em == 0) with t3 | t3
    all_goals rcases Bool.eq_false_or_eq_true x.ep with t4 | t4
    all_goals
      rw [t1] at hp
      rw [t3] at he
      go_wp2
      go_meet
      case rel => exact ⟨by simp [oddB, t1, t2, t3, t4, hp, he], HQ⟩
  case rest =>
    obtain ⟨rfl, HQ'⟩ := hcut
    clear HQ c0 c1 c2 c3 c4 c5 c6 c7 c8 c9 c10 c11
    have HQ := HQ'
    clear HQ'
    obtain ⟨c0, c1, c2, c3, c4, c5, c6, c7, c8, c9, c10, c11⟩ := sub_at HQ.out.box
    have HK := Aside0.mk (And.intro (beq_iff_eq.mp k1) (beq_iff_eq.mp k2))
    clear f0 f1 f2 f3 f4 f5 k1 k1' k2 k2'
    rcases Bool.eq_false_or_eq_true (oddB x) with o1 | o1
    case inl =>
      rw [o1]
      go_wp2
      go_ret
      exact ⟨ret_bool (by rw [HE.out, o1]; rfl), HQ.out.below⟩
    rw [o1]
    have HFI := Aside0.mk (fine_of HF.out o1)
    have HE2 := Aside0.mk (show halfS x = padB x by rw [HE.out, o1]; rfl)
    have HLE := Aside0.mk (least_le HFI.out)
    clear HE
    rcases Bool.eq_false_or_eq_true x.pad.toList.isEmpty with p1 | p1
    case inl =>
      have HP := Aside0.mk (show padB x = (x.pa == 0 && x.wd == 0) by unfold padB; rw [if_pos p1])
      rcases Bool.eq_false_or_eq_true (x.pa == 0) with p2 | p2
      all_goals
        go_wp2
        go_ret
        exact ⟨ret_bool (by rw [HE2.out, HP.out, p2]; simp), HQ.out.below⟩
    have HP := Aside0.mk (show padB x = (runesS x.pad == 1 && (inB x.pa 0 3 && (!edgeB x && inB x.wd (lengthS x (leastS x)) 99))) by unfold padB; rw [if_neg (by rw [p1]; decide)])
    rcases Bool.eq_false_or_eq_true (runesS x.pad == 1) with p2 | p2
    case inr =>
      have p2' : (runesS x.pad != 1) = true := by rw [bne, p2]; rfl
      go_wp2_with (first | (go_at_call 35; (with_reducible refine (runes_calls x.pad _ HR.out.pad).mono ?_); rintro e w1 ⟨rfl, hb⟩; have nq := Aside0.mk (HQ.out.step hb); clear HQ hb; have HQ := nq; clear nq; obtain ⟨c0, c1, c2, c3, c4, c5, c6, c7, c8, c9, c10, c11⟩ := sub_at HQ.out.box))
      go_ret
      exact ⟨ret_bool (by rw [HE2.out, HP.out, p2]; rfl), HQ.out.below⟩
    have p2' : (runesS x.pad != 1) = false := by rw [bne, p2]; rfl
    rcases Bool.eq_false_or_eq_true (inB x.pa 0 3) with p3 | p3
    case inr =>
      go_wp2_with (first | (go_at_call 35; (with_reducible refine (runes_calls x.pad _ HR.out.pad).mono ?_); rintro e w1 ⟨rfl, hb⟩; have nq := Aside0.mk (HQ.out.step hb); clear HQ hb; have HQ := nq; clear nq; obtain ⟨c0, c1, c2, c3, c4, c5, c6, c7, c8, c9, c10, c11⟩ := sub_at HQ.out.box) | (go_at_call 34; (with_reducible refine (in_calls _ _ _ _).mono ?_); rintro e w1 ⟨rfl, rfl⟩))
      go_ret
      exact ⟨ret_bool (by rw [HE2.out, HP.out, p2, p3]; rfl), HQ.out.below⟩
    have HE3 := Aside0.mk (show halfS x = (!edgeB x && inB x.wd (lengthS x (leastS x)) 99) by rw [HE2.out, HP.out, p2, p3]; rfl)
    clear HE2 HP
    go_upto_region 11 with (first | (go_at_call 35; (with_reducible refine (runes_calls x.pad _ HR.out.pad).mono ?_); rintro e w1 ⟨rfl, hb⟩; have nq := Aside0.mk (HQ.out.step hb); clear HQ hb; have HQ := nq; clear nq; obtain ⟨c0, c1, c2, c3, c4, c5, c6, c7, c8, c9, c10, c11⟩ := sub_at HQ.out.box) | (go_at_call 34; (with_reducible refine (in_calls _ _ _ _).mono ?_); rintro e w1 ⟨rfl, rfl⟩))
    go_cut [116] (fun v wc => v = .bool (edgeB x) ∧ Aside0 (HW w wc L x))
    case first =>
      have e1 := int_len x.p.length
      have e2 := int_len x.s.length
      rcases Bool.eq_false_or_eq_true (x.pa == 1) with t1 | t1
      all_goals rcases Bool.eq_false_or_eq_true (x.p.length == 0) with t2 | t2
      all_goals rcases Bool.eq_false_or_eq_true (x.pa == 3) with t3 | t3
      all_goals rcases Bool.eq_false_or_eq_true (x.s.length == 0) with t4 | t4
      all_goals
        go_wp2
        go_meet
        case rel => exact ⟨by simp [edgeB, t1, t2, t3, t4], HQ⟩
    case rest =>
      obtain ⟨rfl, HQ'⟩ := hcut
      clear HQ c0 c1 c2 c3 c4 c5 c6 c7 c8 c9 c10 c11
      have HQ := HQ'
      clear HQ'
      rcases Bool.eq_false_or_eq_true (edgeB x) with o2 | o2
      case inl =>
        rw [o2]
        go_wp2
        go_ret
        exact ⟨ret_bool (by rw [HE3.out, o2]; rfl), HQ.out.below⟩
      rw [o2]
      go_wp2_with fail
      go_region_held3 (fun w' => w'.cell? ⟨w.heap.size, 0, none⟩ = some (.slice L.A x.p.length L.c) ∧ w'.cell? ⟨w.heap.size, 1, none⟩ = some (.slice L.B x.s.length L.d) ∧ w'.cell? ⟨w.heap.size, 2, none⟩ = some (.int .i64 x.im) ∧ w'.cell? ⟨w.heap.size, 3, none⟩ = some (.int .i64 x.fn) ∧ w'.cell? ⟨w.heap.size, 4, none⟩ = some (.int .i64 x.fx) ∧ w'.cell? ⟨w.heap.size, 5, none⟩ = some (.int .i64 x.pr) ∧ w'.cell? ⟨w.heap.size, 6, none⟩ = some (.int .i64 x.se) ∧ w'.cell? ⟨w.heap.size, 7, none⟩ = some (.int .i64 x.em) ∧ w'.cell? ⟨w.heap.size, 8, none⟩ = some (.bool x.ep) ∧ w'.cell? ⟨w.heap.size, 9, none⟩ = some (.string x.pad) ∧ w'.cell? ⟨w.heap.size, 10, none⟩ = some (.int .i64 x.pa) ∧ w'.cell? ⟨w.heap.size, 11, none⟩ = some (.int .i64 x.wd))
        (first | exact sub_at HQ.out.box)
        (first | (go_at_call 37; (with_reducible refine (least_calls L x _ HFI.out).mono ?_); rintro e w1 ⟨rfl, hb⟩; have nq := Aside0.mk ((aP47 : HW w _ L x).step hb); clear HQ hb; have HQ := nq; clear nq) | (go_at_call 36; (with_reducible refine (length_calls L x _ _ (HR.out.r.below (by first | exact HQ.out.below | exact HQ.out.drew1.below | exact (HQ.out.drewN _).below)) HR.out.p HR.out.s HK.out.1 HK.out.2 HFI.out (Int.le_refl _) HLE.out).mono ?_); rintro e w1 ⟨rfl, hb⟩; have nq := Aside0.mk ((aP47 : HW w _ L x).step hb); clear HQ hb; have HQ := nq; clear nq) | (go_at_call 34; (with_reducible refine (in_calls _ _ _ _).mono ?_); rintro e w1 ⟨rfl, rfl⟩))
      go_wp2
      go_ret
      exact ⟨ret_bool (by rw [HE3.out, o2]; rfl), HQ.out.below⟩
structure Good (x : Sb) : Prop where
  cp : checkS x.p = 0
  cs : checkS x.s = 0
  fine : Fine x
  pa0 : 0 ≤ x.pa
  pa1 : x.pa ≤ 3
  wide0 : leastS x ≤ wideS x
  wide1 : wideS x ≤ 200
  len0 : 0 ≤ lengthS x (leastS x)
  len1 : x.pad.toList.isEmpty = false → lengthS x (leastS x) ≤ x.wd ∧ x.wd ≤ 99 ∧ runesS x.pad = 1 ∧ edgeB x = false
  bare : x.pad.toList.isEmpty = true → x.pa = 0 ∧ x.wd = 0
theorem good_of {x : Sb} (h1 : TokOk x.p) (h2 : TokOk x.s) (h : halfS x = true) : Good x := by
  unfold halfS at h
  simp only [Bool.and_eq_true, beq_iff_eq, Bool.not_eq_true'] at h
  obtain ⟨k1, k2, hf, ho, hp⟩ := h
  have hF := fine_of hf ho
  have r1 := runesT_range x.p k1 h1
  have r2 := runesT_range x.s k2 h2
  have hl := least_le hF
  have l0 : 0 ≤ lengthS x (leastS x) := by unfold lengthS; omega
  have l1 : leastS x ≤ 100 := by
    obtain ⟨i0, i1, _, _, _, _, p0, p1, s0, s1, _, _, _⟩ := hF
    unfold leastS mx
    (repeat' split) <;> omega
  unfold padB at hp
  by_cases hc : x.pad.toList.isEmpty = true
  · rw [if_pos hc] at hp
    simp only [Bool.and_eq_true, beq_iff_eq] at hp
    have hw : wideS x = leastS x := by unfold wideS; rw [if_pos hc]
    exact ⟨k1, k2, hF, by omega, by omega, by omega, by omega, l0, fun e => by rw [hc] at e; exact absurd e (by decide), fun _ => hp⟩
  · rw [if_neg hc] at hp
    simp only [Bool.and_eq_true, beq_iff_eq, inB, decide_eq_true_eq, Bool.not_eq_true'] at hp
    obtain ⟨q1, ⟨q2, q3⟩, q4, q5, q6⟩ := hp
    have hw : wideS x = leastS x + (x.wd - lengthS x (leastS x)) := by unfold wideS; rw [if_neg hc]
    exact ⟨k1, k2, hF, by omega, by omega, by omega, by omega, l0, fun _ => ⟨q5, q6, q1, q4⟩, fun e => absurd e hc⟩
@[reducible] def fillC (x : Sb) : Array Value := #[.string (fillS x 0), .string (fillS x 1), .string (fillS x 2), .string (fillS x 3)]
theorem HW.alloc {w0 w : World} {L : Sl} {x : Sb} (h : HW w0 w L x) (o : Obj) : HW w0 (w.alloc o) L x := h.step (below_alloc (Below.refl _ _) o)
theorem ne_empty {s : ByteArray} {b : Bool} (h : s.toList.isEmpty = b) : (s.toList != ([] : List UInt8)) = !b := by
  rw [← h]; cases s.toList <;> rfl
theorem fill_bare {x : Sb} (h : x.pad.toList.isEmpty = true) (k : Int) : fillS x k = ⟨#[]⟩ := by unfold fillS; rw [if_pos h]
theorem four_at (x : Sb) (h0 : 0 ≤ x.pa) (h1 : x.pa ≤ 3) : ([.string ⟨#[]⟩, .string ⟨#[]⟩, .string ⟨#[]⟩, .string ⟨#[]⟩] : List Value)[x.pa.toNat]? = some (.string ⟨#[]⟩) := by
  have : x.pa = 0 ∨ x.pa = 1 ∨ x.pa = 2 ∨ x.pa = 3 := by omega
  rcases this with e | e | e | e <;> rw [e] <;> rfl
theorem fill_put {x : Sb} (h : x.pad.toList.isEmpty = false) (h0 : 0 ≤ x.pa) (h1 : x.pa ≤ 3) : (([.string ⟨#[]⟩, .string ⟨#[]⟩, .string ⟨#[]⟩, .string ⟨#[]⟩] : List Value).set x.pa.toNat (.string (⟨#[42]⟩ ++ x.pad))).toArray = fillC x := by
  unfold fillC fillS
  rw [h]
  have : x.pa = 0 ∨ x.pa = 1 ∨ x.pa = 2 ∨ x.pa = 3 := by omega
  rcases this with e | e | e | e <;> rw [e] <;> rfl
theorem fill_size (x : Sb) (k : Int) (h : x.pad.size ≤ 281474976710656) : (fillS x k).size ≤ 281474976710657 := by
  unfold fillS
  split
  · exact Nat.zero_le _
  · split
    · rw [ByteArray.size_append]; show 1 + x.pad.size ≤ _; omega
    · exact Nat.zero_le _
theorem print_size (l : List S53) (ht : TokOk l) : (printT l).1.size ≤ 2000 := by
  rw [printT_eq]
  unfold A.printT
  by_cases h : A.checkS l = 0
  · rw [if_pos h]
    obtain ⟨h1, h2, h3, h4⟩ := texts_wide l ht.1 h
    have := all_size l (good_single l none h1)
    have := join_size (allR l)
    show (joinB (allR l)).size ≤ 2000
    omega
  · rw [if_neg h]; exact Nat.zero_le _
theorem text_sizes {w : World} {L : Sl} {x : Sb} (hr : SubOk w L x) (hg : Good x) : ((9223372036854775807 < (fillS x 0).size + (printT x.p).1.size) = False) ∧ ((9223372036854775807 < (fillS x 0).size + (printT x.p).1.size + (fillS x 1).size) = False) ∧ ((9223372036854775807 < (fillS x 0).size + (printT x.p).1.size + (fillS x 1).size + (digS x (wideS x)).size) = False) ∧ ((9223372036854775807 < (fillS x 0).size + (printT x.p).1.size + (fillS x 1).size + (digS x (wideS x)).size + (fillS x 2).size) = False) ∧ ((9223372036854775807 < (fillS x 0).size + (printT x.p).1.size + (fillS x 1).size + (digS x (wideS x)).size + (fillS x 2).size + (printT x.s).1.size) = False) ∧ ((9223372036854775807 < (fillS x 0).size + (printT x.p).1.size + (fillS x 1).size + (digS x (wideS x)).size + (fillS x 2).size + (printT x.s).1.size + (fillS x 3).size) = False) := by
  have a0 := fill_size x 0 hr.pad
  have a1 := fill_size x 1 hr.pad
  have a2 := fill_size x 2 hr.pad
  have a3 := fill_size x 3 hr.pad
  have b0 := print_size x.p hr.p
  have b1 := print_size x.s hr.s
  have d := dig_size x (wideS x) hg.fine hg.wide0 hg.wide1
  refine ⟨?_, ?_, ?_, ?_, ?_, ?_⟩ <;> exact eq_false (by omega)
set_option maxHeartbeats 16000000 in
set_option maxRecDepth 100000 in
theorem text_calls (L : Sl) (x : Sb) (w : World) (hG : Glob w) (hr : SubOk w L x) (hg : Good x) : Calls Try.prog 30 #[subV L x] w fun e w' => e = .returned (.string (textS x)) ∧ Below w.heap.size w w' := by
  have HR := Aside0.mk hr
  have HG := Aside0.mk hG
  have HX := Aside0.mk hg
  have HQ := Aside0.mk (HW.start w L x)
  clear hr hg hG
  go_enter Try.func30, Try.ntmps30
  go_upto_if 13 with ((go_at_call 37; (with_reducible refine (least_calls L x _ HX.out.fine).mono ?_); rintro e w1 ⟨rfl, hb⟩; have nq := Aside0.mk (HQ.out.step hb); clear HQ hb; have HQ := nq; clear nq; obtain ⟨c0, c1, c2, c3, c4, c5, c6, c7, c8, c9, c10, c11⟩ := sub_at HQ.out.box))
  go_cut [3] (fun v wc => v = .int .i64 (wideS x) ∧ Aside0 (HW w wc L x))
  case first =>
    rcases Bool.eq_false_or_eq_true x.pad.toList.isEmpty with p1 | p1
    case inl =>
      have p2 := ne_empty p1
      have HE := Aside0.mk (show wideS x = leastS x by unfold wideS; rw [if_pos p1])
      rw [p1, Bool.not_true]
      go_wp2
      go_meet
      case rel => exact ⟨by rw [HE.out], HQ⟩
    have p2 := ne_empty p1
    have hw1 : IntKind.i64.wrap (x.wd - lengthS x (leastS x)) = x.wd - lengthS x (leastS x) := IntWalk.i64_in _ (by have h1 := HX.out.len1 p1; have h2 := HX.out.len0; omega)
    have hw2 : IntKind.i64.wrap (leastS x + (x.wd - lengthS x (leastS x))) = wideS x := by
      rw [show wideS x = leastS x + (x.wd - lengthS x (leastS x)) by unfold wideS; rw [if_neg (by rw [p1]; decide)]]
      exact IntWalk.i64_in _ (by have h1 := HX.out.len1 p1; have h2 := HX.out.len0; have h3 := HX.out.fine.im0; have h4 := least_le HX.out.fine; have h5 : 1 ≤ leastS x := (by unfold leastS mx; (repeat' split) <;> omega); omega)
    rw [p1, Bool.not_false]
    go_wp2_with fail
    go_region_held3 (fun w' => w'.cell? ⟨w.heap.size, 0, none⟩ = some (.slice L.A x.p.length L.c) ∧ w'.cell? ⟨w.heap.size, 1, none⟩ = some (.slice L.B x.s.length L.d) ∧ w'.cell? ⟨w.heap.size, 2, none⟩ = some (.int .i64 x.im) ∧ w'.cell? ⟨w.heap.size, 3, none⟩ = some (.int .i64 x.fn) ∧ w'.cell? ⟨w.heap.size, 4, none⟩ = some (.int .i64 x.fx) ∧ w'.cell? ⟨w.heap.size, 5, none⟩ = some (.int .i64 x.pr) ∧ w'.cell? ⟨w.heap.size, 6, none⟩ = some (.int .i64 x.se) ∧ w'.cell? ⟨w.heap.size, 7, none⟩ = some (.int .i64 x.em) ∧ w'.cell? ⟨w.heap.size, 8, none⟩ = some (.bool x.ep) ∧ w'.cell? ⟨w.heap.size, 9, none⟩ = some (.string x.pad) ∧ w'.cell? ⟨w.heap.size, 10, none⟩ = some (.int .i64 x.pa) ∧ w'.cell? ⟨w.heap.size, 11, none⟩ = some (.int .i64 x.wd))
      (first | exact sub_at HQ.out.box)
      (first | (go_at_call 36; (with_reducible refine (length_calls L x _ _ (HR.out.r.below (by first | exact HQ.out.below | exact HQ.out.drew1.below | exact (HQ.out.drewN _).below)) HR.out.p HR.out.s HX.out.cp HX.out.cs HX.out.fine (Int.le_refl _) (least_le HX.out.fine)).mono ?_); rintro e w1 ⟨rfl, hb⟩; have nq := Aside0.mk ((aP47 : HW w _ L x).step hb); clear HQ hb; have HQ := nq; clear nq))
    go_wp2
    go_meet
    case rel => exact ⟨rfl, HQ⟩
  case rest =>
    obtain ⟨wo, rfl⟩ : ∃ wo : World, wo = wc := ⟨_, rfl⟩
    obtain ⟨rfl, HQ'⟩ := hcut
    clear HQ c0 c1 c2 c3 c4 c5 c6 c7 c8 c9 c10 c11
    have HQ := HQ'
    clear HQ'
    obtain ⟨c0, c1, c2, c3, c4, c5, c6, c7, c8, c9, c10, c11⟩ := sub_at HQ.out.box
    have z9 : ∀ o, (wo.alloc o).cell? ⟨w.heap.size, 9, none⟩ = some (.string x.pad) := fun o => (blk_cell (HQ.out.step (below_alloc (Below.refl _ _) o)).box 9).trans rfl
    have z10 : ∀ o, (wo.alloc o).cell? ⟨w.heap.size, 10, none⟩ = some (.int .i64 x.pa) := fun o => (blk_cell (HQ.out.step (below_alloc (Below.refl _ _) o)).box 10).trans rfl
    go_upto_if 24 with (fail)
    go_cut [] (fun wd => Aside0 (wd.heap[wo.heap.size]? = some (.cells (fillC x) 68 (0, 0))) ∧ Aside0 (HW w wd L x))
    case first =>
      rcases Bool.eq_false_or_eq_true x.pad.toList.isEmpty with p1 | p1
      case inl =>
        have HA := Aside0.mk (heap_alloc_new wo (.cells #[.string ⟨#[]⟩, .string ⟨#[]⟩, .string ⟨#[]⟩, .string ⟨#[]⟩] 68))
        rw [p1, Bool.not_true]
        go_wp2
        go_meet
        case rel => exact ⟨⟨by rw [HA.out]; unfold fillC; rw [fill_bare p1, fill_bare p1, fill_bare p1, fill_bare p1]⟩, ⟨HQ.out.alloc _⟩⟩
      rw [p1, Bool.not_false]
      have q0 := HX.out.pa0
      have q1 := HX.out.pa1
      have hz := four_at x q0 q1
      have hs := eq_false (Nat.not_lt.2 (show 1 + x.pad.size ≤ 9223372036854775807 by have := HR.out.pad; omega))
      go_wp2
      go_meet
      case rel => exact ⟨⟨(heap_alloc_new _ _).trans (by rw [fill_put p1 q0 q1])⟩, ⟨HQ.out.alloc _⟩⟩
    case rest =>
      obtain ⟨HA, HQ'⟩ := hcut
      clear HQ c0 c1 c2 c3 c4 c5 c6 c7 c8 c9 c10 c11 z9 z10
      have HQ := HQ'
      clear HQ'
      obtain ⟨c0, c1, c2, c3, c4, c5, c6, c7, c8, c9, c10, c11⟩ := sub_at HQ.out.box
      obtain ⟨g, hg⟩ : ∃ g, wo.heap.size = g := ⟨_, rfl⟩
      rw [hg] at HA
      rw [hg]
      clear hg
      have HZ := Aside0.mk (text_sizes HR.out HX.out)
      obtain ⟨z1, z2, z3, z4, z5, z6⟩ := HZ.out
      go_wp2_with (first | (go_at_call 53; (with_reducible refine (print_calls L.A L.c x.p _ (Glob_below HG.out HQ.out.below) (Kd.C_below HR.out.r.p HQ.out.below) HR.out.r.pc HR.out.p).mono ?_); rintro e w1 ⟨rfl, hb⟩; have na := Aside0.mk (blk_below HA.out hb); have nq := Aside0.mk (HQ.out.step hb); clear HA HQ hb; have HA := na; have HQ := nq; clear na nq; obtain ⟨c0, c1, c2, c3, c4, c5, c6, c7, c8, c9, c10, c11⟩ := sub_at HQ.out.box) | (go_at_call 53; (with_reducible refine (print_calls L.B L.d x.s _ (Glob_below HG.out HQ.out.below) (Kd.C_below HR.out.r.s HQ.out.below) HR.out.r.sc HR.out.s).mono ?_); rintro e w1 ⟨rfl, hb⟩; have na := Aside0.mk (blk_below HA.out hb); have nq := Aside0.mk (HQ.out.step hb); clear HA HQ hb; have HA := na; have HQ := nq; clear na nq; obtain ⟨c0, c1, c2, c3, c4, c5, c6, c7, c8, c9, c10, c11⟩ := sub_at HQ.out.box))
      go_region_held3 (fun w' => w'.cell? ⟨g, 0, none⟩ = some (.string (fillS x 0)) ∧ w'.cell? ⟨g, 1, none⟩ = some (.string (fillS x 1)) ∧ w'.cell? ⟨g, 2, none⟩ = some (.string (fillS x 2)) ∧ w'.cell? ⟨g, 3, none⟩ = some (.string (fillS x 3)) ∧ w'.cell? ⟨w.heap.size, 0, none⟩ = some (.slice L.A x.p.length L.c) ∧ w'.cell? ⟨w.heap.size, 1, none⟩ = some (.slice L.B x.s.length L.d) ∧ w'.cell? ⟨w.heap.size, 2, none⟩ = some (.int .i64 x.im) ∧ w'.cell? ⟨w.heap.size, 3, none⟩ = some (.int .i64 x.fn) ∧ w'.cell? ⟨w.heap.size, 4, none⟩ = some (.int .i64 x.fx) ∧ w'.cell? ⟨w.heap.size, 5, none⟩ = some (.int .i64 x.pr) ∧ w'.cell? ⟨w.heap.size, 6, none⟩ = some (.int .i64 x.se) ∧ w'.cell? ⟨w.heap.size, 7, none⟩ = some (.int .i64 x.em) ∧ w'.cell? ⟨w.heap.size, 8, none⟩ = some (.bool x.ep) ∧ w'.cell? ⟨w.heap.size, 9, none⟩ = some (.string x.pad) ∧ w'.cell? ⟨w.heap.size, 10, none⟩ = some (.int .i64 x.pa) ∧ w'.cell? ⟨w.heap.size, 11, none⟩ = some (.int .i64 x.wd))
        (first | exact ⟨(blk_cell HA.out 0).trans rfl, (blk_cell HA.out 1).trans rfl, (blk_cell HA.out 2).trans rfl, (blk_cell HA.out 3).trans rfl, sub_at HQ.out.box⟩)
        (first | (go_at_call 54; (with_reducible refine (digits_calls L x (wideS x) _ HX.out.fine HX.out.wide0 HX.out.wide1).mono ?_); rintro e w1 ⟨rfl, hb⟩; have na := Aside0.mk (blk_below (by (with_reducible repeat (first | refine blk_drewN ?_ _ | refine blk_drew ?_)); exact HA.out) hb); have nq := Aside0.mk ((aP47 : HW w _ L x).step hb); clear HA HQ hb; have HA := na; have HQ := nq; clear na nq))
      go_wp2
      go_ret
      exact ⟨ret_str rfl, HQ.out.below⟩
@[reducible] def patV (L M : Sl) (x : Pt) : Value := .agg #[.slice L.A x.pos.p.length L.c, .slice L.B x.pos.s.length L.d, .int .i64 x.pos.im, .int .i64 x.pos.fn, .int .i64 x.pos.fx, .int .i64 x.pos.pr, .int .i64 x.pos.se, .int .i64 x.pos.em, .bool x.pos.ep, .string x.pos.pad, .int .i64 x.pos.pa, .int .i64 x.pos.wd, .bool x.ng, .slice M.A x.neg.p.length M.c, .slice M.B x.neg.s.length M.d, .int .i64 x.neg.im, .int .i64 x.neg.fn, .int .i64 x.neg.fx, .int .i64 x.neg.pr, .int .i64 x.neg.se, .int .i64 x.neg.em, .bool x.neg.ep, .string x.neg.pad, .int .i64 x.neg.pa, .int .i64 x.neg.wd]
@[reducible] def patC (L M : Sl) (x : Pt) : Array Value := #[.slice L.A x.pos.p.length L.c, .slice L.B x.pos.s.length L.d, .int .i64 x.pos.im, .int .i64 x.pos.fn, .int .i64 x.pos.fx, .int .i64 x.pos.pr, .int .i64 x.pos.se, .int .i64 x.pos.em, .bool x.pos.ep, .string x.pos.pad, .int .i64 x.pos.pa, .int .i64 x.pos.wd, .bool x.ng, .slice M.A x.neg.p.length M.c, .slice M.B x.neg.s.length M.d, .int .i64 x.neg.im, .int .i64 x.neg.fn, .int .i64 x.neg.fx, .int .i64 x.neg.pr, .int .i64 x.neg.se, .int .i64 x.neg.em, .bool x.neg.ep, .string x.neg.pad, .int .i64 x.neg.pa, .int .i64 x.neg.wd]
section
variable {w : World} {g : Nat} {L M : Sl} {x : Pt} (h : w.heap[g]? = some (.cells (patC L M x) 26 (0, 0)))
include h
theorem pat_c0 : w.cell? ⟨g, 0, none⟩ = some (.slice L.A x.pos.p.length L.c) := (blk_cell h 0).trans rfl
theorem pat_c1 : w.cell? ⟨g, 1, none⟩ = some (.slice L.B x.pos.s.length L.d) := (blk_cell h 1).trans rfl
theorem pat_c2 : w.cell? ⟨g, 2, none⟩ = some (.int .i64 x.pos.im) := (blk_cell h 2).trans rfl
theorem pat_c3 : w.cell? ⟨g, 3, none⟩ = some (.int .i64 x.pos.fn) := (blk_cell h 3).trans rfl
theorem pat_c4 : w.cell? ⟨g, 4, none⟩ = some (.int .i64 x.pos.fx) := (blk_cell h 4).trans rfl
theorem pat_c5 : w.cell? ⟨g, 5, none⟩ = some (.int .i64 x.pos.pr) := (blk_cell h 5).trans rfl
theorem pat_c6 : w.cell? ⟨g, 6, none⟩ = some (.int .i64 x.pos.se) := (blk_cell h 6).trans rfl
theorem pat_c7 : w.cell? ⟨g, 7, none⟩ = some (.int .i64 x.pos.em) := (blk_cell h 7).trans rfl
theorem pat_c8 : w.cell? ⟨g, 8, none⟩ = some (.bool x.pos.ep) := (blk_cell h 8).trans rfl
theorem pat_c9 : w.cell? ⟨g, 9, none⟩ = some (.string x.pos.pad) := (blk_cell h 9).trans rfl
theorem pat_c10 : w.cell? ⟨g, 10, none⟩ = some (.int .i64 x.pos.pa) := (blk_cell h 10).trans rfl
theorem pat_c11 : w.cell? ⟨g, 11, none⟩ = some (.int .i64 x.pos.wd) := (blk_cell h 11).trans rfl
theorem pat_c12 : w.cell? ⟨g, 12, none⟩ = some (.bool x.ng) := (blk_cell h 12).trans rfl
theorem pat_c13 : w.cell? ⟨g, 13, none⟩ = some (.slice M.A x.neg.p.length M.c) := (blk_cell h 13).trans rfl
theorem pat_c14 : w.cell? ⟨g, 14, none⟩ = some (.slice M.B x.neg.s.length M.d) := (blk_cell h 14).trans rfl
theorem pat_c15 : w.cell? ⟨g, 15, none⟩ = some (.int .i64 x.neg.im) := (blk_cell h 15).trans rfl
theorem pat_c16 : w.cell? ⟨g, 16, none⟩ = some (.int .i64 x.neg.fn) := (blk_cell h 16).trans rfl
theorem pat_c17 : w.cell? ⟨g, 17, none⟩ = some (.int .i64 x.neg.fx) := (blk_cell h 17).trans rfl
theorem pat_c18 : w.cell? ⟨g, 18, none⟩ = some (.int .i64 x.neg.pr) := (blk_cell h 18).trans rfl
theorem pat_c19 : w.cell? ⟨g, 19, none⟩ = some (.int .i64 x.neg.se) := (blk_cell h 19).trans rfl
theorem pat_c20 : w.cell? ⟨g, 20, none⟩ = some (.int .i64 x.neg.em) := (blk_cell h 20).trans rfl
theorem pat_c21 : w.cell? ⟨g, 21, none⟩ = some (.bool x.neg.ep) := (blk_cell h 21).trans rfl
theorem pat_c22 : w.cell? ⟨g, 22, none⟩ = some (.string x.neg.pad) := (blk_cell h 22).trans rfl
theorem pat_c23 : w.cell? ⟨g, 23, none⟩ = some (.int .i64 x.neg.pa) := (blk_cell h 23).trans rfl
theorem pat_c24 : w.cell? ⟨g, 24, none⟩ = some (.int .i64 x.neg.wd) := (blk_cell h 24).trans rfl
end
theorem info26 : (Try.prog.info? 26).map (·.size) = some 25 := by kernel_rfl
structure PW (w0 w : World) (L M : Sl) (x : Pt) : Prop where
  box : w.heap[w0.heap.size]? = some (.cells (patC L M x) 26 (0, 0))
  below : Below w0.heap.size w0 w
theorem PW.start (w : World) (L M : Sl) (x : Pt) : PW w (w.alloc (.cells (patC L M x) 26)) L M x := ⟨heap_alloc_new w _, below_alloc (Below.refl _ _) _⟩
theorem PW.step {w0 w w1 : World} {L M : Sl} {x : Pt} (h : PW w0 w L M x) (hb : Below w.heap.size w w1) : PW w0 w1 L M x := ⟨blk_below h.box hb, below_step h.below hb⟩
theorem text_size {w : World} {L : Sl} {x : Sb} (hr : SubOk w L x) (hg : Good x) : (textS x).size ≤ 2251799813685248 := by
  have a0 := fill_size x 0 hr.pad
  have a1 := fill_size x 1 hr.pad
  have a2 := fill_size x 2 hr.pad
  have a3 := fill_size x 3 hr.pad
  have b0 := print_size x.p hr.p
  have b1 := print_size x.s hr.s
  have d := dig_size x (wideS x) hg.fine hg.wide0 hg.wide1
  unfold textS
  simp only [ByteArray.size_append]
  omega
set_option maxHeartbeats 8000000 in
set_option maxRecDepth 100000 in
theorem whole_walk (L M : Sl) (pos : Sb) (ng : Bool) (neg : Sb) (w : World) (hG : Glob w) (hl : SubOk w L pos) (hm : SubOk w M neg) (h1 : Good pos) (h2 : ng = true → Good neg) : Calls Try.prog 20 #[patV L M ⟨pos, ng, neg⟩] w fun e w' => e = .returned (.string (wholeS ⟨pos, ng, neg⟩)) ∧ Below w.heap.size w w' := by
  have HL := Aside0.mk hl
  have HM := Aside0.mk hm
  have HG := Aside0.mk hG
  have H1 := Aside0.mk h1
  cases ng with
  | true =>
    have H2 := Aside0.mk (h2 rfl)
    have HE := Aside0.mk (show wholeS ⟨pos, true, neg⟩ = textS pos ++ (⟨#[59]⟩ ++ textS neg) by unfold wholeS; rw [if_pos rfl])
    have z1 := text_size hl h1
    have z2 := text_size hm H2.out
    have z3 := eq_false (Nat.not_lt.2 (show 1 + (textS neg).size ≤ 9223372036854775807 by omega))
    have z4 := eq_false (Nat.not_lt.2 (show (textS pos).size + (1 + (textS neg).size) ≤ 9223372036854775807 by omega))
    clear hl hm hG h1 h2 z1 z2
    go_enter Try.func20, Try.ntmps20
    go_wp2_with (first | ((with_reducible refine gate_dst (N := 1) rfl ?_); refine box_event ?hg (N := 1) ?hd (cs := patC L M ⟨pos, true, neg⟩) (t := 26) ?hr ?_; (case hd => rfl); (case hg => rfl); (case hr => first | (go_simp; done) | (go_simp; rfl)); intro gb hgb w1 hbox hbb; subst hgb; have HQ : Aside0 (PW w w1 L M ⟨pos, true, neg⟩) := ⟨⟨hbox, hbb⟩⟩; clear hbox hbb; have c0 := pat_c0 HQ.out.box; have c1 := pat_c1 HQ.out.box; have c2 := pat_c2 HQ.out.box; have c3 := pat_c3 HQ.out.box; have c4 := pat_c4 HQ.out.box; have c5 := pat_c5 HQ.out.box; have c6 := pat_c6 HQ.out.box; have c7 := pat_c7 HQ.out.box; have c8 := pat_c8 HQ.out.box; have c9 := pat_c9 HQ.out.box; have c10 := pat_c10 HQ.out.box; have c11 := pat_c11 HQ.out.box; have c12 := pat_c12 HQ.out.box; have c13 := pat_c13 HQ.out.box; have c14 := pat_c14 HQ.out.box; have c15 := pat_c15 HQ.out.box; have c16 := pat_c16 HQ.out.box; have c17 := pat_c17 HQ.out.box; have c18 := pat_c18 HQ.out.box; have c19 := pat_c19 HQ.out.box; have c20 := pat_c20 HQ.out.box; have c21 := pat_c21 HQ.out.box; have c22 := pat_c22 HQ.out.box; have c23 := pat_c23 HQ.out.box; have c24 := pat_c24 HQ.out.box) | (go_at_call 30; (with_reducible refine (text_calls L pos _ (Glob_below HG.out HQ.out.below) (HL.out.below HQ.out.below) H1.out).mono ?_); rintro e w1 ⟨rfl, hb⟩; have nq := Aside0.mk (HQ.out.step hb); clear HQ hb c0 c1 c2 c3 c4 c5 c6 c7 c8 c9 c10 c11 c12 c13 c14 c15 c16 c17 c18 c19 c20 c21 c22 c23 c24; have HQ := nq; clear nq; have c0 := pat_c0 HQ.out.box; have c1 := pat_c1 HQ.out.box; have c2 := pat_c2 HQ.out.box; have c3 := pat_c3 HQ.out.box; have c4 := pat_c4 HQ.out.box; have c5 := pat_c5 HQ.out.box; have c6 := pat_c6 HQ.out.box; have c7 := pat_c7 HQ.out.box; have c8 := pat_c8 HQ.out.box; have c9 := pat_c9 HQ.out.box; have c10 := pat_c10 HQ.out.box; have c11 := pat_c11 HQ.out.box; have c12 := pat_c12 HQ.out.box; have c13 := pat_c13 HQ.out.box; have c14 := pat_c14 HQ.out.box; have c15 := pat_c15 HQ.out.box; have c16 := pat_c16 HQ.out.box; have c17 := pat_c17 HQ.out.box; have c18 := pat_c18 HQ.out.box; have c19 := pat_c19 HQ.out.box; have c20 := pat_c20 HQ.out.box; have c21 := pat_c21 HQ.out.box; have c22 := pat_c22 HQ.out.box; have c23 := pat_c23 HQ.out.box; have c24 := pat_c24 HQ.out.box) | (go_at_call 30; (with_reducible refine (text_calls M neg _ (Glob_below HG.out HQ.out.below) (HM.out.below HQ.out.below) H2.out).mono ?_); rintro e w1 ⟨rfl, hb⟩; have nq := Aside0.mk (HQ.out.step hb); clear HQ hb c0 c1 c2 c3 c4 c5 c6 c7 c8 c9 c10 c11 c12 c13 c14 c15 c16 c17 c18 c19 c20 c21 c22 c23 c24; have HQ := nq; clear nq; have c0 := pat_c0 HQ.out.box; have c1 := pat_c1 HQ.out.box; have c2 := pat_c2 HQ.out.box; have c3 := pat_c3 HQ.out.box; have c4 := pat_c4 HQ.out.box; have c5 := pat_c5 HQ.out.box; have c6 := pat_c6 HQ.out.box; have c7 := pat_c7 HQ.out.box; have c8 := pat_c8 HQ.out.box; have c9 := pat_c9 HQ.out.box; have c10 := pat_c10 HQ.out.box; have c11 := pat_c11 HQ.out.box; have c12 := pat_c12 HQ.out.box; have c13 := pat_c13 HQ.out.box; have c14 := pat_c14 HQ.out.box; have c15 := pat_c15 HQ.out.box; have c16 := pat_c16 HQ.out.box; have c17 := pat_c17 HQ.out.box; have c18 := pat_c18 HQ.out.box; have c19 := pat_c19 HQ.out.box; have c20 := pat_c20 HQ.out.box; have c21 := pat_c21 HQ.out.box; have c22 := pat_c22 HQ.out.box; have c23 := pat_c23 HQ.out.box; have c24 := pat_c24 HQ.out.box))
    go_ret
    exact ⟨ret_str HE.out.symm, HQ.out.below⟩
  | false =>
    have HE := Aside0.mk (show wholeS ⟨pos, false, neg⟩ = textS pos by unfold wholeS; rw [if_neg (fun e => Bool.noConfusion e)])
    clear hl hm hG h1 h2
    go_enter Try.func20, Try.ntmps20
    go_wp2_with (first | ((with_reducible refine gate_dst (N := 1) rfl ?_); refine box_event ?hg (N := 1) ?hd (cs := patC L M ⟨pos, false, neg⟩) (t := 26) ?hr ?_; (case hd => rfl); (case hg => rfl); (case hr => first | (go_simp; done) | (go_simp; rfl)); intro gb hgb w1 hbox hbb; subst hgb; have HQ : Aside0 (PW w w1 L M ⟨pos, false, neg⟩) := ⟨⟨hbox, hbb⟩⟩; clear hbox hbb; have c0 := pat_c0 HQ.out.box; have c1 := pat_c1 HQ.out.box; have c2 := pat_c2 HQ.out.box; have c3 := pat_c3 HQ.out.box; have c4 := pat_c4 HQ.out.box; have c5 := pat_c5 HQ.out.box; have c6 := pat_c6 HQ.out.box; have c7 := pat_c7 HQ.out.box; have c8 := pat_c8 HQ.out.box; have c9 := pat_c9 HQ.out.box; have c10 := pat_c10 HQ.out.box; have c11 := pat_c11 HQ.out.box; have c12 := pat_c12 HQ.out.box; have c13 := pat_c13 HQ.out.box; have c14 := pat_c14 HQ.out.box; have c15 := pat_c15 HQ.out.box; have c16 := pat_c16 HQ.out.box; have c17 := pat_c17 HQ.out.box; have c18 := pat_c18 HQ.out.box; have c19 := pat_c19 HQ.out.box; have c20 := pat_c20 HQ.out.box; have c21 := pat_c21 HQ.out.box; have c22 := pat_c22 HQ.out.box; have c23 := pat_c23 HQ.out.box; have c24 := pat_c24 HQ.out.box) | (go_at_call 30; (with_reducible refine (text_calls L pos _ (Glob_below HG.out HQ.out.below) (HL.out.below HQ.out.below) H1.out).mono ?_); rintro e w1 ⟨rfl, hb⟩; have nq := Aside0.mk (HQ.out.step hb); clear HQ hb c0 c1 c2 c3 c4 c5 c6 c7 c8 c9 c10 c11 c12 c13 c14 c15 c16 c17 c18 c19 c20 c21 c22 c23 c24; have HQ := nq; clear nq; have c0 := pat_c0 HQ.out.box; have c1 := pat_c1 HQ.out.box; have c2 := pat_c2 HQ.out.box; have c3 := pat_c3 HQ.out.box; have c4 := pat_c4 HQ.out.box; have c5 := pat_c5 HQ.out.box; have c6 := pat_c6 HQ.out.box; have c7 := pat_c7 HQ.out.box; have c8 := pat_c8 HQ.out.box; have c9 := pat_c9 HQ.out.box; have c10 := pat_c10 HQ.out.box; have c11 := pat_c11 HQ.out.box; have c12 := pat_c12 HQ.out.box; have c13 := pat_c13 HQ.out.box; have c14 := pat_c14 HQ.out.box; have c15 := pat_c15 HQ.out.box; have c16 := pat_c16 HQ.out.box; have c17 := pat_c17 HQ.out.box; have c18 := pat_c18 HQ.out.box; have c19 := pat_c19 HQ.out.box; have c20 := pat_c20 HQ.out.box; have c21 := pat_c21 HQ.out.box; have c22 := pat_c22 HQ.out.box; have c23 := pat_c23 HQ.out.box; have c24 := pat_c24 HQ.out.box))
    go_ret
    exact ⟨ret_str HE.out.symm, HQ.out.below⟩
theorem form_good {w : World} {L M : Sl} {x : Pt} (hl : SubOk w L x.pos) (hm : SubOk w M x.neg) (h : formB x = true) : Good x.pos ∧ (x.ng = true → Good x.neg) := by
  unfold formB at h
  rw [Bool.and_eq_true] at h
  exact ⟨good_of hl.p hl.s h.1, fun e => good_of hm.p hm.s (by have := h.2; rw [if_pos e] at this; exact this)⟩
theorem len_yes {n : Nat} (h : n > 128) : decide (128 < (n : Int)) = true := decide_eq_true (by omega)
theorem len_no {n : Nat} (h : ¬ n > 128) : decide (128 < (n : Int)) = false := decide_eq_false (by omega)
set_option maxHeartbeats 16000000 in
set_option maxRecDepth 100000 in
theorem pcheck_walk (L M : Sl) (pos : Sb) (ng : Bool) (neg : Sb) (w : World) (hG : Glob w) (hl : SubOk w L pos) (hm : SubOk w M neg) : Calls Try.prog 11 #[patV L M ⟨pos, ng, neg⟩] w fun e w' => e = .returned (.int .i64 (checkP ⟨pos, ng, neg⟩)) ∧ Below w.heap.size w w' := by
  have HL := Aside0.mk hl
  have HM := Aside0.mk hm
  have HG := Aside0.mk hG
  clear hl hm hG
  rcases Bool.eq_false_or_eq_true (halfS pos) with k1 | k1
  case inr =>
    have HE := Aside0.mk (show checkP ⟨pos, ng, neg⟩ = 141 by simp [checkP, formB, k1])
    go_enter Try.func11, Try.ntmps11
    go_wp2_with (first | ((with_reducible refine gate_dst (N := 1) rfl ?_); refine box_event ?hg (N := 1) ?hd (cs := patC L M ⟨pos, ng, neg⟩) (t := 26) ?hr ?_; (case hd => rfl); (case hg => rfl); (case hr => first | (go_simp; done) | (go_simp; rfl)); intro gb hgb w1 hbox hbb; subst hgb; have HQ : Aside0 (PW w w1 L M ⟨pos, ng, neg⟩) := ⟨⟨hbox, hbb⟩⟩; clear hbox hbb; have c0 := pat_c0 HQ.out.box; have c1 := pat_c1 HQ.out.box; have c2 := pat_c2 HQ.out.box; have c3 := pat_c3 HQ.out.box; have c4 := pat_c4 HQ.out.box; have c5 := pat_c5 HQ.out.box; have c6 := pat_c6 HQ.out.box; have c7 := pat_c7 HQ.out.box; have c8 := pat_c8 HQ.out.box; have c9 := pat_c9 HQ.out.box; have c10 := pat_c10 HQ.out.box; have c11 := pat_c11 HQ.out.box; have c12 := pat_c12 HQ.out.box; have c13 := pat_c13 HQ.out.box; have c14 := pat_c14 HQ.out.box; have c15 := pat_c15 HQ.out.box; have c16 := pat_c16 HQ.out.box; have c17 := pat_c17 HQ.out.box; have c18 := pat_c18 HQ.out.box; have c19 := pat_c19 HQ.out.box; have c20 := pat_c20 HQ.out.box; have c21 := pat_c21 HQ.out.box; have c22 := pat_c22 HQ.out.box; have c23 := pat_c23 HQ.out.box; have c24 := pat_c24 HQ.out.box) | (go_at_call 23; (with_reducible refine (half_calls L pos _ (HL.out.below HQ.out.below)).mono ?_); rintro e w1 ⟨rfl, hb⟩; have nq := Aside0.mk (HQ.out.step hb); clear HQ hb c0 c1 c2 c3 c4 c5 c6 c7 c8 c9 c10 c11 c12 c13 c14 c15 c16 c17 c18 c19 c20 c21 c22 c23 c24; have HQ := nq; clear nq; have c0 := pat_c0 HQ.out.box; have c1 := pat_c1 HQ.out.box; have c2 := pat_c2 HQ.out.box; have c3 := pat_c3 HQ.out.box; have c4 := pat_c4 HQ.out.box; have c5 := pat_c5 HQ.out.box; have c6 := pat_c6 HQ.out.box; have c7 := pat_c7 HQ.out.box; have c8 := pat_c8 HQ.out.box; have c9 := pat_c9 HQ.out.box; have c10 := pat_c10 HQ.out.box; have c11 := pat_c11 HQ.out.box; have c12 := pat_c12 HQ.out.box; have c13 := pat_c13 HQ.out.box; have c14 := pat_c14 HQ.out.box; have c15 := pat_c15 HQ.out.box; have c16 := pat_c16 HQ.out.box; have c17 := pat_c17 HQ.out.box; have c18 := pat_c18 HQ.out.box; have c19 := pat_c19 HQ.out.box; have c20 := pat_c20 HQ.out.box; have c21 := pat_c21 HQ.out.box; have c22 := pat_c22 HQ.out.box; have c23 := pat_c23 HQ.out.box; have c24 := pat_c24 HQ.out.box))
    go_ret
    exact ⟨ret_int HE.out.symm, HQ.out.below⟩
  cases ng with
  | true =>
    rcases Bool.eq_false_or_eq_true (halfS neg) with k2 | k2
    case inr =>
      have HE := Aside0.mk (show checkP ⟨pos, true, neg⟩ = 141 by simp [checkP, formB, k1, k2])
      go_enter Try.func11, Try.ntmps11
      go_wp2_with (first | ((with_reducible refine gate_dst (N := 1) rfl ?_); refine box_event ?hg (N := 1) ?hd (cs := patC L M ⟨pos, true, neg⟩) (t := 26) ?hr ?_; (case hd => rfl); (case hg => rfl); (case hr => first | (go_simp; done) | (go_simp; rfl)); intro gb hgb w1 hbox hbb; subst hgb; have HQ : Aside0 (PW w w1 L M ⟨pos, true, neg⟩) := ⟨⟨hbox, hbb⟩⟩; clear hbox hbb; have c0 := pat_c0 HQ.out.box; have c1 := pat_c1 HQ.out.box; have c2 := pat_c2 HQ.out.box; have c3 := pat_c3 HQ.out.box; have c4 := pat_c4 HQ.out.box; have c5 := pat_c5 HQ.out.box; have c6 := pat_c6 HQ.out.box; have c7 := pat_c7 HQ.out.box; have c8 := pat_c8 HQ.out.box; have c9 := pat_c9 HQ.out.box; have c10 := pat_c10 HQ.out.box; have c11 := pat_c11 HQ.out.box; have c12 := pat_c12 HQ.out.box; have c13 := pat_c13 HQ.out.box; have c14 := pat_c14 HQ.out.box; have c15 := pat_c15 HQ.out.box; have c16 := pat_c16 HQ.out.box; have c17 := pat_c17 HQ.out.box; have c18 := pat_c18 HQ.out.box; have c19 := pat_c19 HQ.out.box; have c20 := pat_c20 HQ.out.box; have c21 := pat_c21 HQ.out.box; have c22 := pat_c22 HQ.out.box; have c23 := pat_c23 HQ.out.box; have c24 := pat_c24 HQ.out.box) | (go_at_call 23; (with_reducible refine (half_calls L pos _ (HL.out.below HQ.out.below)).mono ?_); rintro e w1 ⟨rfl, hb⟩; have nq := Aside0.mk (HQ.out.step hb); clear HQ hb c0 c1 c2 c3 c4 c5 c6 c7 c8 c9 c10 c11 c12 c13 c14 c15 c16 c17 c18 c19 c20 c21 c22 c23 c24; have HQ := nq; clear nq; have c0 := pat_c0 HQ.out.box; have c1 := pat_c1 HQ.out.box; have c2 := pat_c2 HQ.out.box; have c3 := pat_c3 HQ.out.box; have c4 := pat_c4 HQ.out.box; have c5 := pat_c5 HQ.out.box; have c6 := pat_c6 HQ.out.box; have c7 := pat_c7 HQ.out.box; have c8 := pat_c8 HQ.out.box; have c9 := pat_c9 HQ.out.box; have c10 := pat_c10 HQ.out.box; have c11 := pat_c11 HQ.out.box; have c12 := pat_c12 HQ.out.box; have c13 := pat_c13 HQ.out.box; have c14 := pat_c14 HQ.out.box; have c15 := pat_c15 HQ.out.box; have c16 := pat_c16 HQ.out.box; have c17 := pat_c17 HQ.out.box; have c18 := pat_c18 HQ.out.box; have c19 := pat_c19 HQ.out.box; have c20 := pat_c20 HQ.out.box; have c21 := pat_c21 HQ.out.box; have c22 := pat_c22 HQ.out.box; have c23 := pat_c23 HQ.out.box; have c24 := pat_c24 HQ.out.box) | (go_at_call 23; (with_reducible refine (half_calls M neg _ (HM.out.below HQ.out.below)).mono ?_); rintro e w1 ⟨rfl, hb⟩; have nq := Aside0.mk (HQ.out.step hb); clear HQ hb c0 c1 c2 c3 c4 c5 c6 c7 c8 c9 c10 c11 c12 c13 c14 c15 c16 c17 c18 c19 c20 c21 c22 c23 c24; have HQ := nq; clear nq; have c0 := pat_c0 HQ.out.box; have c1 := pat_c1 HQ.out.box; have c2 := pat_c2 HQ.out.box; have c3 := pat_c3 HQ.out.box; have c4 := pat_c4 HQ.out.box; have c5 := pat_c5 HQ.out.box; have c6 := pat_c6 HQ.out.box; have c7 := pat_c7 HQ.out.box; have c8 := pat_c8 HQ.out.box; have c9 := pat_c9 HQ.out.box; have c10 := pat_c10 HQ.out.box; have c11 := pat_c11 HQ.out.box; have c12 := pat_c12 HQ.out.box; have c13 := pat_c13 HQ.out.box; have c14 := pat_c14 HQ.out.box; have c15 := pat_c15 HQ.out.box; have c16 := pat_c16 HQ.out.box; have c17 := pat_c17 HQ.out.box; have c18 := pat_c18 HQ.out.box; have c19 := pat_c19 HQ.out.box; have c20 := pat_c20 HQ.out.box; have c21 := pat_c21 HQ.out.box; have c22 := pat_c22 HQ.out.box; have c23 := pat_c23 HQ.out.box; have c24 := pat_c24 HQ.out.box))
      go_ret
      exact ⟨ret_int HE.out.symm, HQ.out.below⟩
    have HF := form_good HL.out HM.out (show formB ⟨pos, true, neg⟩ = true by simp [formB, k1, k2])
    have H1 : Aside0 (Good pos) := ⟨HF.1⟩
    have H2 : Aside0 (Good neg) := ⟨HF.2 rfl⟩
    have HE := Aside0.mk (show checkP ⟨pos, true, neg⟩ = if (wholeS ⟨pos, true, neg⟩).size > 128 then 142 else 0 by simp [checkP, formB, k1, k2])
    clear HF
    by_cases hs : (wholeS ⟨pos, true, neg⟩).size > 128
    all_goals
      first | rw [if_pos hs] at HE | rw [if_neg hs] at HE
      first | have d1 := len_yes hs | have d1 := len_no hs
      clear hs
      go_enter Try.func11, Try.ntmps11
      go_wp2_with (first | ((with_reducible refine gate_dst (N := 1) rfl ?_); refine box_event ?hg (N := 1) ?hd (cs := patC L M ⟨pos, true, neg⟩) (t := 26) ?hr ?_; (case hd => rfl); (case hg => rfl); (case hr => first | (go_simp; done) | (go_simp; rfl)); intro gb hgb w1 hbox hbb; subst hgb; have HQ : Aside0 (PW w w1 L M ⟨pos, true, neg⟩) := ⟨⟨hbox, hbb⟩⟩; clear hbox hbb; have c0 := pat_c0 HQ.out.box; have c1 := pat_c1 HQ.out.box; have c2 := pat_c2 HQ.out.box; have c3 := pat_c3 HQ.out.box; have c4 := pat_c4 HQ.out.box; have c5 := pat_c5 HQ.out.box; have c6 := pat_c6 HQ.out.box; have c7 := pat_c7 HQ.out.box; have c8 := pat_c8 HQ.out.box; have c9 := pat_c9 HQ.out.box; have c10 := pat_c10 HQ.out.box; have c11 := pat_c11 HQ.out.box; have c12 := pat_c12 HQ.out.box; have c13 := pat_c13 HQ.out.box; have c14 := pat_c14 HQ.out.box; have c15 := pat_c15 HQ.out.box; have c16 := pat_c16 HQ.out.box; have c17 := pat_c17 HQ.out.box; have c18 := pat_c18 HQ.out.box; have c19 := pat_c19 HQ.out.box; have c20 := pat_c20 HQ.out.box; have c21 := pat_c21 HQ.out.box; have c22 := pat_c22 HQ.out.box; have c23 := pat_c23 HQ.out.box; have c24 := pat_c24 HQ.out.box) | ((with_reducible refine gate_dst (N := 28) rfl ?_); refine wpList_load_row rfl 26 (.tmp 1) rfl w.heap.size rfl 26 (patC L M ⟨pos, true, neg⟩) (0, 0) _ HQ.out.box Try.underlying26 rfl info26 ?_) | (go_at_call 23; (with_reducible refine (half_calls L pos _ (HL.out.below HQ.out.below)).mono ?_); rintro e w1 ⟨rfl, hb⟩; have nq := Aside0.mk (HQ.out.step hb); clear HQ hb c0 c1 c2 c3 c4 c5 c6 c7 c8 c9 c10 c11 c12 c13 c14 c15 c16 c17 c18 c19 c20 c21 c22 c23 c24; have HQ := nq; clear nq; have c0 := pat_c0 HQ.out.box; have c1 := pat_c1 HQ.out.box; have c2 := pat_c2 HQ.out.box; have c3 := pat_c3 HQ.out.box; have c4 := pat_c4 HQ.out.box; have c5 := pat_c5 HQ.out.box; have c6 := pat_c6 HQ.out.box; have c7 := pat_c7 HQ.out.box; have c8 := pat_c8 HQ.out.box; have c9 := pat_c9 HQ.out.box; have c10 := pat_c10 HQ.out.box; have c11 := pat_c11 HQ.out.box; have c12 := pat_c12 HQ.out.box; have c13 := pat_c13 HQ.out.box; have c14 := pat_c14 HQ.out.box; have c15 := pat_c15 HQ.out.box; have c16 := pat_c16 HQ.out.box; have c17 := pat_c17 HQ.out.box; have c18 := pat_c18 HQ.out.box; have c19 := pat_c19 HQ.out.box; have c20 := pat_c20 HQ.out.box; have c21 := pat_c21 HQ.out.box; have c22 := pat_c22 HQ.out.box; have c23 := pat_c23 HQ.out.box; have c24 := pat_c24 HQ.out.box) | (go_at_call 23; (with_reducible refine (half_calls M neg _ (HM.out.below HQ.out.below)).mono ?_); rintro e w1 ⟨rfl, hb⟩; have nq := Aside0.mk (HQ.out.step hb); clear HQ hb c0 c1 c2 c3 c4 c5 c6 c7 c8 c9 c10 c11 c12 c13 c14 c15 c16 c17 c18 c19 c20 c21 c22 c23 c24; have HQ := nq; clear nq; have c0 := pat_c0 HQ.out.box; have c1 := pat_c1 HQ.out.box; have c2 := pat_c2 HQ.out.box; have c3 := pat_c3 HQ.out.box; have c4 := pat_c4 HQ.out.box; have c5 := pat_c5 HQ.out.box; have c6 := pat_c6 HQ.out.box; have c7 := pat_c7 HQ.out.box; have c8 := pat_c8 HQ.out.box; have c9 := pat_c9 HQ.out.box; have c10 := pat_c10 HQ.out.box; have c11 := pat_c11 HQ.out.box; have c12 := pat_c12 HQ.out.box; have c13 := pat_c13 HQ.out.box; have c14 := pat_c14 HQ.out.box; have c15 := pat_c15 HQ.out.box; have c16 := pat_c16 HQ.out.box; have c17 := pat_c17 HQ.out.box; have c18 := pat_c18 HQ.out.box; have c19 := pat_c19 HQ.out.box; have c20 := pat_c20 HQ.out.box; have c21 := pat_c21 HQ.out.box; have c22 := pat_c22 HQ.out.box; have c23 := pat_c23 HQ.out.box; have c24 := pat_c24 HQ.out.box) | (go_at_call 20; (with_reducible refine (whole_walk L M pos true neg _ (Glob_below HG.out HQ.out.below) (HL.out.below HQ.out.below) (HM.out.below HQ.out.below) H1.out (fun _ => H2.out)).mono ?_); rintro e w1 ⟨rfl, hb⟩; have nq := Aside0.mk (HQ.out.step hb); clear HQ hb c0 c1 c2 c3 c4 c5 c6 c7 c8 c9 c10 c11 c12 c13 c14 c15 c16 c17 c18 c19 c20 c21 c22 c23 c24; have HQ := nq; clear nq; have c0 := pat_c0 HQ.out.box; have c1 := pat_c1 HQ.out.box; have c2 := pat_c2 HQ.out.box; have c3 := pat_c3 HQ.out.box; have c4 := pat_c4 HQ.out.box; have c5 := pat_c5 HQ.out.box; have c6 := pat_c6 HQ.out.box; have c7 := pat_c7 HQ.out.box; have c8 := pat_c8 HQ.out.box; have c9 := pat_c9 HQ.out.box; have c10 := pat_c10 HQ.out.box; have c11 := pat_c11 HQ.out.box; have c12 := pat_c12 HQ.out.box; have c13 := pat_c13 HQ.out.box; have c14 := pat_c14 HQ.out.box; have c15 := pat_c15 HQ.out.box; have c16 := pat_c16 HQ.out.box; have c17 := pat_c17 HQ.out.box; have c18 := pat_c18 HQ.out.box; have c19 := pat_c19 HQ.out.box; have c20 := pat_c20 HQ.out.box; have c21 := pat_c21 HQ.out.box; have c22 := pat_c22 HQ.out.box; have c23 := pat_c23 HQ.out.box; have c24 := pat_c24 HQ.out.box))
      go_ret
      exact ⟨ret_int HE.out.symm, HQ.out.below⟩
  | false =>
    rcases Bool.eq_false_or_eq_true (zeroB neg) with k2 | k2
    case inr =>
      have HE := Aside0.mk (show checkP ⟨pos, false, neg⟩ = 141 by simp [checkP, formB, k1, k2])
      go_enter Try.func11, Try.ntmps11
      go_wp2_with (first | ((with_reducible refine gate_dst (N := 1) rfl ?_); refine box_event ?hg (N := 1) ?hd (cs := patC L M ⟨pos, false, neg⟩) (t := 26) ?hr ?_; (case hd => rfl); (case hg => rfl); (case hr => first | (go_simp; done) | (go_simp; rfl)); intro gb hgb w1 hbox hbb; subst hgb; have HQ : Aside0 (PW w w1 L M ⟨pos, false, neg⟩) := ⟨⟨hbox, hbb⟩⟩; clear hbox hbb; have c0 := pat_c0 HQ.out.box; have c1 := pat_c1 HQ.out.box; have c2 := pat_c2 HQ.out.box; have c3 := pat_c3 HQ.out.box; have c4 := pat_c4 HQ.out.box; have c5 := pat_c5 HQ.out.box; have c6 := pat_c6 HQ.out.box; have c7 := pat_c7 HQ.out.box; have c8 := pat_c8 HQ.out.box; have c9 := pat_c9 HQ.out.box; have c10 := pat_c10 HQ.out.box; have c11 := pat_c11 HQ.out.box; have c12 := pat_c12 HQ.out.box; have c13 := pat_c13 HQ.out.box; have c14 := pat_c14 HQ.out.box; have c15 := pat_c15 HQ.out.box; have c16 := pat_c16 HQ.out.box; have c17 := pat_c17 HQ.out.box; have c18 := pat_c18 HQ.out.box; have c19 := pat_c19 HQ.out.box; have c20 := pat_c20 HQ.out.box; have c21 := pat_c21 HQ.out.box; have c22 := pat_c22 HQ.out.box; have c23 := pat_c23 HQ.out.box; have c24 := pat_c24 HQ.out.box) | (go_at_call 23; (with_reducible refine (half_calls L pos _ (HL.out.below HQ.out.below)).mono ?_); rintro e w1 ⟨rfl, hb⟩; have nq := Aside0.mk (HQ.out.step hb); clear HQ hb c0 c1 c2 c3 c4 c5 c6 c7 c8 c9 c10 c11 c12 c13 c14 c15 c16 c17 c18 c19 c20 c21 c22 c23 c24; have HQ := nq; clear nq; have c0 := pat_c0 HQ.out.box; have c1 := pat_c1 HQ.out.box; have c2 := pat_c2 HQ.out.box; have c3 := pat_c3 HQ.out.box; have c4 := pat_c4 HQ.out.box; have c5 := pat_c5 HQ.out.box; have c6 := pat_c6 HQ.out.box; have c7 := pat_c7 HQ.out.box; have c8 := pat_c8 HQ.out.box; have c9 := pat_c9 HQ.out.box; have c10 := pat_c10 HQ.out.box; have c11 := pat_c11 HQ.out.box; have c12 := pat_c12 HQ.out.box; have c13 := pat_c13 HQ.out.box; have c14 := pat_c14 HQ.out.box; have c15 := pat_c15 HQ.out.box; have c16 := pat_c16 HQ.out.box; have c17 := pat_c17 HQ.out.box; have c18 := pat_c18 HQ.out.box; have c19 := pat_c19 HQ.out.box; have c20 := pat_c20 HQ.out.box; have c21 := pat_c21 HQ.out.box; have c22 := pat_c22 HQ.out.box; have c23 := pat_c23 HQ.out.box; have c24 := pat_c24 HQ.out.box) | (go_at_call 24; (with_reducible refine (zero_calls M neg _).mono ?_); rintro e w1 ⟨rfl, hb⟩; have nq := Aside0.mk (HQ.out.step hb); clear HQ hb c0 c1 c2 c3 c4 c5 c6 c7 c8 c9 c10 c11 c12 c13 c14 c15 c16 c17 c18 c19 c20 c21 c22 c23 c24; have HQ := nq; clear nq; have c0 := pat_c0 HQ.out.box; have c1 := pat_c1 HQ.out.box; have c2 := pat_c2 HQ.out.box; have c3 := pat_c3 HQ.out.box; have c4 := pat_c4 HQ.out.box; have c5 := pat_c5 HQ.out.box; have c6 := pat_c6 HQ.out.box; have c7 := pat_c7 HQ.out.box; have c8 := pat_c8 HQ.out.box; have c9 := pat_c9 HQ.out.box; have c10 := pat_c10 HQ.out.box; have c11 := pat_c11 HQ.out.box; have c12 := pat_c12 HQ.out.box; have c13 := pat_c13 HQ.out.box; have c14 := pat_c14 HQ.out.box; have c15 := pat_c15 HQ.out.box; have c16 := pat_c16 HQ.out.box; have c17 := pat_c17 HQ.out.box; have c18 := pat_c18 HQ.out.box; have c19 := pat_c19 HQ.out.box; have c20 := pat_c20 HQ.out.box; have c21 := pat_c21 HQ.out.box; have c22 := pat_c22 HQ.out.box; have c23 := pat_c23 HQ.out.box; have c24 := pat_c24 HQ.out.box))
      go_ret
      exact ⟨ret_int HE.out.symm, HQ.out.below⟩
    have HF := form_good HL.out HM.out (show formB ⟨pos, false, neg⟩ = true by simp [formB, k1, k2])
    have H1 : Aside0 (Good pos) := ⟨HF.1⟩
    have HE := Aside0.mk (show checkP ⟨pos, false, neg⟩ = if (wholeS ⟨pos, false, neg⟩).size > 128 then 142 else 0 by simp [checkP, formB, k1, k2])
    clear HF
    by_cases hs : (wholeS ⟨pos, false, neg⟩).size > 128
    all_goals
      first | rw [if_pos hs] at HE | rw [if_neg hs] at HE
      first | have d1 := len_yes hs | have d1 := len_no hs
      clear hs
      go_enter Try.func11, Try.ntmps11
      go_wp2_with (first | ((with_reducible refine gate_dst (N := 1) rfl ?_); refine box_event ?hg (N := 1) ?hd (cs := patC L M ⟨pos, false, neg⟩) (t := 26) ?hr ?_; (case hd => rfl); (case hg => rfl); (case hr => first | (go_simp; done) | (go_simp; rfl)); intro gb hgb w1 hbox hbb; subst hgb; have HQ : Aside0 (PW w w1 L M ⟨pos, false, neg⟩) := ⟨⟨hbox, hbb⟩⟩; clear hbox hbb; have c0 := pat_c0 HQ.out.box; have c1 := pat_c1 HQ.out.box; have c2 := pat_c2 HQ.out.box; have c3 := pat_c3 HQ.out.box; have c4 := pat_c4 HQ.out.box; have c5 := pat_c5 HQ.out.box; have c6 := pat_c6 HQ.out.box; have c7 := pat_c7 HQ.out.box; have c8 := pat_c8 HQ.out.box; have c9 := pat_c9 HQ.out.box; have c10 := pat_c10 HQ.out.box; have c11 := pat_c11 HQ.out.box; have c12 := pat_c12 HQ.out.box; have c13 := pat_c13 HQ.out.box; have c14 := pat_c14 HQ.out.box; have c15 := pat_c15 HQ.out.box; have c16 := pat_c16 HQ.out.box; have c17 := pat_c17 HQ.out.box; have c18 := pat_c18 HQ.out.box; have c19 := pat_c19 HQ.out.box; have c20 := pat_c20 HQ.out.box; have c21 := pat_c21 HQ.out.box; have c22 := pat_c22 HQ.out.box; have c23 := pat_c23 HQ.out.box; have c24 := pat_c24 HQ.out.box) | ((with_reducible refine gate_dst (N := 28) rfl ?_); refine wpList_load_row rfl 26 (.tmp 1) rfl w.heap.size rfl 26 (patC L M ⟨pos, false, neg⟩) (0, 0) _ HQ.out.box Try.underlying26 rfl info26 ?_) | (go_at_call 23; (with_reducible refine (half_calls L pos _ (HL.out.below HQ.out.below)).mono ?_); rintro e w1 ⟨rfl, hb⟩; have nq := Aside0.mk (HQ.out.step hb); clear HQ hb c0 c1 c2 c3 c4 c5 c6 c7 c8 c9 c10 c11 c12 c13 c14 c15 c16 c17 c18 c19 c20 c21 c22 c23 c24; have HQ := nq; clear nq; have c0 := pat_c0 HQ.out.box; have c1 := pat_c1 HQ.out.box; have c2 := pat_c2 HQ.out.box; have c3 := pat_c3 HQ.out.box; have c4 := pat_c4 HQ.out.box; have c5 := pat_c5 HQ.out.box; have c6 := pat_c6 HQ.out.box; have c7 := pat_c7 HQ.out.box; have c8 := pat_c8 HQ.out.box; have c9 := pat_c9 HQ.out.box; have c10 := pat_c10 HQ.out.box; have c11 := pat_c11 HQ.out.box; have c12 := pat_c12 HQ.out.box; have c13 := pat_c13 HQ.out.box; have c14 := pat_c14 HQ.out.box; have c15 := pat_c15 HQ.out.box; have c16 := pat_c16 HQ.out.box; have c17 := pat_c17 HQ.out.box; have c18 := pat_c18 HQ.out.box; have c19 := pat_c19 HQ.out.box; have c20 := pat_c20 HQ.out.box; have c21 := pat_c21 HQ.out.box; have c22 := pat_c22 HQ.out.box; have c23 := pat_c23 HQ.out.box; have c24 := pat_c24 HQ.out.box) | (go_at_call 24; (with_reducible refine (zero_calls M neg _).mono ?_); rintro e w1 ⟨rfl, hb⟩; have nq := Aside0.mk (HQ.out.step hb); clear HQ hb c0 c1 c2 c3 c4 c5 c6 c7 c8 c9 c10 c11 c12 c13 c14 c15 c16 c17 c18 c19 c20 c21 c22 c23 c24; have HQ := nq; clear nq; have c0 := pat_c0 HQ.out.box; have c1 := pat_c1 HQ.out.box; have c2 := pat_c2 HQ.out.box; have c3 := pat_c3 HQ.out.box; have c4 := pat_c4 HQ.out.box; have c5 := pat_c5 HQ.out.box; have c6 := pat_c6 HQ.out.box; have c7 := pat_c7 HQ.out.box; have c8 := pat_c8 HQ.out.box; have c9 := pat_c9 HQ.out.box; have c10 := pat_c10 HQ.out.box; have c11 := pat_c11 HQ.out.box; have c12 := pat_c12 HQ.out.box; have c13 := pat_c13 HQ.out.box; have c14 := pat_c14 HQ.out.box; have c15 := pat_c15 HQ.out.box; have c16 := pat_c16 HQ.out.box; have c17 := pat_c17 HQ.out.box; have c18 := pat_c18 HQ.out.box; have c19 := pat_c19 HQ.out.box; have c20 := pat_c20 HQ.out.box; have c21 := pat_c21 HQ.out.box; have c22 := pat_c22 HQ.out.box; have c23 := pat_c23 HQ.out.box; have c24 := pat_c24 HQ.out.box) | (go_at_call 20; (with_reducible refine (whole_walk L M pos false neg _ (Glob_below HG.out HQ.out.below) (HL.out.below HQ.out.below) (HM.out.below HQ.out.below) H1.out (fun e => Bool.noConfusion e)).mono ?_); rintro e w1 ⟨rfl, hb⟩; have nq := Aside0.mk (HQ.out.step hb); clear HQ hb c0 c1 c2 c3 c4 c5 c6 c7 c8 c9 c10 c11 c12 c13 c14 c15 c16 c17 c18 c19 c20 c21 c22 c23 c24; have HQ := nq; clear nq; have c0 := pat_c0 HQ.out.box; have c1 := pat_c1 HQ.out.box; have c2 := pat_c2 HQ.out.box; have c3 := pat_c3 HQ.out.box; have c4 := pat_c4 HQ.out.box; have c5 := pat_c5 HQ.out.box; have c6 := pat_c6 HQ.out.box; have c7 := pat_c7 HQ.out.box; have c8 := pat_c8 HQ.out.box; have c9 := pat_c9 HQ.out.box; have c10 := pat_c10 HQ.out.box; have c11 := pat_c11 HQ.out.box; have c12 := pat_c12 HQ.out.box; have c13 := pat_c13 HQ.out.box; have c14 := pat_c14 HQ.out.box; have c15 := pat_c15 HQ.out.box; have c16 := pat_c16 HQ.out.box; have c17 := pat_c17 HQ.out.box; have c18 := pat_c18 HQ.out.box; have c19 := pat_c19 HQ.out.box; have c20 := pat_c20 HQ.out.box; have c21 := pat_c21 HQ.out.box; have c22 := pat_c22 HQ.out.box; have c23 := pat_c23 HQ.out.box; have c24 := pat_c24 HQ.out.box))
      go_ret
      exact ⟨ret_int HE.out.symm, HQ.out.below⟩
set_option maxHeartbeats 8000000 in
set_option maxRecDepth 100000 in
theorem pprint_walk (L M : Sl) (pos : Sb) (ng : Bool) (neg : Sb) (w : World) (hG : Glob w) (hl : SubOk w L pos) (hm : SubOk w M neg) : Calls Try.prog 9 #[patV L M ⟨pos, ng, neg⟩] w fun e w' => e = .returned (.tuple #[.string (printP ⟨pos, ng, neg⟩).1, .int .i64 (printP ⟨pos, ng, neg⟩).2]) ∧ Below w.heap.size w w' := by
  have HL := Aside0.mk hl
  have HM := Aside0.mk hm
  have HG := Aside0.mk hG
  by_cases hc : checkP ⟨pos, ng, neg⟩ = 0
  · have HE := Aside0.mk (show printP ⟨pos, ng, neg⟩ = (wholeS ⟨pos, ng, neg⟩, 0) by unfold printP; rw [if_pos hc])
    have hf : formB ⟨pos, ng, neg⟩ = true := by
      unfold checkP at hc
      split at hc
      · assumption
      · exact absurd hc (by decide)
    have HF := form_good hl hm hf
    have H1 : Aside0 (Good pos) := ⟨HF.1⟩
    have H2 : Aside0 (ng = true → Good neg) := ⟨HF.2⟩
    have d1 : (checkP ⟨pos, ng, neg⟩ != 0) = false := by rw [hc]; rfl
    clear hl hm hG hc hf HF
    go_enter Try.func9, Try.ntmps9
    go_wp2_with (first | ((with_reducible refine gate_dst (N := 1) rfl ?_); refine box_event ?hg (N := 1) ?hd (cs := patC L M ⟨pos, ng, neg⟩) (t := 26) ?hr ?_; (case hd => rfl); (case hg => rfl); (case hr => first | (go_simp; done) | (go_simp; rfl)); intro gb hgb w1 hbox hbb; subst hgb; have HQ : Aside0 (PW w w1 L M ⟨pos, ng, neg⟩) := ⟨⟨hbox, hbb⟩⟩; clear hbox hbb; have c0 := pat_c0 HQ.out.box; have c1 := pat_c1 HQ.out.box; have c2 := pat_c2 HQ.out.box; have c3 := pat_c3 HQ.out.box; have c4 := pat_c4 HQ.out.box; have c5 := pat_c5 HQ.out.box; have c6 := pat_c6 HQ.out.box; have c7 := pat_c7 HQ.out.box; have c8 := pat_c8 HQ.out.box; have c9 := pat_c9 HQ.out.box; have c10 := pat_c10 HQ.out.box; have c11 := pat_c11 HQ.out.box; have c12 := pat_c12 HQ.out.box; have c13 := pat_c13 HQ.out.box; have c14 := pat_c14 HQ.out.box; have c15 := pat_c15 HQ.out.box; have c16 := pat_c16 HQ.out.box; have c17 := pat_c17 HQ.out.box; have c18 := pat_c18 HQ.out.box; have c19 := pat_c19 HQ.out.box; have c20 := pat_c20 HQ.out.box; have c21 := pat_c21 HQ.out.box; have c22 := pat_c22 HQ.out.box; have c23 := pat_c23 HQ.out.box; have c24 := pat_c24 HQ.out.box) | ((with_reducible refine gate_dst (N := 5) rfl ?_); refine wpList_load_row rfl 26 (.tmp 1) rfl w.heap.size rfl 26 (patC L M ⟨pos, ng, neg⟩) (0, 0) _ HQ.out.box Try.underlying26 rfl info26 ?_) | ((with_reducible refine gate_dst (N := 10) rfl ?_); refine wpList_load_row rfl 26 (.tmp 1) rfl w.heap.size rfl 26 (patC L M ⟨pos, ng, neg⟩) (0, 0) _ HQ.out.box Try.underlying26 rfl info26 ?_) | (go_at_call 11; (with_reducible refine (pcheck_walk L M pos ng neg _ (Glob_below HG.out HQ.out.below) (HL.out.below HQ.out.below) (HM.out.below HQ.out.below)).mono ?_); rintro e w1 ⟨rfl, hb⟩; have nq := Aside0.mk (HQ.out.step hb); clear HQ hb c0 c1 c2 c3 c4 c5 c6 c7 c8 c9 c10 c11 c12 c13 c14 c15 c16 c17 c18 c19 c20 c21 c22 c23 c24; have HQ := nq; clear nq; have c0 := pat_c0 HQ.out.box; have c1 := pat_c1 HQ.out.box; have c2 := pat_c2 HQ.out.box; have c3 := pat_c3 HQ.out.box; have c4 := pat_c4 HQ.out.box; have c5 := pat_c5 HQ.out.box; have c6 := pat_c6 HQ.out.box; have c7 := pat_c7 HQ.out.box; have c8 := pat_c8 HQ.out.box; have c9 := pat_c9 HQ.out.box; have c10 := pat_c10 HQ.out.box; have c11 := pat_c11 HQ.out.box; have c12 := pat_c12 HQ.out.box; have c13 := pat_c13 HQ.out.box; have c14 := pat_c14 HQ.out.box; have c15 := pat_c15 HQ.out.box; have c16 := pat_c16 HQ.out.box; have c17 := pat_c17 HQ.out.box; have c18 := pat_c18 HQ.out.box; have c19 := pat_c19 HQ.out.box; have c20 := pat_c20 HQ.out.box; have c21 := pat_c21 HQ.out.box; have c22 := pat_c22 HQ.out.box; have c23 := pat_c23 HQ.out.box; have c24 := pat_c24 HQ.out.box) | (go_at_call 20; (with_reducible refine (whole_walk L M pos ng neg _ (Glob_below HG.out HQ.out.below) (HL.out.below HQ.out.below) (HM.out.below HQ.out.below) H1.out H2.out).mono ?_); rintro e w1 ⟨rfl, hb⟩; have nq := Aside0.mk (HQ.out.step hb); clear HQ hb c0 c1 c2 c3 c4 c5 c6 c7 c8 c9 c10 c11 c12 c13 c14 c15 c16 c17 c18 c19 c20 c21 c22 c23 c24; have HQ := nq; clear nq; have c0 := pat_c0 HQ.out.box; have c1 := pat_c1 HQ.out.box; have c2 := pat_c2 HQ.out.box; have c3 := pat_c3 HQ.out.box; have c4 := pat_c4 HQ.out.box; have c5 := pat_c5 HQ.out.box; have c6 := pat_c6 HQ.out.box; have c7 := pat_c7 HQ.out.box; have c8 := pat_c8 HQ.out.box; have c9 := pat_c9 HQ.out.box; have c10 := pat_c10 HQ.out.box; have c11 := pat_c11 HQ.out.box; have c12 := pat_c12 HQ.out.box; have c13 := pat_c13 HQ.out.box; have c14 := pat_c14 HQ.out.box; have c15 := pat_c15 HQ.out.box; have c16 := pat_c16 HQ.out.box; have c17 := pat_c17 HQ.out.box; have c18 := pat_c18 HQ.out.box; have c19 := pat_c19 HQ.out.box; have c20 := pat_c20 HQ.out.box; have c21 := pat_c21 HQ.out.box; have c22 := pat_c22 HQ.out.box; have c23 := pat_c23 HQ.out.box; have c24 := pat_c24 HQ.out.box))
    go_ret2
    exact ⟨by rw [HE.out]; rfl, HQ.out.below⟩
  · have HE := Aside0.mk (show printP ⟨pos, ng, neg⟩ = (⟨#[]⟩, checkP ⟨pos, ng, neg⟩) by unfold printP; rw [if_neg hc])
    have d1 : (checkP ⟨pos, ng, neg⟩ != 0) = true := bne_iff_ne.mpr hc
    clear hl hm hG hc
    go_enter Try.func9, Try.ntmps9
    go_wp2_with (first | ((with_reducible refine gate_dst (N := 1) rfl ?_); refine box_event ?hg (N := 1) ?hd (cs := patC L M ⟨pos, ng, neg⟩) (t := 26) ?hr ?_; (case hd => rfl); (case hg => rfl); (case hr => first | (go_simp; done) | (go_simp; rfl)); intro gb hgb w1 hbox hbb; subst hgb; have HQ : Aside0 (PW w w1 L M ⟨pos, ng, neg⟩) := ⟨⟨hbox, hbb⟩⟩; clear hbox hbb; have c0 := pat_c0 HQ.out.box; have c1 := pat_c1 HQ.out.box; have c2 := pat_c2 HQ.out.box; have c3 := pat_c3 HQ.out.box; have c4 := pat_c4 HQ.out.box; have c5 := pat_c5 HQ.out.box; have c6 := pat_c6 HQ.out.box; have c7 := pat_c7 HQ.out.box; have c8 := pat_c8 HQ.out.box; have c9 := pat_c9 HQ.out.box; have c10 := pat_c10 HQ.out.box; have c11 := pat_c11 HQ.out.box; have c12 := pat_c12 HQ.out.box; have c13 := pat_c13 HQ.out.box; have c14 := pat_c14 HQ.out.box; have c15 := pat_c15 HQ.out.box; have c16 := pat_c16 HQ.out.box; have c17 := pat_c17 HQ.out.box; have c18 := pat_c18 HQ.out.box; have c19 := pat_c19 HQ.out.box; have c20 := pat_c20 HQ.out.box; have c21 := pat_c21 HQ.out.box; have c22 := pat_c22 HQ.out.box; have c23 := pat_c23 HQ.out.box; have c24 := pat_c24 HQ.out.box) | ((with_reducible refine gate_dst (N := 5) rfl ?_); refine wpList_load_row rfl 26 (.tmp 1) rfl w.heap.size rfl 26 (patC L M ⟨pos, ng, neg⟩) (0, 0) _ HQ.out.box Try.underlying26 rfl info26 ?_) | (go_at_call 11; (with_reducible refine (pcheck_walk L M pos ng neg _ (Glob_below HG.out HQ.out.below) (HL.out.below HQ.out.below) (HM.out.below HQ.out.below)).mono ?_); rintro e w1 ⟨rfl, hb⟩; have nq := Aside0.mk (HQ.out.step hb); clear HQ hb c0 c1 c2 c3 c4 c5 c6 c7 c8 c9 c10 c11 c12 c13 c14 c15 c16 c17 c18 c19 c20 c21 c22 c23 c24; have HQ := nq; clear nq; have c0 := pat_c0 HQ.out.box; have c1 := pat_c1 HQ.out.box; have c2 := pat_c2 HQ.out.box; have c3 := pat_c3 HQ.out.box; have c4 := pat_c4 HQ.out.box; have c5 := pat_c5 HQ.out.box; have c6 := pat_c6 HQ.out.box; have c7 := pat_c7 HQ.out.box; have c8 := pat_c8 HQ.out.box; have c9 := pat_c9 HQ.out.box; have c10 := pat_c10 HQ.out.box; have c11 := pat_c11 HQ.out.box; have c12 := pat_c12 HQ.out.box; have c13 := pat_c13 HQ.out.box; have c14 := pat_c14 HQ.out.box; have c15 := pat_c15 HQ.out.box; have c16 := pat_c16 HQ.out.box; have c17 := pat_c17 HQ.out.box; have c18 := pat_c18 HQ.out.box; have c19 := pat_c19 HQ.out.box; have c20 := pat_c20 HQ.out.box; have c21 := pat_c21 HQ.out.box; have c22 := pat_c22 HQ.out.box; have c23 := pat_c23 HQ.out.box; have c24 := pat_c24 HQ.out.box))
    go_ret2
    exact ⟨by rw [HE.out]; rfl, HQ.out.below⟩
end Go.Proofs.Ytacnjemndfmbhaa.Q
end
