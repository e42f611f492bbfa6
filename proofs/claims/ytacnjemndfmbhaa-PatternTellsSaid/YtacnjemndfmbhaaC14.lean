import Derived.Deep.CutBlock
import Derived.Test.YtacnjemndfmbhaaC10
import Derived.Test.YtacnjemndfmbhaaC12
import Derived.Test.YtacnjemndfmbhaaC13
namespace Go.Proofs.Ytacnjemndfmbhaa
open Go.RowKit
theorem aP57 {p : Prop} (h : p := by
    clear e a0 b0 b1 d q0 q1
    go_wp2_with (first | (go_at_call 60; (with_reducible refine (rprint_calls L.A L.c x.p _ (Kd.C_below HR.out.r.p HQ.out.below) HR.out.r.pc HR.out.p).mono ?_); rintro e w1 ⟨rfl, hb⟩; have nq := Aside0.mk (HQ.out.step hb); clear HQ hb; have HQ := nq; clear nq; obtain ⟨c0, c1, c2, c3, c4, c5, c6, c7, c8, c9, c10, c11⟩ := sub_at HQ.out.box) | (go_at_call 60; (with_reducible refine (rprint_calls L.B L.d x.s _ (Kd.C_below HR.out.r.s HQ.out.below) HR.out.r.sc HR.out.s).mono ?_); rintro e w1 ⟨rfl, hb⟩; have nq := Aside0.mk (HQ.out.step hb); clear HQ hb; have HQ := nq; clear nq; obtain ⟨c0, c1, c2, c3, c4, c5, c6, c7, c8, c9, c10, c11⟩ := sub_at HQ.out.box) | (go_at_call 58; (with_reducible refine (rdigits_calls L x (wideS x) _ HFI.out HX.out.wide0 HX.out.wide1).mono ?_); rintro e w1 ⟨rfl, hb⟩; have nq := Aside0.mk (HQ.out.step hb); clear HQ hb; have HQ := nq; clear nq; obtain ⟨c0, c1, c2, c3, c4, c5, c6, c7, c8, c9, c10, c11⟩ := sub_at HQ.out.box))
    go_ret
    exact ⟨ret_str HT0.out, HQ.out.below⟩) : p := h
theorem aP95 {p : Prop} (h : p := by unfold leastS at hn; rw [if_pos hpr] at hn; unfold mx at hn; (repeat' split at hn) <;> omega) : p := h
theorem aP94 {p : Prop} (h : p := by unfold leastS mx at hn; (repeat' split at hn) <;> omega) : p := h
end Go.Proofs.Ytacnjemndfmbhaa
section
namespace Go.Proofs.Ytacnjemndfmbhaa.Q
open Go.RowKit Go.Proofs.Ytacnjemndfmbhaa.A Go.Proofs.Ytacnjemndfmbhaa.R1 Go.Proofs.YtacnjemndfmbhaaW.PrintWords Go.Proofs.YtacnjemndfmbhaaW.PrintLast Go.Proofs.YtacnjemndfmbhaaW.PrintMore
set_option linter.unusedVariables false
set_option linter.unusedSimpArgs false
def clean : List UInt8 → Bool → Option Bool
  | [], q => some q
  | b :: r, q => if b = 39 then clean r (!q) else if (!q && decide (b ∈ LETTERS)) = true then none else clean r q
theorem clean_app : ∀ (a b : List UInt8) (q : Bool), clean (a ++ b) q = (clean a q).bind (clean b)
  | [], b, q => rfl
  | x :: a, b, q => by
    show (if x = 39 then clean (a ++ b) (!q) else if (!q && decide (x ∈ LETTERS)) = true then none else clean (a ++ b) q) = (if x = 39 then clean a (!q) else if (!q && decide (x ∈ LETTERS)) = true then none else clean a q).bind (clean b)
    rw [clean_app a b, clean_app a b]
    (repeat' split) <;> rfl
theorem clean_none : ∀ (l : List UInt8) (q : Bool), (∀ b ∈ l, b ≠ 39) → (q = true ∨ ∀ b ∈ l, b ∉ LETTERS) → clean l q = some q
  | [], q, _, _ => rfl
  | b :: r, q, h, hl => by
    have hr := clean_none r q (fun x hx => h x (by simp [hx])) (hl.imp id (fun hl x hx => hl x (by simp [hx])))
    unfold clean
    rw [if_neg (h b (by simp)), hr]
    split
    · rename_i hc
      simp only [Bool.and_eq_true, decide_eq_true_eq] at hc
      rcases hl with rfl | hl
      · exact absurd hc.1 (by decide)
      · exact absurd hc.2 (hl b (by simp))
    · rfl
theorem contains_one (b : UInt8) : Lib.contains LETTERS [b] = decide (b ∈ LETTERS) := by
  have h : ∀ n : Fin 256, Lib.contains LETTERS [UInt8.ofNat n] = decide (UInt8.ofNat n ∈ LETTERS) := by decide +kernel
  have := h ⟨b.toNat, b.toNat_lt⟩
  simpa only [UInt8.ofNat_toNat] using this
theorem high_letters {b : UInt8} (h : 128 ≤ b.toNat) : b ∉ LETTERS := by
  intro hm
  have : ∀ x ∈ LETTERS, x.toNat < 128 := by decide
  have := this b hm
  omega
theorem rune_letters {c : ByteArray} (h : IsRune c) (hl : letB c = false) : ∀ b ∈ c.data.toList, b ∉ LETTERS := by
  rcases rune_bytes h with ⟨b, e, hb⟩ | ⟨b, r, e, hb⟩
  · intro x hx
    rw [e, List.mem_singleton] at hx
    subst hx
    have hc : Lib.contains LETTERS c.data.toList = false := hl
    rw [e, contains_one] at hc
    exact of_decide_eq_false hc
  · intro x hx
    rw [e] at hx
    exact high_letters (hb x hx)
theorem rune_clean {c : ByteArray} {q : Bool} (h : IsRune c) (hq : ¬ quoteC c) (hl : q = true ∨ letB c = false) : clean c.data.toList q = some q :=
  clean_none _ q (rune_no39 h hq) (hl.imp id (fun hl => rune_letters h hl))
theorem Qc_data : Qc.data.toList = [39] := rfl
theorem dbl_clean : ∀ (raw : List ByteArray) (q : Bool), (∀ c ∈ raw, IsRune c) → (q = true ∨ ∀ c ∈ raw, quoteC c) → clean (joinB (dbl raw)).data.toList q = some q
  | [], q, _, _ => rfl
  | c :: cs, q, hr, hq => by
    have ih := dbl_clean cs q (fun x hx => hr x (by simp [hx])) (hq.imp id (fun h x hx => h x (by simp [hx])))
    unfold dbl
    by_cases h : quoteC c
    · rw [if_pos h, join_cons, join_cons, clean_app, Qc_data]
      show clean (joinB (dbl cs)).data.toList (!(!q)) = some q
      rw [Bool.not_not]
      exact ih
    · rw [if_neg h, join_cons, clean_app, rune_clean (hr c (by simp)) h (.inl (by
        rcases hq with hq | hq
        · exact hq
        · exact absurd (hq c (by simp)) h))]
      exact ih
theorem wrap_clean (raw : List ByteArray) (bare : Bool) (hr : ∀ c ∈ raw, IsRune c) (h : Rows_ raw bare) : clean (joinB (wrapR raw bare)).data.toList false = some false := by
  unfold wrapR
  cases bare with
  | true =>
    rw [if_pos rfl]
    exact dbl_clean raw false hr (.inr (by unfold Rows_ at h; simpa using h))
  | false =>
    rw [if_neg (by decide), join_cons, clean_app, Qc_data]
    show clean (joinB (dbl raw ++ [Qc])).data.toList true = some false
    rw [join_app, ByteArray.data_append, Array.toList_append, clean_app, dbl_clean raw true hr (.inl rfl), join_one]
    rfl
theorem quote_clean : ∀ (cs raw : List ByteArray) (bare : Bool), (∀ c ∈ cs, IsRune c) → (∀ c ∈ raw, IsRune c) → Rows_ raw bare → clean (joinB (quoteR cs raw bare)).data.toList false = some false
  | [], raw, bare, hc, hr, h => wrap_clean raw bare hr h
  | c :: cs, raw, bare, hc, hr, h => by
    have hcs : ∀ c ∈ cs, IsRune c := fun x hx => hc x (by simp [hx])
    have hr2 : ∀ x ∈ raw ++ [c], IsRune x := fun x hx => by
      rcases List.mem_append.mp hx with hx | hx
      · exact hr x hx
      · rw [List.mem_singleton] at hx; subst hx; exact hc x (by simp)
    unfold quoteR
    by_cases hq : quoteC c
    · rw [if_pos hq]
      refine quote_clean cs _ bare hcs hr2 ?_
      exact aP49
    · rw [if_neg hq]
      by_cases hk : (decide (0 < kindS c) || letB c) = true
      · rw [if_pos hk]
        refine quote_clean cs _ false hcs hr2 ?_
        unfold Rows_
        simp only [Bool.false_eq_true, if_false]
        exact ⟨c, by simp, hq⟩
      · rw [if_neg hk]
        have hl : letB c = false := by
          cases hb : letB c with
          | false => rfl
          | true => exact absurd (by rw [hb, Bool.or_true]) hk
        rw [join_app, ByteArray.data_append, Array.toList_append, clean_app, wrap_clean raw bare hr h, join_cons]
        show clean (c.data.toList ++ (joinB (quoteR cs [] true)).data.toList) false = some false
        rw [clean_app, rune_clean (hc c (by simp)) hq (.inr hl)]
        refine quote_clean cs [] true hcs (fun x hx => by cases hx) ?_
        unfold Rows_
        simp
theorem reps_clean (n : Nat) : clean (joinB (List.replicate n currC)).data.toList false = some false := by
  induction n with
  | zero => rfl
  | succ n ih =>
    rw [List.replicate_succ, join_cons, clean_app, show clean currC.data.toList false = some false by decide +kernel]
    exact ih
theorem sign_clean (k : Int) : clean (signC k).data.toList false = some false := by
  unfold signC
  (repeat' split) <;> decide +kernel
theorem tok_clean (t : S53) : clean (joinB (tokR t)).data.toList false = some false := by
  unfold tokR
  by_cases h0 : t.f0 = 0
  · rw [if_pos h0]
    exact quote_clean _ [] true (runesAt_runes t.f2 t.f2.size 0 (Int.le_refl _) (by omega) (by omega)) (fun x hx => by cases hx) (by unfold Rows_; simp)
  · rw [if_neg h0]
    by_cases h5 : t.f0 = 5
    · rw [if_pos h5]; exact reps_clean _
    · rw [if_neg h5, join_one]; exact sign_clean _
theorem all_clean : ∀ l : List S53, clean (joinB (allR l)).data.toList false = some false
  | [] => rfl
  | t :: r => by
    rw [all_cons, join_app, ByteArray.data_append, Array.toList_append, clean_app, tok_clean]
    exact all_clean r
theorem print_clean (l : List S53) : clean (printT l).1.data.toList false = some false := by
  rw [printT_eq]
  unfold A.printT
  split
  · exact all_clean l
  · rfl
theorem parse_print (l : List S53) (h : checkS l = 0) : parseT (printT l).1 = (l, 0) := by
  rw [checkS_eq] at h
  rw [printT_eq, parseT_eq]
  unfold A.printT
  rw [if_pos h]
  exact parse_all l h
theorem print_nil : (printT []).1 = ⟨#[]⟩ := by
  rw [printT_eq]
  decide +kernel
theorem print_ne {l : List S53} (h : checkS l = 0) (hn : l ≠ []) : (printT l).1.data.toList ≠ [] := by
  intro e
  have h1 := parse_print l h
  have h2 := parse_print [] check_nil
  rw [print_nil] at h2
  rw [bytes_of _ _ e] at h1
  have : (l, (0 : Int)) = ([], 0) := h1.symm.trans h2
  exact hn (Prod.mk.inj this).1
structure Dr (s : ByteArray) (p : Int) (l : List UInt8) : Prop where
  p0 : 0 ≤ p
  p1 : p ≤ s.size
  eq : s.data.toList.drop p.toNat = l
namespace Dr
variable {s : ByteArray} {p : Int} {l a r : List UInt8} {b : UInt8}
theorem len (h : Dr s p l) : (l.length : Int) = s.size - p := by
  have hl : s.data.toList.length = s.size := rfl
  have := h.p0
  have := h.p1
  rw [← h.eq, List.length_drop]
  omega
theorem app (h : Dr s p (a ++ r)) : Dr s (p + a.length) r := by
  have hl := h.len
  rw [List.length_append] at hl
  have := h.p0
  refine ⟨by omega, by omega, ?_⟩
  rw [show (p + a.length).toNat = p.toNat + a.length by omega, ← List.drop_drop, h.eq, List.drop_left]
theorem next (h : Dr s p (b :: r)) : Dr s (p + 1) r := app (a := [b]) h
theorem lt (h : Dr s p (b :: r)) : p < s.size := by
  have := h.len
  rw [List.length_cons] at this
  omega
theorem bt (h : Dr s p (b :: r)) : bt s p = b.toNat := by
  have h0 := h.p0
  have hl : s.data.toList.length = s.size := rfl
  have hp : p.toNat < s.data.toList.length := by have := h.lt; omega
  have h1 := bt_list s p.toNat hp
  rw [show ((p.toNat : Nat) : Int) = p by omega] at h1
  have h2 := h.eq
  rw [List.drop_eq_getElem_cons hp] at h2
  rw [h1, (List.cons.inj h2).1]
theorem at_ (h : Dr s p (b :: r)) (c : UInt8) : bAt s p c.toNat = decide (b = c) := by
  unfold bAt
  rw [decide_eq_true h.lt, Bool.true_and, h.bt]
  by_cases e : b = c
  · subst e; simp
  · rw [decide_eq_false e, beq_eq_false_iff_ne]
    intro e2
    exact e (UInt8.toNat_inj.mp (by omega))
theorem at_nil (h : Dr s p []) (c : Int) : bAt s p c = false := by
  have := h.len
  simp only [List.length_nil] at this
  unfold bAt
  rw [decide_eq_false (by omega)]
  rfl
theorem at_no (h : Dr s p l) (c : UInt8) (hn : ∀ b r, l = b :: r → b ≠ c) : bAt s p c.toNat = false := by
  cases l with
  | nil => exact h.at_nil _
  | cons b r => rw [h.at_ c, decide_eq_false (hn b r rfl)]
theorem ext (h : Dr s p (a ++ r)) : s.extract p.toNat (p + a.length).toNat = ⟨a.toArray⟩ := by
  apply bytes_of
  have := h.p0
  rw [ByteArray.data_extract, Array.toList_extract, List.extract_eq_take_drop, h.eq, show (p + a.length).toNat - p.toNat = a.length by omega, List.take_left]
theorem start (s : ByteArray) : Dr s 0 s.data.toList := ⟨Int.le_refl _, by omega, rfl⟩
end Dr
theorem runN_reps {s : ByteArray} (b : UInt8) : ∀ (k : Nat) (p : Int) (r : List UInt8), Dr s p (List.replicate k b ++ r) → (∀ c q, r = c :: q → c ≠ b) → runN s b.toNat p = k
  | 0, p, r, h, hr => by
    rw [runN_step, Dr.at_no h b hr]
    rfl
  | k + 1, p, r, h, hr => by
    rw [List.replicate_succ, List.cons_append] at h
    rw [runN_step, h.at_ b, decide_eq_true rfl, if_pos rfl, runN_reps b k (p + 1) r h.next hr]
    omega
def PL (s : ByteArray) (p : Int) (G : List Int) (z : Int) : Option (Int × List Int × Int) := plF s ((s.size : Int) - p).toNat p G z
theorem last_app (P : List Int) (g : Int) : lastG (P ++ [g]) = g := by
  unfold lastG rd
  rw [List.length_append, show ((P.length + [g].length : Nat) : Int) - 1 = (P.length : Int) by simp, Int.toNat_natCast]
  simp [List.getD]
theorem bump_app (P : List Int) (g : Int) : bump (P ++ [g]) = P ++ [g + 1] := by
  unfold bump
  rw [last_app, List.length_append, show P.length + [g].length - 1 = P.length by simp]
  simp [List.set_append]
theorem PL_step {s : ByteArray} {p : Int} {b : UInt8} {r : List UInt8} (h : Dr s p (b :: r)) (G : List Int) (z : Int) : PL s p G z = (if b = 35 then (if 0 < z then none else PL s (p + 1) (bump G) z) else if b = 48 then PL s (p + 1) (bump G) (z + 1) else if b = 44 then (if lastG G = 0 then none else PL s (p + 1) (G ++ [0]) z) else some (p, G, z)) := by
  have hlt := h.lt
  unfold PL
  rw [show ((s.size : Int) - p).toNat = ((s.size : Int) - (p + 1)).toNat + 1 by omega]
  conv => lhs; unfold plF
  rw [h.bt]
  have e : ∀ c : UInt8, ((b.toNat : Int) = (c.toNat : Int)) ↔ b = c := fun c => ⟨fun e => UInt8.toNat_inj.mp (by omega), fun e => by rw [e]⟩
  have e35 := e 35
  have e48 := e 48
  have e44 := e 44
  simp only [show ((35 : UInt8).toNat : Int) = 35 from rfl, show ((48 : UInt8).toNat : Int) = 48 from rfl, show ((44 : UInt8).toNat : Int) = 44 from rfl] at e35 e48 e44
  simp only [e35, e48, e44]
theorem PL_end {s : ByteArray} {p : Int} {r : List UInt8} (h : Dr s p r) (hr : ∀ c q, r = c :: q → c ≠ 35 ∧ c ≠ 48 ∧ c ≠ 44) (G : List Int) (z : Int) : PL s p G z = some (p, G, z) := by
  cases r with
  | nil =>
    have := h.len
    simp only [List.length_nil] at this
    unfold PL
    rw [show ((s.size : Int) - p).toNat = 0 by omega]
    rfl
  | cons c q =>
    obtain ⟨h1, h2, h3⟩ := hr c q rfl
    rw [PL_step h, if_neg h1, if_neg h2, if_neg h3]
theorem PL_hash {s : ByteArray} (P : List Int) : ∀ (k : Nat) (p g : Int) (r : List UInt8), Dr s p (List.replicate k 35 ++ r) → PL s p (P ++ [g]) 0 = PL s (p + k) (P ++ [g + k]) 0
  | 0, p, g, r, h => by rw [show p + ((0 : Nat) : Int) = p by omega, show g + ((0 : Nat) : Int) = g by omega]
  | k + 1, p, g, r, h => by
    rw [List.replicate_succ, List.cons_append] at h
    rw [PL_step h, if_pos rfl, if_neg (by omega), bump_app, PL_hash P k (p + 1) (g + 1) r h.next, show p + 1 + (k : Int) = p + ((k + 1 : Nat) : Int) by omega, show g + 1 + (k : Int) = g + ((k + 1 : Nat) : Int) by omega]
theorem PL_zero {s : ByteArray} (P : List Int) : ∀ (k : Nat) (p g z : Int) (r : List UInt8), Dr s p (List.replicate k 48 ++ r) → PL s p (P ++ [g]) z = PL s (p + k) (P ++ [g + k]) (z + k)
  | 0, p, g, z, r, h => by rw [show p + ((0 : Nat) : Int) = p by omega, show g + ((0 : Nat) : Int) = g by omega, show z + ((0 : Nat) : Int) = z by omega]
  | k + 1, p, g, z, r, h => by
    rw [List.replicate_succ, List.cons_append] at h
    rw [PL_step h, if_neg (by decide), if_pos rfl, bump_app, PL_zero P k (p + 1) (g + 1) (z + 1) r h.next, show p + 1 + (k : Int) = p + ((k + 1 : Nat) : Int) by omega, show g + 1 + (k : Int) = g + ((k + 1 : Nat) : Int) by omega, show z + 1 + (k : Int) = z + ((k + 1 : Nat) : Int) by omega]
theorem PL_raw {s : ByteArray} (P : List Int) {im hi lo p g : Int} {r : List UInt8} (h0 : 0 ≤ im) (h1 : 0 ≤ lo) (h2 : lo ≤ hi) (h : Dr s p (rawD im hi lo ++ r)) : PL s p (P ++ [g]) (mx 0 (im - hi)) = PL s (p + (hi - lo)) (P ++ [g + (hi - lo)]) (mx 0 (im - lo)) ∧ Dr s (p + (hi - lo)) r := by
  have hl := raw_len im hi lo h0 h1 h2
  refine ⟨?_, by have := h.app; rw [hl] at this; exact this⟩
  unfold rawD at h
  rw [List.append_assoc] at h
  by_cases c : im ≤ hi
  · have e0 : mx 0 (im - hi) = 0 := by unfold mx; split <;> omega
    rw [e0, PL_hash P _ p g _ h, ]
    have h' := h.app
    rw [List.length_replicate] at h'
    rw [PL_zero P _ _ _ 0 _ h']
    have q1 : p + ((hi - mx lo im).toNat : Int) + ((mn hi im - lo).toNat : Int) = p + (hi - lo) := by unfold mx mn; (repeat' split) <;> omega
    have q2 : g + ((hi - mx lo im).toNat : Int) + ((mn hi im - lo).toNat : Int) = g + (hi - lo) := by omega
    have q3 : (0 : Int) + ((mn hi im - lo).toNat : Int) = mx 0 (im - lo) := by unfold mx mn; (repeat' split) <;> omega
    rw [q1, q2, q3]
  · have e1 : (hi - mx lo im).toNat = 0 := by unfold mx; split <;> omega
    rw [e1, List.replicate_zero, List.nil_append] at h
    rw [PL_zero P _ p g _ _ h]
    have q1 : p + ((mn hi im - lo).toNat : Int) = p + (hi - lo) := by unfold mn; (repeat' split) <;> omega
    have q2 : g + ((mn hi im - lo).toNat : Int) = g + (hi - lo) := by omega
    have q3 : mx 0 (im - hi) + ((mn hi im - lo).toNat : Int) = mx 0 (im - lo) := by unfold mx mn; (repeat' split) <;> omega
    rw [q1, q2, q3]
theorem PL_comma {s : ByteArray} {P : List Int} {g z p : Int} {r : List UInt8} (hg : g ≠ 0) (h : Dr s p ([44] ++ r)) : PL s p (P ++ [g]) z = PL s (p + 1) (P ++ [g] ++ [0]) z ∧ Dr s (p + 1) r := by
  have h' : Dr s p (44 :: r) := h
  refine ⟨?_, h'.next⟩
  rw [PL_step h', if_neg (by decide), if_neg (by decide), if_pos rfl, last_app, if_neg hg]
def RestOk (r : List UInt8) : Prop := ∃ A B, r = A ++ B ∧ clean A false = some false ∧ (B = [] ∨ ∃ q, B = 42 :: q ∨ B = 59 :: q)
theorem clean_head {b : UInt8} {r : List UInt8} (h : clean (b :: r) false = some false) (hb : b ≠ 39) : b ∉ LETTERS ∧ clean r false = some false := by
  unfold clean at h
  rw [if_neg hb] at h
  by_cases hm : b ∈ LETTERS
  · rw [decide_eq_true hm] at h; exact absurd h (by simp)
  · rw [decide_eq_false hm] at h; exact ⟨hm, h⟩
theorem rest_head {r : List UInt8} (h : RestOk r) : ∀ c q, r = c :: q → c ≠ 35 ∧ c ≠ 48 ∧ c ≠ 44 ∧ c ≠ 46 := by
  rintro c q e
  obtain ⟨A, B, hr, hc, hB⟩ := h
  rw [e] at hr
  cases A with
  | nil =>
    rw [List.nil_append] at hr
    rcases hB with rfl | ⟨q', rfl | rfl⟩
    · exact absurd hr (by simp)
    · obtain ⟨rfl, _⟩ := List.cons.inj hr; decide
    · obtain ⟨rfl, _⟩ := List.cons.inj hr; decide
  | cons b A =>
    obtain ⟨rfl, _⟩ := List.cons.inj hr
    by_cases hb : c = 39
    · subst hb; decide
    · have hm := (clean_head hc hb).1
      refine ⟨?_, ?_, ?_, ?_⟩ <;> (rintro rfl; exact hm (by decide))
theorem rest_tail {c : UInt8} {q : List UInt8} (h : RestOk (c :: q)) (h1 : c ≠ 39) (h2 : c ≠ 42) (h3 : c ≠ 59) : RestOk q := by
  obtain ⟨A, B, hr, hc, hB⟩ := h
  cases A with
  | nil =>
    rw [List.nil_append] at hr
    rcases hB with rfl | ⟨q', rfl | rfl⟩
    · exact absurd hr (by simp)
    · exact absurd (List.cons.inj hr).1 h2
    · exact absurd (List.cons.inj hr).1 h3
  | cons b A =>
    obtain ⟨rfl, e⟩ := List.cons.inj hr
    exact ⟨A, B, e, (clean_head hc h1).2, hB⟩
theorem places_back {s : ByteArray} {x h : Sb} {n p : Int} {r : List UInt8} (hf : Fine x) (hn : leastS x ≤ n) (hd : Dr s p (placesL x n ++ r)) (hr : ∀ c q, r = c :: q → c ≠ 35 ∧ c ≠ 48 ∧ c ≠ 44) (hp : h.pr = 0) (hs : h.se = 0) :
    placesF s p h = some (p + (placesL x n).length, {h with im := x.im, pr := x.pr, se := x.se}) ∧ Dr s (p + (placesL x n).length) r := by
  obtain ⟨i0, i1, _, _, _, _, p0, p1, s0, s1, _, _, hps⟩ := hf
  have hend := hd.app
  refine ⟨?_, hend⟩
  have hl1 : 1 ≤ n := aP94
  have hl2 : x.im ≤ n := aP94
  have z0 : mx 0 (x.im - n) = 0 := by unfold mx; split <;> omega
  have zi : mx 0 (x.im - 0) = x.im := by unfold mx; split <;> omega
  have hgo : ∀ (e : Int) (G : List Int), PL s p ([] ++ [0]) (mx 0 (x.im - n)) = PL s e G (mx 0 (x.im - 0)) → Dr s e r → placesF s p h = (groupF G x.im h).map (fun y => (e, y)) := by
    intro e G h1 h2
    rw [z0, zi, PL_end h2 hr] at h1
    show (PL s p [0] 0).bind _ = _
    rw [show PL s p [0] 0 = _ from h1]
    rfl
  have eend : ∀ e : Int, Dr s e r → e = p + (placesL x n).length := fun e he => by have a := he.len; have b := hend.len; omega
  have hd0 := hd
  unfold placesL at hd
  by_cases hpr : 0 < x.pr
  · have hn3 : x.pr + x.se + 1 ≤ n := aP95
    rw [if_pos hpr] at hd
    by_cases hse : 0 < x.se
    · rw [if_pos hse] at hd
      simp only [List.append_assoc] at hd
      obtain ⟨e1, d1⟩ := PL_raw [] (g := 0) i0 (by omega) (by omega) hd
      obtain ⟨e2, d2⟩ := PL_comma (P := []) (z := mx 0 (x.im - (x.pr + x.se))) (show (0 : Int) + (n - (x.pr + x.se)) ≠ 0 by omega) d1
      obtain ⟨e3, d3⟩ := PL_raw ([] ++ [0 + (n - (x.pr + x.se))]) (g := 0) i0 p0 (by omega) d2
      obtain ⟨e4, d4⟩ := PL_comma (P := [] ++ [0 + (n - (x.pr + x.se))]) (z := mx 0 (x.im - x.pr)) (show (0 : Int) + (x.pr + x.se - x.pr) ≠ 0 by omega) d3
      obtain ⟨e5, d5⟩ := PL_raw ([] ++ [0 + (n - (x.pr + x.se))] ++ [0 + (x.pr + x.se - x.pr)]) (g := 0) i0 (Int.le_refl 0) p0 d4
      rw [hgo _ _ (e1.trans (e2.trans (e3.trans (e4.trans e5)))) d5]
      unfold groupF
      rw [last_app]
      have hc : (decide (3 < ([] ++ [0 + (n - (x.pr + x.se))] ++ [0 + (x.pr + x.se - x.pr)] ++ [0 + (x.pr - 0)] : List Int).length) || (0 + (x.pr - 0) == 0)) = false := by
        rw [beq_eq_false_iff_ne.mpr (by omega)]; rfl
      rw [hc, if_neg (by decide)]
      show some (_, _) = some (_, _)
      rw [eend _ d5, show (0 : Int) + (x.pr - 0) = x.pr by omega]
      have e6 : rd ([] ++ [0 + (n - (x.pr + x.se))] ++ [0 + (x.pr + x.se - x.pr)] ++ [x.pr] : List Int) 1 = x.se := by
        show (0 : Int) + (x.pr + x.se - x.pr) = x.se
        omega
      rw [e6]
      rfl
    · rw [if_neg hse] at hd
      simp only [List.append_assoc] at hd
      obtain ⟨e1, d1⟩ := PL_raw [] (g := 0) i0 p0 (by omega) hd
      obtain ⟨e2, d2⟩ := PL_comma (P := []) (z := mx 0 (x.im - x.pr)) (show (0 : Int) + (n - x.pr) ≠ 0 by omega) d1
      obtain ⟨e3, d3⟩ := PL_raw ([] ++ [0 + (n - x.pr)]) (g := 0) i0 (Int.le_refl 0) p0 d2
      rw [hgo _ _ (e1.trans (e2.trans e3)) d3]
      unfold groupF
      rw [last_app]
      have hc : (decide (3 < ([] ++ [0 + (n - x.pr)] ++ [0 + (x.pr - 0)] : List Int).length) || (0 + (x.pr - 0) == 0)) = false := by
        rw [beq_eq_false_iff_ne.mpr (by omega)]; rfl
      rw [hc, if_neg (by decide)]
      show some (_, _) = some (_, _)
      rw [eend _ d3, show (0 : Int) + (x.pr - 0) = x.pr by omega, show x.se = h.se by omega]
      rfl
  · rw [if_neg hpr] at hd
    obtain ⟨e1, d1⟩ := PL_raw [] (g := 0) i0 (Int.le_refl 0) (by omega) hd
    rw [hgo _ _ e1 d1]
    unfold groupF
    rw [last_app]
    have hc : (decide (3 < ([] ++ [0 + (n - 0)] : List Int).length) || (0 + (n - 0) == 0)) = false := by
      rw [beq_eq_false_iff_ne.mpr (by omega)]; rfl
    have hpr0 : x.pr = 0 := by omega
    rw [hc, if_neg (by decide)]
    show some (_, _) = some (_, _)
    rw [eend _ d1, show x.se = h.se by rw [hps hpr0, hs], show x.pr = h.pr by omega]
    rfl
theorem frac_back {s : ByteArray} {x h : Sb} {p : Int} {r : List UInt8} (hf : Fine x) (hd : Dr s p (fracL x ++ r)) (hr : ∀ c q, r = c :: q → c ≠ 35 ∧ c ≠ 48 ∧ c ≠ 46) (h1 : h.fn = 0) (h2 : h.fx = 0) :
    fracF s p h = some (p + (fracL x).length, {h with fn := x.fn, fx := x.fx}) ∧ Dr s (p + (fracL x).length) r := by
  have hend := hd.app
  refine ⟨?_, hend⟩
  have hlen := hd.len
  have f0 := hf.fx0
  have f1 := hf.fn0
  have f2 := hf.fn1
  unfold fracL at hd
  unfold fracF
  by_cases c : 0 < x.fx
  · rw [if_pos c] at hd
    simp only [List.append_assoc] at hd
    have hd' : Dr s p (46 :: (List.replicate x.fn.toNat 48 ++ (List.replicate (x.fx - x.fn).toNat 35 ++ r))) := hd
    have r1 : runN s 48 (p + 1) = x.fn := by
      have := runN_reps 48 x.fn.toNat (p + 1) _ hd'.next (by
        intro c q e
        cases hk : (x.fx - x.fn).toNat with
        | zero => rw [hk, List.replicate_zero, List.nil_append] at e; exact (hr c q e).2.1
        | succ k => rw [hk, List.replicate_succ, List.cons_append] at e; obtain ⟨rfl, _⟩ := List.cons.inj e; decide)
      have e48 : ((48 : UInt8).toNat : Int) = 48 := rfl
      rw [e48] at this
      omega
    have d2 := hd'.next.app
    rw [List.length_replicate, show p + 1 + (x.fn.toNat : Int) = p + 1 + x.fn by omega] at d2
    have r2 : runN s 35 (p + 1 + x.fn) = x.fx - x.fn := by
      have := runN_reps 35 (x.fx - x.fn).toNat (p + 1 + x.fn) _ d2 (fun c q e => (hr c q e).1)
      have e35 : ((35 : UInt8).toNat : Int) = 35 := rfl
      rw [e35] at this
      omega
    have hb : bAt s p 46 = true := by
      have := hd'.at_ 46
      rw [decide_eq_true rfl] at this
      exact this
    have hz : (x.fn + (x.fx - x.fn) == 0) = false := beq_eq_false_iff_ne.mpr (by omega)
    rw [if_pos hb, r1, r2, hz, if_neg (by decide)]
    have hL : ((fracL x).length : Int) = 1 + x.fx := by
      unfold fracL
      rw [if_pos c]
      simp only [List.length_append, List.length_replicate, List.length_cons, List.length_nil]
      omega
    rw [hL, show x.fn + (x.fx - x.fn) = x.fx by omega, show p + 1 + x.fn + (x.fx - x.fn) = p + (1 + x.fx) by omega]
  · rw [if_neg c, List.nil_append] at hd
    have hb : bAt s p 46 = false := hd.at_no 46 (fun c q e => (hr c q e).2.2)
    rw [hb, if_neg (by decide)]
    have hL : ((fracL x).length : Int) = 0 := by unfold fracL; rw [if_neg c]; rfl
    rw [hL, Int.add_zero, show x.fx = h.fx by omega, show x.fn = h.fn by omega]
theorem exp_back {s : ByteArray} {x h : Sb} {p : Int} {r : List UInt8} (hf : Fine x) (he : x.em = 0 → x.ep = false) (hd : Dr s p (expL x ++ r)) (hr : RestOk r) (h1 : h.em = 0) (h2 : h.ep = false) :
    expF s p h = (p + (expL x).length, {h with em := x.em, ep := x.ep}) ∧ Dr s (p + (expL x).length) r := by
  have hend := hd.app
  refine ⟨?_, hend⟩
  have m0 := hf.em0
  have p0 := hd.p0
  unfold expL at hd
  unfold expF
  by_cases c : 0 < x.em
  · rw [if_pos c] at hd
    simp only [List.append_assoc] at hd
    have hd' : Dr s p (69 :: ((if x.ep = true then [43] else []) ++ (List.replicate x.em.toNat 48 ++ r))) := hd
    obtain ⟨k, hk⟩ : ∃ k, x.em.toNat = k + 1 := ⟨x.em.toNat - 1, by omega⟩
    have b69 : bAt s p 69 = true := by have := hd'.at_ 69; rw [decide_eq_true rfl] at this; exact this
    have d1 := hd'.next
    have key : bAt s (p + 1) 43 = x.ep ∧ nextP s (p + 1) 43 = p + 1 + (if x.ep = true then 1 else 0) ∧ Dr s (p + 1 + (if x.ep = true then 1 else 0)) (List.replicate x.em.toNat 48 ++ r) ∧ expB s p = true := by
      cases hp : x.ep with
      | true =>
        rw [hp] at d1
        have d2 : Dr s (p + 1) (43 :: (List.replicate x.em.toNat 48 ++ r)) := d1
        have b43 : bAt s (p + 1) 43 = true := by have := d2.at_ 43; rw [decide_eq_true rfl] at this; exact this
        have d3 := d2.next
        have b48 : bAt s (p + 1 + 1) 48 = true := by
          have d4 := d3
          rw [hk, List.replicate_succ, List.cons_append] at d4
          have := d4.at_ 48; rw [decide_eq_true rfl] at this; exact this
        refine ⟨b43, nextP_yes b43, d3, ?_⟩
        rw [expB_at s p p0, b69, b43, show p + 2 = p + 1 + 1 by omega, b48]
        simp
      | false =>
        rw [hp] at d1
        have d2 : Dr s (p + 1) (List.replicate x.em.toNat 48 ++ r) := d1
        have d4 := d2
        rw [hk, List.replicate_succ, List.cons_append] at d4
        have b48 : bAt s (p + 1) 48 = true := by have := d4.at_ 48; rw [decide_eq_true rfl] at this; exact this
        have b43 : bAt s (p + 1) 43 = false := by have := d4.at_ 43; rw [decide_eq_false (by decide)] at this; exact this
        refine ⟨b43, ?_, ?_, ?_⟩
        · rw [nextP_no b43]; simp
        · simpa using d2
        · rw [expB_at s p p0, b69, b48]; rfl
    obtain ⟨k1, k2, k3, k4⟩ := key
    have r1 : runN s 48 (p + 1 + (if x.ep = true then 1 else 0)) = x.em := by
      have := runN_reps 48 x.em.toNat _ _ k3 (fun c q e => (rest_head hr c q e).2.1)
      have e48 : ((48 : UInt8).toNat : Int) = 48 := rfl
      rw [e48] at this
      omega
    have hL : ((expL x).length : Int) = 1 + (if x.ep = true then 1 else 0) + x.em := by
      unfold expL
      rw [if_pos c]
      simp only [List.length_append, List.length_replicate, List.length_cons, List.length_nil]
      split <;> (simp only [List.length_cons, List.length_nil]; omega)
    rw [k4, if_pos rfl, k2, r1, k1, hL]
    congr 1
    omega
  · rw [if_neg c, List.nil_append] at hd
    have hz : x.em = 0 := by omega
    have hb : expB s p = false := by
      rw [expB_at s p p0]
      cases r with
      | nil => rw [hd.at_nil]; rfl
      | cons c1 q1 =>
        by_cases e1 : c1 = 69
        · subst e1
          have q1ok := rest_tail hr (by decide) (by decide) (by decide)
          have d1 := hd.next
          have n48 : bAt s (p + 1) 48 = false := d1.at_no 48 (fun c q e => (rest_head q1ok c q e).2.1)
          rw [n48, Bool.false_or]
          cases q1 with
          | nil => rw [d1.at_nil 43, Bool.false_and, Bool.and_false]
          | cons c2 q2 =>
            by_cases e2 : c2 = 43
            · subst e2
              have q2ok := rest_tail q1ok (by decide) (by decide) (by decide)
              have d2 := d1.next
              have n48' : bAt s (p + 2) 48 = false := by
                rw [show p + 2 = p + 1 + 1 by omega]
                exact d2.at_no 48 (fun c q e => (rest_head q2ok c q e).2.1)
              rw [n48', Bool.and_false, Bool.and_false]
            · have := d1.at_ 43
              rw [decide_eq_false e2] at this
              rw [show bAt s (p + 1) 43 = false from this, Bool.false_and, Bool.and_false]
        · have := hd.at_ 69
          rw [decide_eq_false e1] at this
          rw [show bAt s p 69 = false from this]
          rfl
    have hL : ((expL x).length : Int) = 0 := by unfold expL; rw [if_neg c]; rfl
    rw [hb, if_neg (by decide), hL, Int.add_zero, show x.em = h.em by omega, show x.ep = h.ep by rw [he hz, h2]]
end Go.Proofs.Ytacnjemndfmbhaa.Q
end
section
namespace Go.Proofs.Ytacnjemndfmbhaa.Q
open Go.RowKit Go.Proofs.Ytacnjemndfmbhaa.A Go.Proofs.Ytacnjemndfmbhaa.R1 Go.Proofs.YtacnjemndfmbhaaW.PrintWords Go.Proofs.YtacnjemndfmbhaaW.PrintLast Go.Proofs.YtacnjemndfmbhaaW.PrintMore
set_option linter.unusedVariables false
set_option linter.unusedSimpArgs false
theorem stops_letters : ∀ n : Fin 256, stopB stops1 ((UInt8.ofNat n).toNat : Int) = decide (UInt8.ofNat n ∈ LETTERS) ∧ (stopB stops2 ((UInt8.ofNat n).toNat : Int) = true → UInt8.ofNat n ∈ LETTERS) := by decide +kernel
theorem stop1 (b : UInt8) : stopB stops1 (b.toNat : Int) = decide (b ∈ LETTERS) := by
  have := (stops_letters ⟨b.toNat, b.toNat_lt⟩).1
  simpa only [UInt8.ofNat_toNat] using this
theorem stop2 (b : UInt8) : stopB stops2 (b.toNat : Int) = true → b ∈ LETTERS := by
  have := (stops_letters ⟨b.toNat, b.toNat_lt⟩).2
  simpa only [UInt8.ofNat_toNat] using this
theorem stop_clean {s st : ByteArray} (hst : ∀ b : UInt8, stopB st (b.toNat : Int) = true → b ∈ LETTERS) : ∀ (A : List UInt8) (q q' : Bool) (p : Int) (r : List UInt8), Dr s p (A ++ r) → clean A q = some q' → stopF s st ((s.size : Int) - p).toNat q p = stopF s st ((s.size : Int) - (p + A.length)).toNat q' (p + A.length)
  | [], q, q', p, r, hd, hc => by
    obtain rfl := Option.some.inj hc
    rw [show p + (([] : List UInt8).length : Int) = p by simp]
  | b :: A, q, q', p, r, hd, hc => by
    rw [List.cons_append] at hd
    have hlt := hd.lt
    have ih := fun q hc => stop_clean hst A q q' (p + 1) r hd.next hc
    rw [show ((s.size : Int) - p).toNat = ((s.size : Int) - (p + 1)).toNat + 1 by omega]
    conv => lhs; unfold stopF
    rw [hd.bt]
    unfold clean at hc
    have e39 : ((b.toNat : Int) = 39) ↔ b = 39 := ⟨fun e => UInt8.toNat_inj.mp (by show b.toNat = 39; omega), fun e => by rw [e]; rfl⟩
    rw [List.length_cons, show p + ((A.length + 1 : Nat) : Int) = p + 1 + (A.length : Int) by omega]
    by_cases hb : b = 39
    · rw [if_pos hb] at hc
      rw [if_pos (e39.mpr hb)]
      exact ih _ hc
    · rw [if_neg hb] at hc
      rw [if_neg (fun e => hb (e39.mp e))]
      by_cases hm : (!q && decide (b ∈ LETTERS)) = true
      · rw [if_pos hm] at hc; exact absurd hc (by simp)
      · rw [if_neg hm] at hc
        rw [if_neg, ih _ hc]
        intro h
        rw [Bool.and_eq_true] at h
        exact hm (by rw [h.1, decide_eq_true (hst b h.2)]; rfl)
theorem stopN_clean {s st : ByteArray} (hst : ∀ b : UInt8, stopB st (b.toNat : Int) = true → b ∈ LETTERS) {A r : List UInt8} {p : Int} (hd : Dr s p (A ++ r)) (hc : clean A false = some false) (hr : r = [] ∨ ∃ c q, r = c :: q ∧ c ≠ 39 ∧ stopB st (c.toNat : Int) = true) : stopN s st p = p + A.length := by
  unfold stopN
  rw [stop_clean hst A false false p r hd hc]
  have h2 := hd.app
  rcases hr with rfl | ⟨c, q, rfl, h39, hs⟩
  · have := h2.len
    simp only [List.length_nil] at this
    rw [show ((s.size : Int) - (p + A.length)).toNat = 0 by omega]
    rfl
  · have := h2.lt
    rw [show ((s.size : Int) - (p + A.length)).toNat = ((s.size : Int) - (p + A.length + 1)).toNat + 1 by omega]
    unfold stopF
    rw [h2.bt, hs, if_neg, if_pos (show (!false && true) = true from rfl)]
    intro e
    exact h39 (UInt8.toNat_inj.mp (by show c.toNat = 39; omega))
theorem tok_back {s st : ByteArray} (hst : ∀ b : UInt8, stopB st (b.toNat : Int) = true → b ∈ LETTERS) {l : List S53} {r : List UInt8} {p : Int} (hk : checkS l = 0) (hd : Dr s p ((printT l).1.data.toList ++ r)) (hr : r = [] ∨ ∃ c q, r = c :: q ∧ c ≠ 39 ∧ stopB st (c.toNat : Int) = true) : stopN s st p = p + (printT l).1.data.toList.length ∧ tokT s st p = (l, 0) := by
  have h1 := stopN_clean hst hd (print_clean l) hr
  refine ⟨h1, ?_⟩
  unfold tokT
  rw [h1, hd.ext, ← bytes_of (printT l).1 _ rfl, parse_print l hk]
def padAt (x : Sb) (k : Int) : ByteArray × Int := if x.pad.toList.isEmpty = false ∧ x.pa ≤ k then (x.pad, x.pa) else (⟨#[]⟩, 0)
theorem pad_empty {b : ByteArray} (h : b.toList.isEmpty = true) : b = ⟨#[]⟩ := nil_of b (List.isEmpty_iff.mp h)
theorem one_rune {b : ByteArray} (h : R1.runesS b = 1) : R1.runeS b 0 = b.size ∧ b.size ≠ 0 := by
  unfold R1.runesS at h
  cases hc : cnt b (b.size + 1) 0 with
  | none => rw [hc] at h; exact absurd h (by decide)
  | some r =>
    rw [hc] at h
    have hr : r = 1 := h
    subst hr
    rw [cnt_succ] at hc
    by_cases h0 : (0 : Int) < b.size
    · rw [if_pos h0] at hc
      by_cases hz : R1.runeS b 0 = 0
      · rw [if_pos hz] at hc; exact absurd hc (by simp)
      · rw [if_neg hz] at hc
        obtain ⟨q, hq, h1⟩ := Option.map_eq_some_iff.mp hc
        have hq0 : q = 0 := by omega
        subst hq0
        have hp := rune_pos b 0 hz
        obtain ⟨n, hn⟩ : ∃ n, b.size = n + 1 := ⟨b.size - 1, by omega⟩
        rw [hn, cnt_succ] at hq
        by_cases hl : 0 + R1.runeS b 0 < b.size
        · rw [if_pos hl] at hq
          by_cases hz2 : R1.runeS b (0 + R1.runeS b 0) = 0
          · rw [if_pos hz2] at hq; exact absurd hq (by simp)
          · rw [if_neg hz2] at hq
            obtain ⟨q2, hq2, h2⟩ := Option.map_eq_some_iff.mp hq
            have hp2 := rune_pos b _ hz2
            have := (cnt_range b n _ q2 (by omega) (by omega) hq2).1
            omega
        · omega
    · rw [if_neg h0] at hc; exact absurd hc (by simp)
theorem rune_at {s b : ByteArray} {p : Int} {r : List UInt8} (hd : Dr s p (b.data.toList ++ r)) (h : runesS b = 1) : runeS s p = b.size := by
  rw [runesS_eq] at h
  obtain ⟨h1, h2⟩ := one_rune h
  have h0 := hd.p0
  have hl : s.data.toList.length = s.size := rfl
  obtain ⟨u, hu⟩ : ∃ u : ByteArray, u = ⟨(s.data.toList.take p.toNat).toArray⟩ := ⟨_, rfl⟩
  have hus : (u.size : Int) = p := by
    rw [hu]
    show ((s.data.toList.take p.toNat).toArray.size : Int) = p
    have := hd.p1
    simp only [List.size_toArray, List.length_take]
    omega
  have hs : s = u ++ (b ++ ⟨r.toArray⟩) := by
    apply bytes_inj
    rw [ByteArray.data_append, ByteArray.data_append, Array.toList_append, Array.toList_append, hu]
    show _ = s.data.toList.take p.toNat ++ (b.data.toList ++ r)
    rw [← hd.eq, List.take_append_drop]
  have hz : R1.runeS b 0 ≠ 0 := by omega
  have e := runeS_right u (b ++ ⟨r.toArray⟩) (Int.le_refl 0)
  rw [← hs, Int.add_zero, hus] at e
  rw [e, runeS_eq, runeS_app_left b _ 0 hz, h1]
theorem fill_data (x : Sb) (k : Int) : (fillS x k).data.toList = if x.pad.toList.isEmpty = true then [] else if x.pa = k then 42 :: x.pad.data.toList else [] := by
  unfold fillS
  split
  · rfl
  · split
    · rw [ByteArray.data_append, Array.toList_append]; rfl
    · rfl
theorem fill_back {s : ByteArray} {x h : Sb} {k p : Int} {r : List UInt8} (hx : x.pad.toList.isEmpty = true ∨ runesS x.pad = 1) (hd : Dr s p ((fillS x k).data.toList ++ r)) (hr : (fillS x k).data.toList = [] → ∀ c q, r = c :: q → c ≠ 42) (hh : (h.pad, h.pa) = padAt x (k - 1)) :
    fillF s p h k = some (p + (fillS x k).data.toList.length, {h with pad := (padAt x k).1, pa := (padAt x k).2}) := by
  have hh1 : h.pad = (padAt x (k - 1)).1 := congrArg Prod.fst hh
  have hh2 : h.pa = (padAt x (k - 1)).2 := congrArg Prod.snd hh
  by_cases hc : x.pad.toList.isEmpty = false ∧ x.pa = k
  · have hf : (fillS x k).data.toList = 42 :: x.pad.data.toList := by rw [fill_data, if_neg (by rw [hc.1]; decide), if_pos hc.2]
    rw [hf] at hd ⊢
    have hd' : Dr s p (42 :: (x.pad.data.toList ++ r)) := hd
    have hp1 : runesS x.pad = 1 := by
      rcases hx with h1 | h1
      · rw [hc.1] at h1; exact absurd h1 (by decide)
      · exact h1
    have hru := rune_at hd'.next hp1
    have hpe : h.pad = ⟨#[]⟩ := by rw [hh1]; unfold padAt; rw [if_neg (by omega)]
    have hsz : x.pad.size ≠ 0 := by
      intro e
      have : x.pad = ⟨#[]⟩ := bytes_of _ [] (List.eq_nil_of_length_eq_zero (show x.pad.data.toList.length = 0 from e))
      rw [this] at hc
      exact absurd hc.1 (by decide +kernel)
    have hb : bAt s p 42 = true := by have := hd'.at_ 42; rw [decide_eq_true rfl] at this; exact this
    unfold fillF
    rw [if_pos hb, hru, if_neg]
    · have he := hd'.next.ext
      have hl : (x.pad.data.toList.length : Int) = x.pad.size := rfl
      rw [hl] at he
      rw [he, ← bytes_of x.pad _ rfl]
      unfold padAt
      rw [if_pos ⟨hc.1, by omega⟩, List.length_cons]
      have e1 : p + 1 + (x.pad.size : Int) = p + ((x.pad.data.toList.length + 1 : Nat) : Int) := by omega
      rw [e1, hc.2]
    · rw [hpe]
      intro e
      rw [Bool.or_eq_true] at e
      rcases e with e | e
      · have := beq_iff_eq.mp e; omega
      · exact absurd e (by decide +kernel)
  · have hf : (fillS x k).data.toList = [] := by
      rw [fill_data]
      cases he : x.pad.toList.isEmpty with
      | true => rfl
      | false => rw [if_neg (by decide), if_neg (fun e => hc ⟨he, e⟩)]
    rw [hf, List.nil_append] at hd
    have hb : bAt s p 42 = false := hd.at_no 42 (hr hf)
    have hpk : padAt x (k - 1) = padAt x k := by
      unfold padAt
      by_cases he : x.pad.toList.isEmpty = false
      · have hne : x.pa ≠ k := fun e => hc ⟨he, e⟩
        by_cases hle : x.pa ≤ k
        · rw [if_pos ⟨he, by omega⟩, if_pos ⟨he, hle⟩]
        · rw [if_neg (by omega), if_neg (by omega)]
      · rw [if_neg (fun e => he e.1), if_neg (fun e => he e.1)]
    unfold fillF
    rw [hb, if_neg (by decide), hf, ← hpk, ← hh1, ← hh2]
    simp
theorem digL_len {x : Sb} {n : Int} (hf : Fine x) (hn : leastS x ≤ n) : ((digL x n).length : Int) = n + (((if 0 < x.pr then (if 0 < x.se then 2 else 1) else 0 : Nat) : Int) + (fracL x).length + (expL x).length) := by
  obtain ⟨i0, i1, _, _, _, _, p0, p1, s0, s1, _, _, hps⟩ := hf
  have hl1 : 1 ≤ n := aP94
  unfold digL placesL
  by_cases hpr : 0 < x.pr
  · have hn3 : x.pr + x.se + 1 ≤ n := aP95
    rw [if_pos hpr, if_pos hpr]
    by_cases hse : 0 < x.se
    · rw [if_pos hse, if_pos hse]
      have a1 := raw_len x.im n (x.pr + x.se) i0 (by omega) (by omega)
      have a2 := raw_len x.im (x.pr + x.se) x.pr i0 p0 (by omega)
      have a3 := raw_len x.im x.pr 0 i0 (Int.le_refl 0) p0
      simp only [List.length_append, List.length_cons, List.length_nil]
      omega
    · rw [if_neg hse, if_neg hse]
      have a1 := raw_len x.im n x.pr i0 p0 (by omega)
      have a3 := raw_len x.im x.pr 0 i0 (Int.le_refl 0) p0
      simp only [List.length_append, List.length_cons, List.length_nil]
      omega
  · rw [if_neg hpr, if_neg hpr]
    have a3 := raw_len x.im n 0 i0 (Int.le_refl 0) (by omega)
    simp only [List.length_append]
    omega
theorem places_head {x : Sb} {n : Int} (hf : Fine x) (hn : leastS x ≤ n) : ∃ c q, placesL x n = c :: q ∧ (c = 35 ∨ c = 48) := by
  obtain ⟨i0, i1, _, _, _, _, p0, p1, s0, s1, _, _, hps⟩ := hf
  have hl1 : 1 ≤ n := aP94
  have raw : ∀ lo, 0 ≤ lo → lo < n → ∀ t, ∃ c q, rawD x.im n lo ++ t = c :: q ∧ (c = 35 ∨ c = 48) := by
    intro lo h0 h1 t
    have hl := raw_len x.im n lo i0 h0 (by omega)
    cases hr : rawD x.im n lo with
    | nil => rw [hr] at hl; simp at hl; omega
    | cons c q =>
      refine ⟨c, q ++ t, rfl, ?_⟩
      have hm : c ∈ rawD x.im n lo := by rw [hr]; simp
      unfold rawD at hm
      rcases List.mem_append.mp hm with hm | hm
      · exact .inl (List.eq_of_mem_replicate hm)
      · exact .inr (List.eq_of_mem_replicate hm)
  unfold placesL
  by_cases hpr : 0 < x.pr
  · have hn3 : x.pr + x.se + 1 ≤ n := aP95
    rw [if_pos hpr]
    by_cases hse : 0 < x.se
    · rw [if_pos hse]
      simp only [List.append_assoc]
      exact raw _ (by omega) (by omega) _
    · rw [if_neg hse]
      simp only [List.append_assoc]
      exact raw _ (by omega) (by omega) _
  · rw [if_neg hpr]
    have := raw 0 (Int.le_refl 0) (by omega) []
    rwa [List.append_nil] at this
structure HalfOk (x : Sb) : Prop where
  cp : checkS x.p = 0
  cs : checkS x.s = 0
  fine : Fine x
  ep : x.em = 0 → x.ep = false
  wide : leastS x ≤ wideS x
  pad : x.pad.toList.isEmpty = true ∨ runesS x.pad = 1
  none : x.pad.toList.isEmpty = true → x.pa = 0 ∧ x.wd = 0
  some : x.pad.toList.isEmpty = false → 0 ≤ x.pa ∧ x.pa ≤ 3 ∧ (x.pa = 1 → x.p ≠ []) ∧ (x.pa = 3 → x.s ≠ []) ∧ x.wd = runesT x.p + (digL x (wideS x)).length + runesT x.s ∧ x.wd ≤ 99
theorem half_ok {x : Sb} (h : halfS x = true) : HalfOk x := by
  unfold halfS at h
  simp only [Bool.and_eq_true, beq_iff_eq, Bool.not_eq_true'] at h
  obtain ⟨h1, h2, h3, h4, h5⟩ := h
  have hf := fine_of h3 h4
  have hep : x.em = 0 → x.ep = false := by
    intro e
    unfold oddB at h4
    simp only [Bool.or_eq_false_iff, Bool.and_eq_false_iff] at h4
    rcases h4.2.1 with h | h
    · rw [e] at h; exact absurd h (by decide)
    · exact h
  unfold padB at h5
  cases he : x.pad.toList.isEmpty with
  | true =>
    rw [he, if_pos rfl] at h5
    simp only [Bool.and_eq_true, beq_iff_eq] at h5
    exact ⟨h1, h2, hf, hep, by unfold wideS; rw [if_pos he]; exact Int.le_refl _, .inl he, fun _ => h5, fun e => by rw [he] at e; exact absurd e (by decide)⟩
  | false =>
    rw [he, if_neg (by decide)] at h5
    simp only [Bool.and_eq_true, beq_iff_eq, Bool.not_eq_true', inB, decide_eq_true_eq, edgeB, Bool.or_eq_false_iff, Bool.and_eq_false_iff, beq_eq_false_iff_ne] at h5
    obtain ⟨k1, ⟨k2, k3⟩, ⟨k4, k5⟩, k6, k7⟩ := h5
    have hw : wideS x = leastS x + (x.wd - lengthS x (leastS x)) := by unfold wideS; rw [if_neg (by rw [he]; decide)]
    refine ⟨h1, h2, hf, hep, by omega, .inr k1, fun e => by rw [he] at e; exact absurd e (by decide), fun _ => ⟨k2, k3, ?_, ?_, ?_, k7⟩⟩
    · intro e1 e2
      rcases k4 with k | k
      · exact k e1
      · exact k (by rw [e2]; rfl)
    · intro e1 e2
      rcases k5 with k | k
      · exact k e1
      · exact k (by rw [e2]; rfl)
    · have a := digL_len hf (n := leastS x) (Int.le_refl _)
      have b := digL_len hf (n := wideS x) (by omega)
      unfold lengthS at hw k6
      omega
theorem text_data (x : Sb) : (textS x).data.toList = (fillS x 0).data.toList ++ ((printT x.p).1.data.toList ++ ((fillS x 1).data.toList ++ (placesL x (wideS x) ++ (fracL x ++ (expL x ++ ((fillS x 2).data.toList ++ ((printT x.s).1.data.toList ++ (fillS x 3).data.toList))))))) := by
  unfold textS
  simp only [ByteArray.data_append, Array.toList_append, List.append_assoc]
  show _ ++ (_ ++ (_ ++ ((digL x (wideS x)) ++ _))) = _
  unfold digL
  simp only [List.append_assoc]
theorem rest_ok {x : Sb} (h : HalfOk x) : RestOk ((fillS x 2).data.toList ++ ((printT x.s).1.data.toList ++ (fillS x 3).data.toList)) := by
  have hB : ∀ k, (fillS x k).data.toList = [] ∨ ∃ q, (fillS x k).data.toList = 42 :: q := by
    intro k
    rw [fill_data]
    split
    · exact .inl rfl
    · split
      · exact .inr ⟨_, rfl⟩
      · exact .inl rfl
  rcases hB 2 with h2 | ⟨q, h2⟩
  · rw [h2, List.nil_append]
    refine ⟨_, _, rfl, print_clean x.s, ?_⟩
    rcases hB 3 with h3 | ⟨q, h3⟩
    · exact .inl h3
    · exact .inr ⟨q, .inl h3⟩
  · rw [h2]
    exact ⟨[], _, rfl, rfl, .inr ⟨_, .inl rfl⟩⟩
theorem fill_only {x : Sb} (h : HalfOk x) {k : Int} (hn : (fillS x k).data.toList ≠ []) : x.pad.toList.isEmpty = false ∧ x.pa = k := by
  rw [fill_data] at hn
  cases he : x.pad.toList.isEmpty with
  | true => rw [he, if_pos rfl] at hn; exact absurd rfl hn
  | false =>
    rw [he, if_neg (by decide)] at hn
    by_cases hk : x.pa = k
    · exact ⟨rfl, hk⟩
    · rw [if_neg hk] at hn; exact absurd rfl hn
theorem clean_no42 {A r : List UInt8} (hc : clean A false = some false) (hn : A ≠ []) : ∀ c q, A ++ r = c :: q → c ≠ 42 := by
  intro c q e
  cases A with
  | nil => exact absurd rfl hn
  | cons b A =>
    obtain ⟨rfl, _⟩ := List.cons.inj e
    by_cases hb : b = 39
    · subst hb; decide
    · rintro rfl
      exact (clean_head hc hb).1 (by decide)
theorem places_no42 {x : Sb} {n : Int} {r : List UInt8} (hf : Fine x) (hn : leastS x ≤ n) : ∀ c q, placesL x n ++ r = c :: q → c ≠ 42 := by
  intro c q e
  obtain ⟨c2, q2, h1, h2⟩ := places_head hf hn
  rw [h1] at e
  obtain ⟨rfl, _⟩ := List.cons.inj e
  rcases h2 with rfl | rfl <;> decide
set_option maxHeartbeats 1000000 in
theorem scan_text {x : Sb} (hx : halfS x = true) : scanA (textS x) 0 = some (((textS x).size : Int), x) := by
  have h := half_ok hx
  obtain ⟨s, hs⟩ : ∃ s, textS x = s := ⟨_, rfl⟩
  have d0 := Dr.start (textS x)
  rw [text_data, hs] at d0
  rw [hs]
  obtain ⟨P, hP⟩ : ∃ P, (printT x.p).1.data.toList = P := ⟨_, rfl⟩
  obtain ⟨S, hS⟩ : ∃ S, (printT x.s).1.data.toList = S := ⟨_, rfl⟩
  obtain ⟨n, hn⟩ : ∃ n, wideS x = n := ⟨_, rfl⟩
  have hw := h.wide
  have hrest := rest_ok h
  have cP := print_clean x.p
  have cS := print_clean x.s
  have nP : x.p ≠ [] → P ≠ [] := fun e => by rw [← hP]; exact print_ne h.cp e
  have nS : x.s ≠ [] → S ≠ [] := fun e => by rw [← hS]; exact print_ne h.cs e
  have zP : x.p = [] → P = [] := fun e => by rw [← hP, e, print_nil]
  have zS : x.s = [] → S = [] := fun e => by rw [← hS, e, print_nil]
  rw [hP] at d0 cP
  rw [hS] at d0 cS hrest
  rw [hn] at d0 hw
  have hf := h.fine
  have p1 : x.p = [] → (fillS x 1).data.toList = [] := by
    intro e
    by_cases c : (fillS x 1).data.toList = []
    · exact c
    · obtain ⟨c1, c2⟩ := fill_only h c
      exact absurd e ((h.some c1).2.2.1 c2)
  have p3 : x.s = [] → (fillS x 3).data.toList = [] := by
    intro e
    by_cases c : (fillS x 3).data.toList = []
    · exact c
    · obtain ⟨c1, c2⟩ := fill_only h c
      exact absurd e ((h.some c1).2.2.2.1 c2)
  -- ahead
  have pm : padAt x (0 - 1) = (⟨#[]⟩, 0) := by
    unfold padAt
    rw [if_neg]
    rintro ⟨e1, e2⟩
    have := (h.some e1).1
    omega
  have s0 := fill_back (h := zeroSb2) h.pad d0 (by
    intro hz
    by_cases e : x.p = []
    · rw [zP e, p1 e, List.nil_append, List.nil_append]
      exact places_no42 hf hw
    · exact clean_no42 cP (nP e)) pm.symm
  have d1 := d0.app
  obtain ⟨q1, hq1⟩ : ∃ q1, (0 : Int) + (fillS x 0).data.toList.length = q1 := ⟨_, rfl⟩
  rw [hq1] at s0 d1
  -- the prefix
  have s1 := tok_back (fun b hb => by rw [stop1] at hb; exact of_decide_eq_true hb) h.cp (st := stops1) (s := s) (p := q1) (r := (fillS x 1).data.toList ++ (placesL x n ++ (fracL x ++ (expL x ++ ((fillS x 2).data.toList ++ (S ++ (fillS x 3).data.toList)))))) (by rw [hP]; exact d1) (.inr (by
    by_cases c : (fillS x 1).data.toList = []
    · rw [c, List.nil_append]
      obtain ⟨c2, q2, h1, h2⟩ := places_head hf hw
      rw [h1]
      refine ⟨c2, _, rfl, ?_, ?_⟩
      · rcases h2 with rfl | rfl <;> decide
      · rw [stop1]; rcases h2 with rfl | rfl <;> decide
    · obtain ⟨c1, c2⟩ := fill_only h c
      rw [fill_data, if_neg (by rw [c1]; decide), if_pos c2]
      exact ⟨42, _, rfl, by decide, by decide⟩))
  have d2 := d1.app
  rw [hP] at s1
  obtain ⟨q2, hq2⟩ : ∃ q2, q1 + (P.length : Int) = q2 := ⟨_, rfl⟩
  rw [hq2] at s1 d2
  -- behind the prefix
  have s2 : fillIf x.p s q2 ⟨x.p, [], 0, 0, 0, 0, 0, 0, false, (padAt x 0).1, (padAt x 0).2, 0⟩ 1 = some (q2 + (fillS x 1).data.toList.length, ⟨x.p, [], 0, 0, 0, 0, 0, 0, false, (padAt x 1).1, (padAt x 1).2, 0⟩) := by
    unfold fillIf
    by_cases e : x.p = []
    · have hpe : padAt x 1 = padAt x 0 := by
        unfold padAt
        by_cases c : x.pad.toList.isEmpty = false
        · have := (h.some c).2.2.1
          have hne : x.pa ≠ 1 := fun e1 => this e1 e
          by_cases c2 : x.pa ≤ 0
          · rw [if_pos ⟨c, by omega⟩, if_pos ⟨c, c2⟩]
          · rw [if_neg (by omega), if_neg (by omega)]
        · rw [if_neg (fun e => c e.1), if_neg (fun e => c e.1)]
      rw [if_pos (by rw [e]; rfl), p1 e, hpe]
      simp
    · rw [if_neg (fun hl => e (List.eq_nil_of_length_eq_zero hl))]
      exact fill_back (h := ⟨x.p, [], 0, 0, 0, 0, 0, 0, false, (padAt x 0).1, (padAt x 0).2, 0⟩) h.pad d2 (fun _ => places_no42 hf hw) rfl
  have d3 := d2.app
  obtain ⟨q3, hq3⟩ : ∃ q3, q2 + ((fillS x 1).data.toList.length : Int) = q3 := ⟨_, rfl⟩
  rw [hq3] at s2 d3
  -- places
  have hexp : ∀ c q, expL x ++ ((fillS x 2).data.toList ++ (S ++ (fillS x 3).data.toList)) = c :: q → c ≠ 35 ∧ c ≠ 48 ∧ c ≠ 44 ∧ c ≠ 46 := by
    intro c q e
    unfold expL at e
    split at e
    · have e' : (69 : UInt8) :: _ = c :: q := e
      obtain ⟨rfl, _⟩ := List.cons.inj e'
      decide
    · rw [List.nil_append] at e
      exact rest_head hrest c q e
  have s3 := places_back (h := ⟨x.p, [], 0, 0, 0, 0, 0, 0, false, (padAt x 1).1, (padAt x 1).2, 0⟩) hf hw d3 (by
    intro c q e
    unfold fracL at e
    split at e
    · have e' : (46 : UInt8) :: _ = c :: q := e
      obtain ⟨rfl, _⟩ := List.cons.inj e'
      decide
    · rw [List.nil_append] at e
      have := hexp c q e
      exact ⟨this.1, this.2.1, this.2.2.1⟩) rfl rfl
  obtain ⟨s3, d4⟩ := s3
  obtain ⟨q4, hq4⟩ : ∃ q4, q3 + ((placesL x n).length : Int) = q4 := ⟨_, rfl⟩
  rw [hq4] at s3 d4
  -- fraction and exponent
  obtain ⟨s4, d5⟩ := frac_back (h := ⟨x.p, [], x.im, 0, 0, x.pr, x.se, 0, false, (padAt x 1).1, (padAt x 1).2, 0⟩) hf d4 (fun c q e => by have := hexp c q e; exact ⟨this.1, this.2.1, this.2.2.2⟩) rfl rfl
  obtain ⟨s5, d6⟩ := exp_back (h := ⟨x.p, [], x.im, x.fn, x.fx, x.pr, x.se, 0, false, (padAt x 1).1, (padAt x 1).2, 0⟩) hf h.ep d5 hrest rfl rfl
  obtain ⟨q6, hq6⟩ : ∃ q6, q4 + ((fracL x).length : Int) + (expL x).length = q6 := ⟨_, rfl⟩
  rw [hq6] at s5 d6
  -- ahead of the suffix
  have s6 := fill_back (h := ⟨x.p, [], x.im, x.fn, x.fx, x.pr, x.se, x.em, x.ep, (padAt x 1).1, (padAt x 1).2, 0⟩) (k := 2) h.pad d6 (by
    intro hz
    by_cases e : x.s = []
    · rw [zS e, p3 e]
      intro c q e2
      exact absurd e2 (by simp)
    · exact clean_no42 cS (nS e)) rfl
  have d7 := d6.app
  obtain ⟨q7, hq7⟩ : ∃ q7, q6 + ((fillS x 2).data.toList.length : Int) = q7 := ⟨_, rfl⟩
  rw [hq7] at s6 d7
  -- the suffix
  have s7 := tok_back stop2 h.cs (st := stops2) (s := s) (p := q7) (r := (fillS x 3).data.toList) (by rw [hS]; exact d7) (by
    by_cases c : (fillS x 3).data.toList = []
    · exact .inl c
    · obtain ⟨c1, c2⟩ := fill_only h c
      rw [fill_data, if_neg (by rw [c1]; decide), if_pos c2]
      exact .inr ⟨42, _, rfl, by decide, by decide⟩)
  have d8 := d7.app
  rw [hS] at s7
  obtain ⟨q8, hq8⟩ : ∃ q8, q7 + (S.length : Int) = q8 := ⟨_, rfl⟩
  rw [hq8] at s7 d8
  -- behind the suffix
  have hend : q8 + ((fillS x 3).data.toList.length : Int) = s.size := by have := d8.len; omega
  have d8' : Dr s q8 ((fillS x 3).data.toList ++ []) := by rw [List.append_nil]; exact d8
  have s8 : fillIf x.s s q8 ⟨x.p, x.s, x.im, x.fn, x.fx, x.pr, x.se, x.em, x.ep, (padAt x 2).1, (padAt x 2).2, 0⟩ 3 = some ((s.size : Int), ⟨x.p, x.s, x.im, x.fn, x.fx, x.pr, x.se, x.em, x.ep, x.pad, x.pa, 0⟩) := by
    have hp3 : padAt x 3 = (x.pad, x.pa) := by
      unfold padAt
      by_cases c : x.pad.toList.isEmpty = false
      · rw [if_pos ⟨c, (h.some c).2.1⟩]
      · have c' : x.pad.toList.isEmpty = true := by simpa using c
        rw [if_neg (fun e => c e.1), pad_empty c', (h.none c').1]
    unfold fillIf
    by_cases e : x.s = []
    · have hpe : padAt x 3 = padAt x 2 := by
        unfold padAt
        by_cases c : x.pad.toList.isEmpty = false
        · have := (h.some c).2.2.2.1
          have hne : x.pa ≠ 3 := fun e1 => this e1 e
          by_cases c2 : x.pa ≤ 2
          · rw [if_pos ⟨c, by omega⟩, if_pos ⟨c, c2⟩]
          · rw [if_neg (by omega), if_neg (by omega)]
        · rw [if_neg (fun e => c e.1), if_neg (fun e => c e.1)]
      have hl := hend
      rw [p3 e] at hl
      rw [if_pos (by rw [e]; rfl), ← hpe, hp3, ← hl]
      simp
    · rw [if_neg (fun hl => e (List.eq_nil_of_length_eq_zero hl))]
      rw [fill_back (h := ⟨x.p, x.s, x.im, x.fn, x.fx, x.pr, x.se, x.em, x.ep, (padAt x 2).1, (padAt x 2).2, 0⟩) h.pad d8' (fun _ c q e2 => absurd e2 (by simp)) rfl, hend, hp3]
  -- together
  have hlen : q6 - q4 + (q4 - q3) = (digL x n).length := by
    unfold digL
    rw [List.length_append, List.length_append]
    omega
  have run : runS s (stepsFrom 0) ⟨0, zeroSb2, 0⟩ = some ⟨(s.size : Int), ⟨x.p, x.s, x.im, x.fn, x.fx, x.pr, x.se, x.em, x.ep, x.pad, x.pa, 0⟩, q4 - q3 + (q6 - q4)⟩ := by
    show ((fillF s 0 zeroSb2 0).map fun x => (⟨x.1, x.2, 0⟩ : St)).bind (runS s [1, 2, 3, 4, 5, 6, 7]) = _
    rw [s0]
    show (if (tokT s stops1 q1).2 = 0 then some (⟨stopN s stops1 q1, ⟨(tokT s stops1 q1).1, [], 0, 0, 0, 0, 0, 0, false, (padAt x 0).1, (padAt x 0).2, 0⟩, 0⟩ : St) else none).bind (runS s [2, 3, 4, 5, 6, 7]) = _
    rw [s1.2, s1.1, if_pos rfl]
    show ((fillIf x.p s q2 ⟨x.p, [], 0, 0, 0, 0, 0, 0, false, (padAt x 0).1, (padAt x 0).2, 0⟩ 1).map fun x => (⟨x.1, x.2, 0⟩ : St)).bind (runS s [3, 4, 5, 6, 7]) = _
    rw [s2]
    show ((placesF s q3 ⟨x.p, [], 0, 0, 0, 0, 0, 0, false, (padAt x 1).1, (padAt x 1).2, 0⟩).map fun x => (⟨x.1, x.2, x.1 - q3⟩ : St)).bind (runS s [4, 5, 6, 7]) = _
    rw [s3]
    show ((tailF s q4 ⟨x.p, [], x.im, 0, 0, x.pr, x.se, 0, false, (padAt x 1).1, (padAt x 1).2, 0⟩).map fun x => (⟨x.1, x.2, q4 - q3 + (x.1 - q4)⟩ : St)).bind (runS s [5, 6, 7]) = _
    unfold tailF
    rw [s4]
    show (some (⟨(expF s (q4 + (fracL x).length) ⟨x.p, [], x.im, x.fn, x.fx, x.pr, x.se, 0, false, (padAt x 1).1, (padAt x 1).2, 0⟩).1, (expF s (q4 + (fracL x).length) ⟨x.p, [], x.im, x.fn, x.fx, x.pr, x.se, 0, false, (padAt x 1).1, (padAt x 1).2, 0⟩).2, q4 - q3 + ((expF s (q4 + (fracL x).length) ⟨x.p, [], x.im, x.fn, x.fx, x.pr, x.se, 0, false, (padAt x 1).1, (padAt x 1).2, 0⟩).1 - q4)⟩ : St)).bind (runS s [5, 6, 7]) = _
    rw [s5]
    show ((fillF s q6 ⟨x.p, [], x.im, x.fn, x.fx, x.pr, x.se, x.em, x.ep, (padAt x 1).1, (padAt x 1).2, 0⟩ 2).map fun x => (⟨x.1, x.2, q4 - q3 + (q6 - q4)⟩ : St)).bind (runS s [6, 7]) = _
    rw [s6]
    show (if (tokT s stops2 q7).2 = 0 then some (⟨stopN s stops2 q7, ⟨x.p, (tokT s stops2 q7).1, x.im, x.fn, x.fx, x.pr, x.se, x.em, x.ep, (padAt x 2).1, (padAt x 2).2, 0⟩, q4 - q3 + (q6 - q4)⟩ : St) else none).bind (runS s [7]) = _
    rw [s7.2, s7.1, if_pos rfl]
    show ((fillIf x.s s q8 ⟨x.p, x.s, x.im, x.fn, x.fx, x.pr, x.se, x.em, x.ep, (padAt x 2).1, (padAt x 2).2, 0⟩ 3).map fun x => (⟨x.1, x.2, q4 - q3 + (q6 - q4)⟩ : St)).bind (runS s []) = _
    rw [s8]
    rfl
  unfold scanA
  rw [run]
  show some (_, widthS _) = some (_, _)
  congr 2
  unfold widthS
  by_cases c : x.pad.toList.isEmpty = true
  · rw [if_pos c]
    have := (h.none c).2
    cases x
    simp only at this
    rw [this]
  · rw [if_neg c]
    have c' : x.pad.toList.isEmpty = false := by simpa using c
    have := (h.some c').2.2.2.2.1
    rw [hn] at this
    show (⟨x.p, x.s, x.im, x.fn, x.fx, x.pr, x.se, x.em, x.ep, x.pad, x.pa, runesT x.p + (q4 - q3 + (q6 - q4)) + runesT x.s⟩ : Sb) = x
    rw [show runesT x.p + (q4 - q3 + (q6 - q4)) + runesT x.s = x.wd by omega]
theorem zero_is {x : Sb} (h : zeroB x = true) : x = zeroSb2 := by
  have hl : ∀ l : List S53, (l.length == 0) = true → l = [] := fun l h => List.eq_nil_of_length_eq_zero (beq_iff_eq.mp h)
  unfold zeroB at h
  simp only [Bool.and_eq_true] at h
  obtain ⟨h1, h2, h3, h4, h5, h6, h7, h8, h9, h10, h11, h12⟩ := h
  cases x
  simp only [beq_iff_eq, Bool.not_eq_true'] at *
  have e10 := pad_empty h10
  have e1 := List.eq_nil_of_length_eq_zero h1
  have e2 := List.eq_nil_of_length_eq_zero h2
  subst e1; subst e2; subst h3; subst h4; subst h5; subst h6; subst h7; subst h8; subst h9; subst e10; subst h11; subst h12
  rfl
theorem parse_back {x : Pt} (h : checkP x = 0) : parseP (wholeS x) = (x, 0) := by
  have hc := h
  unfold checkP at hc
  by_cases hf : formB x = true
  · rw [if_pos hf] at hc
    by_cases hz : (wholeS x).size > 128
    · rw [if_pos hz] at hc; exact absurd hc (by decide)
    · unfold formB at hf
      rw [Bool.and_eq_true] at hf
      obtain ⟨h1, h2⟩ := hf
      unfold parseP
      rw [if_neg (by omega)]
      obtain ⟨pos, ng, neg⟩ := x
      cases ng with
      | false =>
        have hneg : neg = zeroSb2 := zero_is h2
        subst hneg
        have hw : wholeS ⟨pos, false, zeroSb2⟩ = textS pos := rfl
        have hb : bAt (textS pos) (textS pos).size 59 = false := by unfold bAt; rw [decide_eq_false (by omega)]; rfl
        rw [hw, scan_text h1]
        show (if bAt (textS pos) (textS pos).size 59 = true then _ else finP (textS pos) (textS pos).size ⟨pos, false, zeroSb2⟩) = _
        rw [hb, if_neg (by decide)]
        unfold finP
        rw [if_neg (by omega), if_pos h]
      | true =>
        have h2' : halfS neg = true := h2
        obtain ⟨u, hu⟩ : ∃ u : ByteArray, textS pos ++ (⟨#[59]⟩ : ByteArray) = u := ⟨_, rfl⟩
        have hw : wholeS ⟨pos, true, neg⟩ = textS pos ++ ((⟨#[59]⟩ : ByteArray) ++ textS neg) := rfl
        have hw2 : wholeS ⟨pos, true, neg⟩ = u ++ textS neg := by rw [hw, ← hu, app_assoc]
        have hsemi : Semi ((⟨#[59]⟩ : ByteArray) ++ textS neg) := by
          right
          have := bt_app_left (⟨#[59]⟩ : ByteArray) (textS neg) 0 (Int.le_refl 0) (by decide)
          rw [this]
          decide
        have hus : (u.size : Int) = (textS pos).size + 1 := by rw [← hu, size_app]; rfl
        have e1 := scan_left hsemi (Int.le_refl 0) (by omega) (scan_text h1)
        rw [← hw] at e1
        have e2 := scan_right u (textS neg) (Int.le_refl 0) (by omega)
        rw [← hw2, scan_text h2', Int.add_zero, hus] at e2
        have hb : bAt (wholeS ⟨pos, true, neg⟩) (textS pos).size 59 = true := by
          rw [hw]
          have := bAt_right (textS pos) ((⟨#[59]⟩ : ByteArray) ++ textS neg) (p := 0) (c := 59) (Int.le_refl 0)
          rw [Int.add_zero] at this
          rw [this]
          unfold bAt
          rcases hsemi with h0 | h0
          · have := size_app (⟨#[59]⟩ : ByteArray) (textS neg)
            have h1 : (⟨#[59]⟩ : ByteArray).size = 1 := rfl
            omega
          · rw [h0, decide_eq_true]
            · rfl
            · have := size_app (⟨#[59]⟩ : ByteArray) (textS neg)
              have h1 : (⟨#[59]⟩ : ByteArray).size = 1 := rfl
              omega
        rw [e1]
        show (if bAt (wholeS ⟨pos, true, neg⟩) (textS pos).size 59 = true then (match scanA (wholeS ⟨pos, true, neg⟩) ((textS pos).size + 1) with | none => (zeroPt, 140) | some y => finP (wholeS ⟨pos, true, neg⟩) y.1 ⟨pos, true, y.2⟩) else _) = _
        rw [hb, if_pos rfl, e2]
        show finP (wholeS ⟨pos, true, neg⟩) ((textS pos).size + 1 + (textS neg).size) ⟨pos, true, neg⟩ = _
        have hsz : ((wholeS ⟨pos, true, neg⟩).size : Int) = (textS pos).size + 1 + (textS neg).size := by rw [hw2, size_app, hus]
        unfold finP
        rw [if_neg (by omega), if_pos h]
  · rw [if_neg hf] at hc; exact absurd hc (by decide)
def fixS : ByteArray := ⟨#[35, 44, 35, 35, 48, 46, 48, 35, 35, 59, 40, 42, 120, 48, 41]⟩
def fixA : Sb := ⟨[], [], 1, 1, 3, 3, 0, 0, false, ⟨#[]⟩, 0, 0⟩
def fixB : Sb := ⟨[⟨0, 0, ⟨#[40]⟩⟩], [⟨0, 0, ⟨#[41]⟩⟩], 1, 0, 0, 0, 0, 0, false, ⟨#[120]⟩, 1, 3⟩
def fixP : Pt := ⟨fixA, true, fixB⟩
theorem fix_text : textS fixA = ⟨#[35, 44, 35, 35, 48, 46, 48, 35, 35]⟩ ∧ textS fixB = ⟨#[40, 42, 120, 48, 41]⟩ := by
  simp only [textS, wideS, lengthS, runesT, runesS_eq, printT_eq, fixA, fixB]
  decide +kernel
theorem fix_whole : wholeS fixP = fixS := by
  show textS fixA ++ (⟨#[59]⟩ ++ textS fixB) = fixS
  rw [fix_text.1, fix_text.2]
  decide +kernel
theorem fix_half : halfS fixA = true ∧ halfS fixB = true := by
  simp only [halfS, padB, lengthS, runesT, runesS_eq, checkS_eq, fixA, fixB]
  decide +kernel
theorem fix_check : checkP fixP = 0 := by
  have hf : formB fixP = true := by
    show (halfS fixA && halfS fixB) = true
    rw [fix_half.1, fix_half.2]
    rfl
  unfold checkP
  rw [if_pos hf, fix_whole, if_neg (by decide)]
theorem fix_parse : parseP fixS = (fixP, 0) := by rw [← fix_whole]; exact parse_back fix_check
theorem fix_print : printP fixP = (fixS, 0) := by
  unfold printP
  rw [if_pos fix_check, fix_whole]
def dotS : ByteArray := ⟨#[48, 46]⟩
theorem tok_nil_at {s st : ByteArray} {p : Int} (h : stopN s st p = p) : tokT s st p = ([], 0) := by
  unfold tokT
  rw [h]
  have e : s.extract p.toNat p.toNat = ⟨#[]⟩ := bytes_of _ [] (ext_nil s p)
  rw [e, ← print_nil]
  exact parse_print [] check_nil
theorem dot_parse : parseP dotS = (zeroPt, 140) := by
  have h1 : fillF dotS 0 zeroSb2 0 = some (0, zeroSb2) := by
    unfold fillF
    rw [if_neg (by decide)]
  have h2 : stopN dotS stops1 0 = 0 := by decide +kernel
  have h3 := tok_nil_at h2
  have h4 : tailF dotS 1 ⟨[], [], 1, 0, 0, 0, 0, 0, false, ⟨#[]⟩, 0, 0⟩ = none := by
    unfold tailF fracF
    rw [if_pos (by decide), if_pos (by decide)]
    rfl
  have hp : plF dotS 2 0 [0] 0 = some (1, [1], 1) := by decide
  have run : runS dotS (stepsFrom 0) ⟨0, zeroSb2, 0⟩ = none := by
    show ((fillF dotS 0 zeroSb2 0).map fun x => (⟨x.1, x.2, 0⟩ : St)).bind (runS dotS [1, 2, 3, 4, 5, 6, 7]) = _
    rw [h1]
    show (if (tokT dotS stops1 0).2 = 0 then some (⟨stopN dotS stops1 0, {zeroSb2 with p := (tokT dotS stops1 0).1}, 0⟩ : St) else none).bind (runS dotS [2, 3, 4, 5, 6, 7]) = _
    rw [h3, h2, if_pos rfl]
    show ((placesF dotS 0 zeroSb2).map fun x => (⟨x.1, x.2, x.1 - 0⟩ : St)).bind (runS dotS [4, 5, 6, 7]) = _
    unfold placesF
    show (((plF dotS 2 0 [0] 0).bind _).map _).bind _ = _
    rw [hp]
    show ((tailF dotS 1 ⟨[], [], 1, 0, 0, 0, 0, 0, false, ⟨#[]⟩, 0, 0⟩).map (fun x => (⟨x.1, x.2, 1 + (x.1 - 1)⟩ : St))).bind (runS dotS [5, 6, 7]) = _
    rw [h4]
    rfl
  unfold parseP scanA
  rw [if_neg (by decide), run]
  rfl
theorem print_two (x : Pt) : (printP x).2 = checkP x := by
  unfold printP
  split
  · rename_i h; rw [h]
  · rfl
theorem check_size {x : Pt} (h : checkP x = 0) : (wholeS x).size ≤ 128 ∧ printP x = (wholeS x, 0) := by
  refine ⟨?_, by unfold printP; rw [if_pos h]⟩
  unfold checkP at h
  by_cases hf : formB x = true
  · rw [if_pos hf] at h
    by_cases hz : (wholeS x).size > 128
    · rw [if_pos hz] at h; exact absurd h (by decide)
    · omega
  · rw [if_neg hf] at h; exact absurd h (by decide)
theorem rd_set_other (G : List Int) (j i : Nat) (x : Int) (h : i ≠ j) : rd (G.set j x) i = rd G i := by
  unfold rd
  rw [Int.toNat_natCast, List.getD_eq_getElem?_getD, List.getD_eq_getElem?_getD, List.getElem?_set_ne (by omega)]
def pv (C : List Int) (i : Nat) : Int := if i = 0 then 0 else rd C ((i : Int) - 1)
structure InvG (G : List Int) (z : Int) (C : List Int) (B : ByteArray) : Prop where
  a : ∃ a : Int, 0 ≤ a ∧ a + z = B.size ∧ 0 ≤ z ∧ (∀ i : Int, 0 ≤ i → i < a → bt B i = 35) ∧ (∀ i : Int, a ≤ i → i < B.size → bt B i = 48)
  l : G.length = C.length + 1
  t : rd G C.length = B.size - pv C C.length
  g : ∀ i : Nat, i < C.length → rd G i = rd C i - pv C i ∧ 0 < rd G i
  n : 0 ≤ rd G C.length
theorem InvG.last {G : List Int} {z : Int} {C : List Int} {B : ByteArray} (h : InvG G z C B) : lastG G = rd G C.length := by
  unfold lastG
  rw [h.l, show ((C.length + 1 : Nat) : Int) - 1 = C.length by omega]
theorem InvG.put {G : List Int} {z : Int} {C : List Int} {B X : ByteArray} (h : InvG G z C B) (hX : (X.size : Int) = 1) (z' : Int) (hz : (bt X 0 = 35 ∧ z = 0 ∧ z' = 0) ∨ (bt X 0 = 48 ∧ z' = z + 1)) : InvG (bump G) z' C (B ++ X) := by
  have hl := h.last
  have hs := size_app B X
  have hb : rd (bump G) C.length = rd G C.length + 1 := by
    unfold bump
    rw [hl, show G.length - 1 = C.length by have := h.l; omega]
    unfold rd
    rw [Int.toNat_natCast, List.getD_eq_getElem?_getD, List.getElem?_set_self (by have := h.l; omega)]
    rfl
  have ho : ∀ i : Nat, i < C.length → rd (bump G) i = rd G i := fun i hi => by
    unfold bump
    exact rd_set_other _ _ _ _ (by have := h.l; omega)
  have hx := bt_app_right B X 0 (Int.le_refl _)
  rw [Int.add_zero] at hx
  obtain ⟨a, a0, a1, a2, a3, a4⟩ := h.a
  refine ⟨?_, by rw [bump_len]; exact h.l, by rw [hb, h.t, hs]; omega, fun i hi => by rw [ho i hi]; exact h.g i hi, by rw [hb]; have := h.n; omega⟩
  rcases hz with ⟨e1, e2, e3⟩ | ⟨e1, e2⟩
  · refine ⟨a + 1, by omega, by omega, by omega, fun i i0 i1 => ?_, fun i i0 i1 => by omega⟩
    rcases Int.lt_or_le i a with h1 | h1
    · rw [bt_app_left _ _ _ i0 (by omega)]; exact a3 i i0 h1
    · have : i = B.size := by omega
      rw [this, hx]; exact e1
  · refine ⟨a, a0, by omega, by omega, fun i i0 i1 => by rw [bt_app_left _ _ _ i0 (by omega)]; exact a3 i i0 i1, fun i i0 i1 => ?_⟩
    rcases Int.lt_or_le i B.size with h1 | h1
    · rw [bt_app_left _ _ _ (by omega) h1]; exact a4 i i0 h1
    · have : i = B.size := by omega
      rw [this, hx]; exact e1
theorem run_all (s : ByteArray) (b : Int) : ∀ (d : Nat) (p i : Int), p ≤ i → i < p + runF s b d p → bt s i = b
  | 0, p, i, h1, h2 => by simp [runF] at h2; omega
  | d + 1, p, i, h1, h2 => by
    unfold runF at h2
    by_cases h : bAt s p b = true
    · rw [if_pos h] at h2
      rcases Int.lt_or_eq_of_le h1 with h3 | h3
      · exact run_all s b d (p + 1) i (by omega) (by omega)
      · subst h3
        unfold bAt at h
        simp only [Bool.and_eq_true, beq_iff_eq] at h
        exact h.2
    · rw [if_neg h] at h2
      omega
theorem FW.grown0 {w0 w w1 : World} {g : Nat} {L : Sl} {x : Sb} (h : FW w0 w g L x) (hb : Below w0.heap.size w0 w1) (hg : w.grownBy w1 none) : FW w0 w1 g L x :=
  ⟨blk_grown h.box hg (by simp), blk_grown h.res hg (by simp), hb, h.lt⟩
end Go.Proofs.Ytacnjemndfmbhaa.Q
end
section
namespace Go.Proofs.Ytacnjemndfmbhaa.Q
open Go.RowKit Go.Proofs.Ytacnjemndfmbhaa.A Go.Proofs.YtacnjemndfmbhaaW.PrintWords Go.Proofs.YtacnjemndfmbhaaW.PrintLast Go.Proofs.YtacnjemndfmbhaaW.PrintMore
set_option linter.unusedVariables false
set_option linter.unusedSimpArgs false
set_option linter.unusedSectionVars false
structure GW (w0 w : World) (g : Nat) (L : Sl) (x : Sb) : Prop where
  box : w.heap[g]? = some (.cells (subC L x) 24 (0, 0))
  res : w.heap[w0.heap.size]? = some (.cells (subC Lz zeroSb2) 24 (0, 0))
  below : Below w0.heap.size w0 w
  lt : w0.heap.size < g
  rp : RowIn w w0.heap.size (fun _ => True) L.A x.p
  rs : RowIn w w0.heap.size (fun _ => True) L.B x.s
  pc : x.p.length ≤ L.c
  sc : x.s.length ≤ L.d
namespace GW
variable {w0 w w1 : World} {g : Nat} {L : Sl} {x : Sb} (h : GW w0 w g L x)
include h
theorem step (hb : Below w.heap.size w w1) : GW w0 w1 g L x := ⟨blk_below h.box hb, blk_below h.res hb, below_step h.below hb, h.lt, h.rp.below hb, h.rs.below hb, h.pc, h.sc⟩
theorem moves {k : Nat} {cur cs : Array Value} (hk : w.heap[k]? = some (.cells cur 24 (0, 0))) : ∀ (j : Nat) (cj : Array Value), w.heap[j]? = some (.cells cj 53 (0, 0)) → (w.setRow k cs).heap[j]? = w.heap[j]? := fun j cj hj => setRow_other _ _ _ _ (blk_ne hj hk (by decide))
theorem put {y : Sb} (hp : y.p = x.p) (hs : y.s = x.s) : GW w0 (w.setRow g (subC L y)) g L y :=
  ⟨setRow_heap _ _ _ _ _ _ h.box, (setRow_other _ _ _ _ (by have := h.lt; omega)).trans h.res, below_setRow h.below (Nat.le_of_lt h.lt), h.lt, by rw [hp]; exact row_moved h.rp (h.moves h.box), by rw [hs]; exact row_moved h.rs (h.moves h.box), by rw [hp]; exact h.pc, by rw [hs]; exact h.sc⟩
theorem fin (cs : Array Value) : Below w0.heap.size w0 (w.setRow w0.heap.size cs) := below_setRow h.below (Nat.le_refl _)
theorem c0 : w.cell? ⟨g, 0, none⟩ = some (.slice L.A x.p.length L.c) := (blk_cell h.box 0).trans rfl
theorem c1 : w.cell? ⟨g, 1, none⟩ = some (.slice L.B x.s.length L.d) := (blk_cell h.box 1).trans rfl
theorem c9 : w.cell? ⟨g, 9, none⟩ = some (.string x.pad) := (blk_cell h.box 9).trans rfl
theorem c11 : w.cell? ⟨g, 11, none⟩ = some (.int .i64 x.wd) := (blk_cell h.box 11).trans rfl
theorem fz (i : Nat) : w.frozen? ⟨g, i, none⟩ = false := blk_frozen h.box i
theorem drew1 : GW w0 w.drew g L x := h.step (below_drew1 (Below.refl _ _))
theorem drewN (n : Nat) : GW w0 (w.drewN n) g L x := h.step (pw_below_drewN (Below.refl _ _) n)
theorem set_wd (v : Int) : GW w0 (w.setCell ⟨g, 11, none⟩ (.int .i64 v)) g L {x with wd := v} := by
  have hm : ∀ (j : Nat) (cj : Array Value), w.heap[j]? = some (.cells cj 53 (0, 0)) → (w.setCell ⟨g, 11, none⟩ (.int .i64 v)).heap[j]? = w.heap[j]? := fun j cj hj => Below.heap_setCell w _ _ j (blk_ne hj h.box (by decide))
  exact ⟨blk_put h.box 11 _ rfl, (Below.heap_setCell w _ _ _ (show w0.heap.size ≠ g by have := h.lt; omega)).trans h.res, below_set h.below (Nat.le_of_lt h.lt), h.lt, row_moved h.rp hm, row_moved h.rs hm, h.pc, h.sc⟩
end GW
def DoneR (w : World) (r : Option St) (e : Ending) (w' : World) : Prop :=
  Below w.heap.size w w' ∧ match r with
    | some y => ∃ L, e = .returned (.tuple #[subV L (widthS y), .int .i64 y.p, .bool true]) ∧ RowIn w' w.heap.size (fun _ => True) L.A (widthS y).p ∧ RowIn w' w.heap.size (fun _ => True) L.B (widthS y).s ∧ (widthS y).p.length ≤ L.c ∧ (widthS y).s.length ≤ L.d
    | none => ∃ L y q, e = .returned (.tuple #[subV L y, .int .i64 q, .bool false])
theorem GW.done {w0 w : World} {g : Nat} {L : Sl} {x y : Sb} {R : Option St} {q n : Int} {ok : Bool} {cs : Array Value} (h : GW w0 w g L y) (hok : R = if ok = true then some ⟨q, x, n⟩ else none) (hy : widthS ⟨q, x, n⟩ = y) : DoneR w0 R (.returned (.tuple #[subV L y, .int .i64 q, .bool ok])) (w.setRow w0.heap.size cs) := by
  subst hok
  subst hy
  cases ok with
  | false => exact ⟨h.fin _, L, _, q, rfl⟩
  | true => exact ⟨h.fin _, L, rfl, row_moved h.rp (h.moves h.res), row_moved h.rs (h.moves h.res), h.pc, h.sc⟩
end Go.Proofs.Ytacnjemndfmbhaa.Q
end
section
namespace Go.Proofs.Ytacnjemndfmbhaa.Q
open Go.RowKit Go.Proofs.Ytacnjemndfmbhaa.A Go.Proofs.YtacnjemndfmbhaaW.PrintWords Go.Proofs.YtacnjemndfmbhaaW.PrintLast Go.Proofs.YtacnjemndfmbhaaW.PrintMore
set_option linter.unusedVariables false
set_option linter.unusedSimpArgs false
theorem raw_split (im : Int) (h0 : 0 ≤ im) (mid lo : Nat) (h1 : lo ≤ mid) : ∀ d : Nat, rawD im ((mid + d : Nat) : Int) lo = rawD im ((mid + d : Nat) : Int) mid ++ rawD im mid lo
  | 0 => by rw [Nat.add_zero, raw_none _ _ h0]; rfl
  | d + 1 => by
    have ih := raw_split im h0 mid lo h1 d
    have e : ((mid + (d + 1) : Nat) : Int) = ((mid + d : Nat) : Int) + 1 := by omega
    rw [e, raw_step _ _ _ (by omega), raw_step _ _ _ (by omega), ih, List.append_assoc]
theorem raw_cut (im hi mid lo : Int) (h0 : 0 ≤ im) (h1 : 0 ≤ lo) (h2 : lo ≤ mid) (h3 : mid ≤ hi) : rawD im hi lo = rawD im hi mid ++ rawD im mid lo := by
  obtain ⟨l, rfl⟩ : ∃ l : Nat, lo = l := ⟨lo.toNat, by omega⟩
  obtain ⟨m, rfl⟩ : ∃ m : Nat, mid = m := ⟨mid.toNat, by omega⟩
  obtain ⟨d, rfl⟩ : ∃ d : Nat, hi = ((m + d : Nat) : Int) := ⟨(hi - m).toNat, by omega⟩
  exact raw_split im h0 m l (by omega) d
def row1 (x : Sb) (n : Int) : List UInt8 := if 0 < x.se then rawD x.im n (x.pr + x.se) ++ [44] ++ rawD x.im (x.pr + x.se) 0 else rawD x.im n 0
theorem cut_list (r : ByteArray) (a b : List UInt8) (k : Int) (h : r.data.toList = a ++ b) (hk : (a.length : Int) = k) : (r.extract 0 k.toNat).data.toList = a ∧ (r.extract k.toNat r.size).data.toList = b := by
  have hs : r.size = a.length + b.length := by
    have := congrArg List.length h
    simpa using this
  have e : k.toNat = a.length := by omega
  rw [e]
  refine ⟨?_, ?_⟩
  · rw [ByteArray.data_extract, Array.toList_extract, h]; simp
  · rw [ByteArray.data_extract, Array.toList_extract, h, hs]; simp
theorem comma_list (r : ByteArray) (a b : List UInt8) (k : Int) (h : r.data.toList = a ++ b) (hk : (a.length : Int) = k) : (r.extract 0 k.toNat ++ (⟨#[44]⟩ : ByteArray) ++ r.extract k.toNat r.size).data.toList = a ++ [44] ++ b := by
  obtain ⟨h1, h2⟩ := cut_list r a b k h hk
  simp only [ByteArray.data_append, Array.toList_append, h1, h2]
theorem size_list (r : ByteArray) (l : List UInt8) (h : r.data.toList = l) : r.size = l.length := by
  have := congrArg List.length h
  simpa using this
theorem bytes_inj {a b : ByteArray} (h : a.data.toList = b.data.toList) : a = b := by cases a; cases b; congr; exact Array.toList_inj.1 h
set_option maxHeartbeats 16000000 in
set_option maxRecDepth 100000 in
theorem rdigits_calls (L : Sl) (x : Sb) (n : Int) (w : World) (hf : Fine x) (hn : leastS x ≤ n) (hn2 : n ≤ 200) : Calls Try.prog 58 #[subV L x, .int .i64 n] w fun e w' => e = .returned (.string (digS x n)) ∧ Below w.heap.size w w' := by
  have hl0 : x.im ≤ n ∧ 1 ≤ n ∧ x.pr + x.se + (if 0 < x.pr then 1 else 0) ≤ n := by obtain ⟨i0, i1, _, _, _, _, p0, p1, s0, s1, _, _, ps⟩ := hf; unfold leastS mx at hn; split <;> (split at hn <;> (try split at hn) <;> (try split at hn) <;> omega)
  have HF := Aside0.mk hf
  have HN := Aside0.mk hl0
  have HLE := Aside0.mk (And.intro hn hn2)
  obtain ⟨i0, i1, x0, x1, n0, n1, p0, p1, s0, s1, m0, m1, ps⟩ := hf
  have hn1 := hl0.1
  have hw0 : IntKind.i64.wrap (n - x.im) = n - x.im := IntWalk.i64_in _ (by omega)
  have hz0 := eq_false (Nat.not_lt.2 (show (repB 35 (n - x.im)).size + (repB 48 x.im).size ≤ 9223372036854775807 by rw [repB_size, repB_size]; omega))
  clear hn hl0 ps
  go_enter Try.func58, Try.ntmps58
  go_wp2_with (first | ((with_reducible refine gate_dst (N := 2) rfl ?_); refine box_event ?hg (N := 2) ?hd (cs := subC L x) (t := 24) ?hr ?_; (case hd => rfl); (case hg => rfl); (case hr => first | (go_simp; done) | (go_simp; rfl)); intro gb hgb w1 hbox hbb; subst hgb; have HQ : Aside0 (HW w w1 L x) := ⟨⟨hbox, hbb⟩⟩; clear hbox hbb; obtain ⟨c0, c1, c2, c3, c4, c5, c6, c7, c8, c9, c10, c11⟩ := sub_at HQ.out.box))
  go_region_held3 (fun w' => w'.cell? ⟨w.heap.size, 2, none⟩ = some (.int .i64 x.im))
    (first | exact (sub_at HQ.out.box).2.2.1)
    (first | (go_at_call 80; (with_reducible refine (times1 _ _ _ ?r1 ?r2).mono ?_); (case r1 => omega); (case r2 => omega); rintro e w1 ⟨rfl, hb⟩; have nq := Aside0.mk ((aP88 : HW w _ L x).step hb); clear HQ hb; have HQ := nq; clear nq))
  clear hz0 hw0
  obtain ⟨c0, c1, c2, c3, c4, c5, c6, c7, c8, c9, c10, c11⟩ := sub_at HQ.out.box
  have H0 := Aside0.mk (show (repB 35 (n - x.im) ++ repB 48 x.im).data.toList = rawD x.im n 0 by
    simp only [ByteArray.data_append, Array.toList_append, repB_list]
    unfold rawD
    rw [show mx 0 x.im = x.im by unfold mx; split <;> omega, show mn n x.im = x.im by unfold mn; split <;> omega, Int.sub_zero])
  generalize repB 35 (n - x.im) ++ repB 48 x.im = r0 at *
  go_upto_if 19 with (fail)
  go_cut [5] (fun v wc => ∃ r1 : ByteArray, v = .string r1 ∧ Aside0 (r1.data.toList = row1 x n) ∧ Aside0 (HW w wc L x))
  case first =>
    rcases Bool.eq_false_or_eq_true (decide (0 < x.se)) with t1 | t1
    case inr =>
      rw [t1]
      go_wp2
      go_meet
      case rel => exact ⟨r0, rfl, ⟨by rw [H0.out]; unfold row1; rw [if_neg (of_decide_eq_false t1)]⟩, HQ⟩
    rw [t1]
    have hs := of_decide_eq_true t1
    have HS := Aside0.mk hs
    obtain ⟨k, hk⟩ : ∃ k : Int, n - x.pr - x.se = k := ⟨_, rfl⟩
    have hw1 : IntKind.i64.wrap (n - x.pr) = n - x.pr := IntWalk.i64_in _ (by have := HN.out; omega)
    have hw2 : IntKind.i64.wrap (n - x.pr - x.se) = k := by rw [hk]; exact IntWalk.i64_in _ (by have := HN.out; omega)
    have k0 : 0 ≤ k := by have h1 := HN.out.2.2; have h2 := HF.out.ps; split at h1 <;> omega
    have hsz := size_list r0 _ H0.out
    have hrl := raw_len x.im n 0 i0 (by omega) (by omega)
    have k1 : k ≤ (r0.size : Int) := by omega
    have k2 : k.toNat ≤ r0.size := by omega
    have HL := Aside0.mk (show r0.data.toList = rawD x.im n (x.pr + x.se) ++ rawD x.im (x.pr + x.se) 0 by rw [H0.out]; exact raw_cut x.im n (x.pr + x.se) 0 i0 (by omega) (by omega) (by have h1 := HN.out.2.2; split at h1 <;> omega))
    have HK := Aside0.mk (show ((rawD x.im n (x.pr + x.se)).length : Int) = k by rw [raw_len x.im n (x.pr + x.se) i0 (by omega) (by have h1 := HN.out.2.2; split at h1 <;> omega)]; omega)
    have hc := comma_list r0 _ _ k HL.out HK.out
    have hsa : (r0.extract 0 k.toNat).size ≤ r0.size := by rw [ByteArray.size_extract]; omega
    have hsb : (r0.extract k.toNat r0.size).size ≤ r0.size := by rw [ByteArray.size_extract]; omega
    obtain ⟨a, ha⟩ : ∃ a, r0.extract 0 k.toNat = a := ⟨_, rfl⟩
    obtain ⟨b, hb⟩ : ∃ b, r0.extract k.toNat r0.size = b := ⟨_, rfl⟩
    rw [ha, hb] at hc
    rw [ha] at hsa
    rw [hb] at hsb
    have HC := Aside0.mk hc
    have z1 := eq_false (Nat.not_lt.2 (show a.size + 1 ≤ 9223372036854775807 by omega))
    have z2 := eq_false (Nat.not_lt.2 (show a.size + 1 + b.size ≤ 9223372036854775807 by omega))
    clear hc hsa hsb
    clear hs hk hsz hrl t1
    go_wp2
    go_quiet (fail)
    go_wp2
    go_meet
    case rel => exact ⟨_, rfl, ⟨by rw [HC.out]; unfold row1; rw [if_pos HS.out]⟩, ⟨HQ.out.drewN _⟩⟩
  case rest =>
    obtain ⟨r1, rfl, H1, HQ'⟩ := hcut
    clear H0 HQ c0 c1 c2 c3 c4 c5 c6 c7 c8 c9 c10 c11
    have HQ := HQ'
    clear HQ'
    obtain ⟨c0, c1, c2, c3, c4, c5, c6, c7, c8, c9, c10, c11⟩ := sub_at HQ.out.box
    go_upto_if 37 with (fail)
    obtain ⟨wo, rfl⟩ : ∃ wo : World, wo = wc := ⟨_, rfl⟩
    go_cut [5] (fun v wc => ∃ r2 : ByteArray, v = .string r2 ∧ Aside0 (r2.data.toList = placesL x n) ∧ Aside0 (HW w wc L x))
    case first =>
      rcases Bool.eq_false_or_eq_true (decide (0 < x.pr)) with t1 | t1
      case inr =>
        rw [t1]
        go_wp2
        go_meet
        case rel => exact ⟨r1, rfl, ⟨by rw [H1.out]; have h := of_decide_eq_false t1; have h2 := HF.out.ps; unfold row1 placesL; rw [if_neg h, if_neg (by omega)]⟩, HQ⟩
      rw [t1]
      have HS := Aside0.mk (of_decide_eq_true t1)
      have hN := HN.out.2.2
      rw [if_pos HS.out] at hN
      obtain ⟨u, hu⟩ : ∃ u, (if 0 < x.se then rawD x.im n (x.pr + x.se) ++ [44] ++ rawD x.im (x.pr + x.se) x.pr else rawD x.im n x.pr) = u := ⟨_, rfl⟩
      have hrow : row1 x n = u ++ rawD x.im x.pr 0 := by
        rw [← hu]
        unfold row1
        split
        · rw [raw_cut x.im (x.pr + x.se) x.pr 0 i0 (by omega) (by omega) (by omega)]; simp only [List.append_assoc]
        · exact raw_cut x.im n x.pr 0 i0 (by omega) (by omega) (by omega)
      have hpl : placesL x n = u ++ [44] ++ rawD x.im x.pr 0 := by
        rw [← hu]
        unfold placesL
        rw [if_pos HS.out]
        split
        · rfl
        · rfl
      have hsz := size_list r1 _ H1.out
      rw [hrow, List.length_append] at hsz
      have hrl := raw_len x.im x.pr 0 i0 (by omega) (by omega)
      have hbig : u.length ≤ 400 := by
        rw [← hu]
        split
        · have e1 := raw_len x.im n (x.pr + x.se) i0 (by omega) (by omega)
          have e2 := raw_len x.im (x.pr + x.se) x.pr i0 (by omega) (by omega)
          simp only [List.length_append, List.length_cons, List.length_nil]
          omega
        · have e1 := raw_len x.im n x.pr i0 (by omega) (by omega)
          omega
      obtain ⟨k, hk⟩ : ∃ k : Int, (r1.size : Int) - x.pr = k := ⟨_, rfl⟩
      have hw1 : IntKind.i64.wrap ((r1.size : Int) - x.pr) = k := by rw [hk]; exact IntWalk.i64_in _ (by omega)
      have k0 : 0 ≤ k := by omega
      have k1 : k ≤ (r1.size : Int) := by omega
      have k2 : k.toNat ≤ r1.size := by omega
      have hc := comma_list r1 u (rawD x.im x.pr 0) k (by rw [H1.out, hrow]) (by omega)
      have hsa : (r1.extract 0 k.toNat).size ≤ r1.size := by rw [ByteArray.size_extract]; omega
      have hsb : (r1.extract k.toNat r1.size).size ≤ r1.size := by rw [ByteArray.size_extract]; omega
      obtain ⟨a, ha⟩ : ∃ a, r1.extract 0 k.toNat = a := ⟨_, rfl⟩
      obtain ⟨b, hb⟩ : ∃ b, r1.extract k.toNat r1.size = b := ⟨_, rfl⟩
      rw [ha, hb] at hc
      rw [ha] at hsa
      rw [hb] at hsb
      have HC := Aside0.mk (hc.trans hpl.symm)
      have z1 := eq_false (Nat.not_lt.2 (show a.size + 1 ≤ 9223372036854775807 by omega))
      have z2 := eq_false (Nat.not_lt.2 (show a.size + 1 + b.size ≤ 9223372036854775807 by omega))
      clear hc hsa hsb hk hsz hrl t1 hu hrow hpl hN hbig
      go_wp2
      go_quiet (fail)
      go_wp2
      go_meet
      case rel => exact ⟨_, rfl, ⟨HC.out⟩, ⟨HQ.out.drewN _⟩⟩
    case rest =>
      obtain ⟨r2, rfl, H2, HQ'⟩ := hcut
      clear H1 HQ c0 c1 c2 c3 c4 c5 c6 c7 c8 c9 c10 c11
      have HQ := HQ'
      clear HQ'
      obtain ⟨c0, c1, c2, c3, c4, c5, c6, c7, c8, c9, c10, c11⟩ := sub_at HQ.out.box
      have HZ := Aside0.mk (show r2.size ≤ 300 by
        have h1 := size_list r2 _ H2.out
        have h2 := (dig_size x n HF.out HLE.out.1 HLE.out.2).2
        unfold digL at h2
        simp only [List.length_append] at h2
        omega)
      go_upto_if 53 with (fail)
      obtain ⟨wp, rfl⟩ : ∃ wp : World, wp = wc := ⟨_, rfl⟩
      go_cut [5] (fun v wc => ∃ r3 : ByteArray, v = .string r3 ∧ Aside0 (r3.data.toList = placesL x n ++ fracL x) ∧ Aside0 (HW w wc L x))
      case first =>
        rcases Bool.eq_false_or_eq_true (decide (0 < x.fx)) with t1 | t1
        case inr =>
          rw [t1]
          go_wp2
          go_meet
          case rel => exact ⟨r2, rfl, ⟨by rw [H2.out]; have h := of_decide_eq_false t1; unfold fracL; rw [if_neg h, List.append_nil]⟩, HQ⟩
        rw [t1]
        have HS := Aside0.mk (of_decide_eq_true t1)
        have hw1 : IntKind.i64.wrap (x.fx - x.fn) = x.fx - x.fn := IntWalk.i64_in _ (by omega)
        have z1 := eq_false (Nat.not_lt.2 (show 1 + (repB 48 x.fn).size ≤ 9223372036854775807 by rw [repB_size]; omega))
        have z2 := eq_false (Nat.not_lt.2 (show 1 + (repB 48 x.fn).size + (repB 35 (x.fx - x.fn)).size ≤ 9223372036854775807 by rw [repB_size, repB_size]; omega))
        have z3 := eq_false (Nat.not_lt.2 (show r2.size + (1 + (repB 48 x.fn).size + (repB 35 (x.fx - x.fn)).size) ≤ 9223372036854775807 by rw [repB_size, repB_size]; have := HZ.out; omega))
        clear t1
        go_wp2_with fail
        go_region_held3 (fun w' => w'.cell? ⟨w.heap.size, 3, none⟩ = some (.int .i64 x.fn) ∧ w'.cell? ⟨w.heap.size, 4, none⟩ = some (.int .i64 x.fx))
          (first | exact ⟨(sub_at HQ.out.box).2.2.2.1, (sub_at HQ.out.box).2.2.2.2.1⟩)
          (first | (go_at_call 80; (with_reducible refine (times1 _ _ _ ?r1 ?r2).mono ?_); (case r1 => omega); (case r2 => omega); rintro e w1 ⟨rfl, hb⟩; have nq := Aside0.mk ((aP88 : HW w _ L x).step hb); clear HQ hb; have HQ := nq; clear nq))
        go_wp2
        go_meet
        case rel => exact ⟨_, rfl, ⟨by simp only [ByteArray.data_append, Array.toList_append, repB_list, H2.out]; unfold fracL; rw [if_pos HS.out]⟩, HQ⟩
      case rest =>
        obtain ⟨r3, rfl, H3, HQ'⟩ := hcut
        clear H2 HQ c0 c1 c2 c3 c4 c5 c6 c7 c8 c9 c10 c11
        have HQ := HQ'
        clear HQ'
        obtain ⟨c0, c1, c2, c3, c4, c5, c6, c7, c8, c9, c10, c11⟩ := sub_at HQ.out.box
        have hz : r3.size ≤ 300 := by
          have h1 := size_list r3 _ H3.out
          have h2 := (dig_size x n HF.out HLE.out.1 HLE.out.2).2
          unfold digL at h2
          simp only [List.length_append] at h1 h2
          omega
        have z1 := eq_false (Nat.not_lt.2 (show r3.size + 1 ≤ 9223372036854775807 by omega))
        have z2 := eq_false (Nat.not_lt.2 (show r3.size + 1 + 1 ≤ 9223372036854775807 by omega))
        have z3 := eq_false (Nat.not_lt.2 (show r3.size + 1 + (repB 48 x.em).size ≤ 9223372036854775807 by rw [repB_size]; omega))
        have z4 := eq_false (Nat.not_lt.2 (show r3.size + 1 + 1 + (repB 48 x.em).size ≤ 9223372036854775807 by rw [repB_size]; omega))
        clear hz
        rcases Bool.eq_false_or_eq_true (decide (0 < x.em)) with t2 | t2
        all_goals rcases Bool.eq_false_or_eq_true x.ep with t3 | t3
        all_goals
          go_wp2_with (first | (go_at_call 80; (with_reducible refine (times1 _ _ _ ?r1 ?r2).mono ?_); (case r1 => omega); (case r2 => omega); rintro e w1 ⟨rfl, hb⟩; have nq := Aside0.mk (HQ.out.step hb); clear HQ hb; have HQ := nq; clear nq; obtain ⟨c0, c1, c2, c3, c4, c5, c6, c7, c8, c9, c10, c11⟩ := sub_at HQ.out.box))
          go_ret
          refine ⟨ret_str (bytes_inj ?_), HQ.out.below⟩
          simp only [decide_eq_true_eq, decide_eq_false_iff_not] at t2
          simp [ByteArray.data_append, repB_list, H3.out, digS, digL, expL, t2, t3]
theorem in_ways {a c : Int} (h : inB a 0 c = true) : decide (a < 0) = false ∧ decide (c < a) = false := by
  simp [inB] at h
  exact ⟨decide_eq_false (by omega), decide_eq_false (by omega)⟩
theorem out_ways {a c : Int} (h : inB a 0 c = false) : decide (a < 0) = true ∨ (decide (a < 0) = false ∧ decide (c < a) = true) := by
  unfold inB at h
  by_cases h1 : a < 0
  · exact .inl (decide_eq_true h1)
  · refine .inr ⟨decide_eq_false h1, decide_eq_true ?_⟩
    rw [decide_eq_true (show 0 ≤ a by omega), Bool.true_and] at h
    have := of_decide_eq_false h
    omega
theorem fine_parts {x : Sb} (h : fineB x = true) : inB x.pr 0 16 = true ∧ inB x.em 0 9 = true := by
  simp only [fineB, Bool.and_eq_true] at h
  exact ⟨h.2.2.2.1, h.2.2.2.2.2⟩
noncomputable def placeB (x : Sb) : Bool := runesS x.pad == 1 && (inB x.pa 0 3 && !edgeB x)
set_option maxHeartbeats 16000000 in
set_option maxRecDepth 100000 in
theorem rhalf_calls (L : Sl) (x : Sb) (w : World) (hr : SubOk w L x) : Calls Try.prog 31 #[subV L x] w fun e w' => e = .returned (.bool (halfS x)) ∧ Below w.heap.size w w' := by
  have HR := Aside0.mk hr
  clear hr
  rcases Bool.eq_false_or_eq_true (checkS x.p == 0) with k1 | k1
  case inr =>
    have k1' := neq_of k1
    have HE := Aside0.mk (show halfS x = false by simp [halfS, k1])
    go_enter Try.func31, Try.ntmps31
    go_wp2_with (first | ((with_reducible refine gate_dst (N := 1) rfl ?_); refine box_event ?hg (N := 1) ?hd (cs := subC L x) (t := 24) ?hr ?_; (case hd => rfl); (case hg => rfl); (case hr => first | (go_simp; done) | (go_simp; rfl)); intro gb hgb w1 hbox hbb; subst hgb; have HQ : Aside0 (HW w w1 L x) := ⟨⟨hbox, hbb⟩⟩; clear hbox hbb; obtain ⟨c0, c1, c2, c3, c4, c5, c6, c7, c8, c9, c10, c11⟩ := sub_at HQ.out.box) | (go_at_call 55; (with_reducible refine (rcheck_calls L.A L.c x.p _ (Kd.C_below HR.out.r.p HQ.out.below) HR.out.r.pc HR.out.p).mono ?_); rintro e w1 ⟨rfl, hb⟩; have nq := Aside0.mk (HQ.out.step hb); clear HQ hb; have HQ := nq; clear nq; obtain ⟨c0, c1, c2, c3, c4, c5, c6, c7, c8, c9, c10, c11⟩ := sub_at HQ.out.box))
    go_ret
    exact ⟨ret_bool HE.out.symm, HQ.out.below⟩
  have k1' := neq_of k1
  rcases Bool.eq_false_or_eq_true (checkS x.s == 0) with k2 | k2
  case inr =>
    have k2' := neq_of k2
    have HE := Aside0.mk (show halfS x = false by simp [halfS, k2])
    go_enter Try.func31, Try.ntmps31
    go_wp2_with (first | ((with_reducible refine gate_dst (N := 1) rfl ?_); refine box_event ?hg (N := 1) ?hd (cs := subC L x) (t := 24) ?hr ?_; (case hd => rfl); (case hg => rfl); (case hr => first | (go_simp; done) | (go_simp; rfl)); intro gb hgb w1 hbox hbb; subst hgb; have HQ : Aside0 (HW w w1 L x) := ⟨⟨hbox, hbb⟩⟩; clear hbox hbb; obtain ⟨c0, c1, c2, c3, c4, c5, c6, c7, c8, c9, c10, c11⟩ := sub_at HQ.out.box) | (go_at_call 55; (with_reducible refine (rcheck_calls L.A L.c x.p _ (Kd.C_below HR.out.r.p HQ.out.below) HR.out.r.pc HR.out.p).mono ?_); rintro e w1 ⟨rfl, hb⟩; have nq := Aside0.mk (HQ.out.step hb); clear HQ hb; have HQ := nq; clear nq; obtain ⟨c0, c1, c2, c3, c4, c5, c6, c7, c8, c9, c10, c11⟩ := sub_at HQ.out.box) | (go_at_call 55; (with_reducible refine (rcheck_calls L.B L.d x.s _ (Kd.C_below HR.out.r.s HQ.out.below) HR.out.r.sc HR.out.s).mono ?_); rintro e w1 ⟨rfl, hb⟩; have nq := Aside0.mk (HQ.out.step hb); clear HQ hb; have HQ := nq; clear nq; obtain ⟨c0, c1, c2, c3, c4, c5, c6, c7, c8, c9, c10, c11⟩ := sub_at HQ.out.box))
    go_ret
    exact ⟨ret_bool HE.out.symm, HQ.out.below⟩
  have k2' := neq_of k2
  have HK := Aside0.mk (And.intro (beq_iff_eq.mp k1) (beq_iff_eq.mp k2))
  have HE := Aside0.mk (show halfS x = (fineB x && (!oddB x && padB x)) by simp [halfS, k1, k2])
  go_enter Try.func31, Try.ntmps31
  go_upto_region 3 with (first | ((with_reducible refine gate_dst (N := 1) rfl ?_); refine box_event ?hg (N := 1) ?hd (cs := subC L x) (t := 24) ?hr ?_; (case hd => rfl); (case hg => rfl); (case hr => first | (go_simp; done) | (go_simp; rfl)); intro gb hgb w1 hbox hbb; subst hgb; have HQ : Aside0 (HW w w1 L x) := ⟨⟨hbox, hbb⟩⟩; clear hbox hbb; obtain ⟨c0, c1, c2, c3, c4, c5, c6, c7, c8, c9, c10, c11⟩ := sub_at HQ.out.box) | (go_at_call 55; (with_reducible refine (rcheck_calls L.A L.c x.p _ (Kd.C_below HR.out.r.p HQ.out.below) HR.out.r.pc HR.out.p).mono ?_); rintro e w1 ⟨rfl, hb⟩; have nq := Aside0.mk (HQ.out.step hb); clear HQ hb; have HQ := nq; clear nq; obtain ⟨c0, c1, c2, c3, c4, c5, c6, c7, c8, c9, c10, c11⟩ := sub_at HQ.out.box) | (go_at_call 55; (with_reducible refine (rcheck_calls L.B L.d x.s _ (Kd.C_below HR.out.r.s HQ.out.below) HR.out.r.sc HR.out.s).mono ?_); rintro e w1 ⟨rfl, hb⟩; have nq := Aside0.mk (HQ.out.step hb); clear HQ hb; have HQ := nq; clear nq; obtain ⟨c0, c1, c2, c3, c4, c5, c6, c7, c8, c9, c10, c11⟩ := sub_at HQ.out.box))
  go_cut [3] (fun v wc => v = .bool (fineB x) ∧ Aside0 (HW w wc L x))
  case first =>
    clear k1 k1' k2 k2'
    rcases Bool.eq_false_or_eq_true (inB x.im 0 32) with f0 | f0
    case inr => (go_wp2_with (first | (go_at_call 56; (with_reducible refine (within_calls _ _ _ _).mono ?_); rintro e w1 ⟨rfl, rfl⟩)); go_meet; (case rel => exact ⟨by simp [fineB, *], HQ⟩))
    rcases Bool.eq_false_or_eq_true (inB x.fx 0 32) with f1 | f1
    case inr => (go_wp2_with (first | (go_at_call 56; (with_reducible refine (within_calls _ _ _ _).mono ?_); rintro e w1 ⟨rfl, rfl⟩)); go_meet; (case rel => exact ⟨by simp [fineB, *], HQ⟩))
    rcases Bool.eq_false_or_eq_true (inB x.fn 0 x.fx) with f2 | f2
    case inr => (go_wp2_with (first | (go_at_call 56; (with_reducible refine (within_calls _ _ _ _).mono ?_); rintro e w1 ⟨rfl, rfl⟩)); go_meet; (case rel => exact ⟨by simp [fineB, *], HQ⟩))
    rcases Bool.eq_false_or_eq_true (inB x.pr 0 16) with f3 | f3
    case inr => (go_wp2_with (first | (go_at_call 56; (with_reducible refine (within_calls _ _ _ _).mono ?_); rintro e w1 ⟨rfl, rfl⟩)); go_meet; (case rel => exact ⟨by simp [fineB, *], HQ⟩))
    rcases Bool.eq_false_or_eq_true (inB x.se 0 16) with f4 | f4
    case inr => (go_wp2_with (first | (go_at_call 56; (with_reducible refine (within_calls _ _ _ _).mono ?_); rintro e w1 ⟨rfl, rfl⟩)); go_meet; (case rel => exact ⟨by simp [fineB, *], HQ⟩))
    (go_wp2_with (first | (go_at_call 56; (with_reducible refine (within_calls _ _ _ _).mono ?_); rintro e w1 ⟨rfl, rfl⟩)); go_meet; (case rel => exact ⟨by simp [fineB, *], HQ⟩))
  case rest =>
    obtain ⟨rfl, HQ'⟩ := hcut
    clear HQ c0 c1 c2 c3 c4 c5 c6 c7 c8 c9 c10 c11
    have HQ := HQ'
    clear HQ'
    obtain ⟨c0, c1, c2, c3, c4, c5, c6, c7, c8, c9, c10, c11⟩ := sub_at HQ.out.box
    rcases Bool.eq_false_or_eq_true (fineB x) with f0 | f0
    case inr =>
      rw [f0]
      go_wp2
      go_ret
      exact ⟨ret_bool (by rw [HE.out, f0]; rfl), HQ.out.below⟩
    rw [f0]
    have HE2 := Aside0.mk (show halfS x = (!oddB x && padB x) by rw [HE.out, f0]; rfl)
    have HF := Aside0.mk f0
    clear HE k1 k1' k2 k2'
    go_upto_region 4 with (fail)
    go_cut [75] (fun v wc => v = .bool (oddB x) ∧ Aside0 (HW w wc L x))
    case first =>
      have hp := pos_of (fine_parts HF.out).1
      have he := pos_of (fine_parts HF.out).2
      clear f0
      exact aP51
    case rest =>
      obtain ⟨rfl, HQ'⟩ := hcut
      clear HQ c0 c1 c2 c3 c4 c5 c6 c7 c8 c9 c10 c11
      have HQ := HQ'
      clear HQ'
      obtain ⟨c0, c1, c2, c3, c4, c5, c6, c7, c8, c9, c10, c11⟩ := sub_at HQ.out.box
      rcases Bool.eq_false_or_eq_true (oddB x) with o1 | o1
      case inl =>
        rw [o1]
        go_wp2
        go_ret
        exact ⟨ret_bool (by rw [HE2.out, o1]; rfl), HQ.out.below⟩
      rw [o1]
      have HFI := Aside0.mk (fine_of HF.out o1)
      have HE3 := Aside0.mk (show halfS x = padB x by rw [HE2.out, o1]; rfl)
      have HLE := Aside0.mk (least_le HFI.out)
      clear HE2 f0
      rcases Bool.eq_false_or_eq_true x.pad.toList.isEmpty with p1 | p1
      case inl =>
        have HP := Aside0.mk (show padB x = (x.pa == 0 && x.wd == 0) by unfold padB; rw [if_pos p1])
        rcases Bool.eq_false_or_eq_true (x.pa == 0) with p2 | p2
        all_goals
          go_wp2
          go_ret
          exact ⟨ret_bool (by rw [HE3.out, HP.out, p2]; simp), HQ.out.below⟩
      have HP := Aside0.mk (show padB x = (placeB x && inB x.wd (lengthS x (leastS x)) 99) by unfold padB placeB; rw [if_neg (by rw [p1]; decide)]; simp only [Bool.and_assoc])
      go_upto_region 8 with (fail)
      go_cut [122] (fun v wc => v = .bool (!placeB x) ∧ Aside0 (HW w wc L x))
      case first =>
        rcases Bool.eq_false_or_eq_true (runesS x.pad == 1) with p2 | p2
        case inr =>
          have p2' : (runesS x.pad != 1) = true := by rw [bne, p2]; rfl
          go_wp2_with (first | (go_at_call 57; (with_reducible refine (rrunes_calls x.pad _ HR.out.pad).mono ?_); rintro e w1 ⟨rfl, hb⟩; have nq := Aside0.mk (HQ.out.step hb); clear HQ hb; have HQ := nq; clear nq; obtain ⟨c0, c1, c2, c3, c4, c5, c6, c7, c8, c9, c10, c11⟩ := sub_at HQ.out.box))
          go_meet
          case rel => exact ⟨by simp [placeB, p2], HQ⟩
        have p2' : (runesS x.pad != 1) = false := by rw [bne, p2]; rfl
        rcases Bool.eq_false_or_eq_true (inB x.pa 0 3) with p3 | p3
        case inr =>
          rcases out_ways p3 with q1 | ⟨q1, q2⟩
          all_goals
            go_wp2_with (first | (go_at_call 57; (with_reducible refine (rrunes_calls x.pad _ HR.out.pad).mono ?_); rintro e w1 ⟨rfl, hb⟩; have nq := Aside0.mk (HQ.out.step hb); clear HQ hb; have HQ := nq; clear nq; obtain ⟨c0, c1, c2, c3, c4, c5, c6, c7, c8, c9, c10, c11⟩ := sub_at HQ.out.box))
            go_meet
            case rel => exact ⟨by simp [placeB, p3], HQ⟩
        obtain ⟨q1, q2⟩ := in_ways p3
        have e1 := int_len x.p.length
        have e2 := int_len x.s.length
        rcases Bool.eq_false_or_eq_true (x.pa == 1) with t1 | t1
        all_goals rcases Bool.eq_false_or_eq_true (x.p.length == 0) with t2 | t2
        all_goals rcases Bool.eq_false_or_eq_true (x.pa == 3) with t3 | t3
        all_goals rcases Bool.eq_false_or_eq_true (x.s.length == 0) with t4 | t4
        all_goals
          go_wp2_with (first | (go_at_call 57; (with_reducible refine (rrunes_calls x.pad _ HR.out.pad).mono ?_); rintro e w1 ⟨rfl, hb⟩; have nq := Aside0.mk (HQ.out.step hb); clear HQ hb; have HQ := nq; clear nq; obtain ⟨c0, c1, c2, c3, c4, c5, c6, c7, c8, c9, c10, c11⟩ := sub_at HQ.out.box))
          go_meet
          case rel => exact ⟨by simp [placeB, edgeB, p2, p3, t1, t2, t3, t4], HQ⟩
      case rest =>
        obtain ⟨rfl, HQ'⟩ := hcut
        clear HQ c0 c1 c2 c3 c4 c5 c6 c7 c8 c9 c10 c11
        have HQ := HQ'
        clear HQ'
        obtain ⟨c0, c1, c2, c3, c4, c5, c6, c7, c8, c9, c10, c11⟩ := sub_at HQ.out.box
        rcases Bool.eq_false_or_eq_true (placeB x) with o2 | o2
        case inr =>
          rw [o2, Bool.not_false]
          go_wp2
          go_ret
          exact ⟨ret_bool (by rw [HE3.out, HP.out, o2]; rfl), HQ.out.below⟩
        rw [o2, Bool.not_true]
        have HS := Aside0.mk (dig_size x (leastS x) HFI.out (Int.le_refl _) HLE.out)
        have HL := Aside0.mk (And.intro (runesT_range x.p HK.out.1 HR.out.p) (runesT_range x.s HK.out.2 HR.out.s))
        have hw1 : IntKind.i64.wrap (runesT x.p + ((digS x (leastS x)).size : Int)) = runesT x.p + ((digL x (leastS x)).length : Int) := aP89
        have hw2 : IntKind.i64.wrap (runesT x.p + ((digL x (leastS x)).length : Int) + runesT x.s) = lengthS x (leastS x) := IntWalk.i64_in _ (by have := HS.out.2; have := HL.out; omega)
        clear c0 c1 c2 c3 c4 c5 c6 c7 c8 c9 c10 c11
        go_wp2_with fail
        go_region_held3 (fun w' => w'.cell? ⟨w.heap.size, 0, none⟩ = some (.slice L.A x.p.length L.c) ∧ w'.cell? ⟨w.heap.size, 1, none⟩ = some (.slice L.B x.s.length L.d) ∧ w'.cell? ⟨w.heap.size, 2, none⟩ = some (.int .i64 x.im) ∧ w'.cell? ⟨w.heap.size, 3, none⟩ = some (.int .i64 x.fn) ∧ w'.cell? ⟨w.heap.size, 4, none⟩ = some (.int .i64 x.fx) ∧ w'.cell? ⟨w.heap.size, 5, none⟩ = some (.int .i64 x.pr) ∧ w'.cell? ⟨w.heap.size, 6, none⟩ = some (.int .i64 x.se) ∧ w'.cell? ⟨w.heap.size, 7, none⟩ = some (.int .i64 x.em) ∧ w'.cell? ⟨w.heap.size, 8, none⟩ = some (.bool x.ep) ∧ w'.cell? ⟨w.heap.size, 9, none⟩ = some (.string x.pad) ∧ w'.cell? ⟨w.heap.size, 10, none⟩ = some (.int .i64 x.pa) ∧ w'.cell? ⟨w.heap.size, 11, none⟩ = some (.int .i64 x.wd))
          (first | exact sub_at HQ.out.box)
          (first | (go_at_call 52; (with_reducible refine (rtruns_calls L.A L.c x.p _ (Kd.C_below HR.out.r.p (aP92)) HR.out.r.pc HR.out.p HK.out.1).mono ?_); rintro e w1 ⟨rfl, hb⟩; have nq := Aside0.mk ((aP88 : HW w _ L x).step hb); clear HQ hb; have HQ := nq; clear nq) | (go_at_call 52; (with_reducible refine (rtruns_calls L.B L.d x.s _ (Kd.C_below HR.out.r.s (aP92)) HR.out.r.sc HR.out.s HK.out.2).mono ?_); rintro e w1 ⟨rfl, hb⟩; have nq := Aside0.mk ((aP88 : HW w _ L x).step hb); clear HQ hb; have HQ := nq; clear nq) | (go_at_call 59; (with_reducible refine (rleast_calls L x _ HFI.out).mono ?_); rintro e w1 ⟨rfl, hb⟩; have nq := Aside0.mk ((aP88 : HW w _ L x).step hb); clear HQ hb; have HQ := nq; clear nq) | (go_at_call 58; (with_reducible refine (rdigits_calls L x (leastS x) _ HFI.out (Int.le_refl _) HLE.out).mono ?_); rintro e w1 ⟨rfl, hb⟩; have nq := Aside0.mk ((aP88 : HW w _ L x).step hb); clear HQ hb; have HQ := nq; clear nq))
        obtain ⟨c0, c1, c2, c3, c4, c5, c6, c7, c8, c9, c10, c11⟩ := sub_at HQ.out.box
        go_wp2_with (first | (go_at_call 56; (with_reducible refine (within_calls _ _ _ _).mono ?_); rintro e w1 ⟨rfl, rfl⟩))
        go_ret
        exact ⟨ret_bool (by rw [HE3.out, HP.out, o2]; rfl), HQ.out.below⟩
def fillT (x : Sb) : ByteArray := if x.pad.toList.isEmpty then ⟨#[]⟩ else ⟨#[42]⟩ ++ x.pad
theorem fillT_size (x : Sb) (h : x.pad.size ≤ 281474976710656) : (fillT x).size ≤ 281474976710657 := by
  unfold fillT
  split
  · exact Nat.zero_le _
  · rw [ByteArray.size_append]; show 1 + x.pad.size ≤ _; omega
theorem fill_at {x : Sb} (k : Int) (h : x.pa = k) : fillS x k = fillT x := by
  unfold fillS fillT
  rw [if_pos h]
theorem fill_off {x : Sb} (k : Int) (h : x.pa ≠ k) : fillS x k = ⟨#[]⟩ := by
  unfold fillS
  rw [if_neg h]
  split <;> rfl
theorem text_ways (x : Sb) (p d s : ByteArray) (hp : (printT x.p).1 = p) (hd : digS x (wideS x) = d) (hs : (printT x.s).1 = s) :
    (x.pa = 0 → fillT x ++ p ++ d ++ s = textS x) ∧ (x.pa = 1 → p ++ fillT x ++ d ++ s = textS x) ∧ (x.pa = 2 → p ++ d ++ fillT x ++ s = textS x) ∧ (x.pa = 3 → p ++ d ++ s ++ fillT x = textS x) := by
  subst hp hd hs
  unfold textS
  refine ⟨fun h => ?_, fun h => ?_, fun h => ?_, fun h => ?_⟩
  · rw [fill_at 0 h, fill_off 1 (by omega), fill_off 2 (by omega), fill_off 3 (by omega)]
    apply bytes_inj; simp [ByteArray.data_append]
  · rw [fill_off 0 (by omega), fill_at 1 h, fill_off 2 (by omega), fill_off 3 (by omega)]
    apply bytes_inj; simp [ByteArray.data_append]
  · rw [fill_off 0 (by omega), fill_off 1 (by omega), fill_at 2 h, fill_off 3 (by omega)]
    apply bytes_inj; simp [ByteArray.data_append]
  · rw [fill_off 0 (by omega), fill_off 1 (by omega), fill_off 2 (by omega), fill_at 3 h]
    apply bytes_inj; simp [ByteArray.data_append]
set_option maxHeartbeats 16000000 in
set_option maxRecDepth 100000 in
theorem rtext_calls (L : Sl) (x : Sb) (w : World) (hr : SubOk w L x) (hg : Good x) : Calls Try.prog 32 #[subV L x] w fun e w' => e = .returned (.string (textS x)) ∧ Below w.heap.size w w' := by
  have HR := Aside0.mk hr
  have HX := Aside0.mk hg
  have HFI := Aside0.mk hg.fine
  have HK := Aside0.mk (And.intro hg.cp hg.cs)
  have HLE := Aside0.mk (least_le hg.fine)
  clear hr hg
  go_enter Try.func32, Try.ntmps32
  go_upto_if 15 with (first | ((with_reducible refine gate_dst (N := 1) rfl ?_); refine box_event ?hg (N := 1) ?hd (cs := subC L x) (t := 24) ?hr ?_; (case hd => rfl); (case hg => rfl); (case hr => first | (go_simp; done) | (go_simp; rfl)); intro gb hgb w1 hbox hbb; subst hgb; have HQ : Aside0 (HW w w1 L x) := ⟨⟨hbox, hbb⟩⟩; clear hbox hbb; obtain ⟨c0, c1, c2, c3, c4, c5, c6, c7, c8, c9, c10, c11⟩ := sub_at HQ.out.box) | (go_at_call 59; (with_reducible refine (rleast_calls L x _ HFI.out).mono ?_); rintro e w1 ⟨rfl, hb⟩; have nq := Aside0.mk (HQ.out.step hb); clear HQ hb; have HQ := nq; clear nq; obtain ⟨c0, c1, c2, c3, c4, c5, c6, c7, c8, c9, c10, c11⟩ := sub_at HQ.out.box))
  go_cut [3, 4] (fun v v4 wc => v = .int .i64 (wideS x) ∧ v4 = .string (fillT x) ∧ Aside0 (HW w wc L x))
  case first =>
    rcases Bool.eq_false_or_eq_true x.pad.toList.isEmpty with p1 | p1
    case inl =>
      have HE := Aside0.mk (show wideS x = leastS x by unfold wideS; rw [if_pos p1])
      have HE2 := Aside0.mk (show fillT x = ⟨#[]⟩ by unfold fillT; rw [if_pos p1])
      rw [p1, Bool.not_true]
      go_wp2
      go_meet
      case rel => exact ⟨by rw [HE.out], by rw [HE2.out], HQ⟩
    have HE2 := Aside0.mk (show fillT x = ⟨#[42]⟩ ++ x.pad by unfold fillT; rw [if_neg (by rw [p1]; decide)])
    rw [p1, Bool.not_false]
    have HS := Aside0.mk (dig_size x (leastS x) HFI.out (Int.le_refl _) HLE.out)
    have HL := Aside0.mk (And.intro (runesT_range x.p HK.out.1 HR.out.p) (runesT_range x.s HK.out.2 HR.out.s))
    have hw1 : IntKind.i64.wrap (runesT x.p + ((digS x (leastS x)).size : Int)) = runesT x.p + ((digL x (leastS x)).length : Int) := aP89
    have hw2 : IntKind.i64.wrap (runesT x.p + ((digL x (leastS x)).length : Int) + runesT x.s) = lengthS x (leastS x) := IntWalk.i64_in _ (by have := HS.out.2; have := HL.out; omega)
    have hw3 : IntKind.i64.wrap (x.wd - lengthS x (leastS x)) = x.wd - lengthS x (leastS x) := IntWalk.i64_in _ (by have h1 := HX.out.len1 p1; have h2 := HX.out.len0; omega)
    have hw4 : IntKind.i64.wrap (leastS x + (x.wd - lengthS x (leastS x))) = wideS x := by
      rw [show wideS x = leastS x + (x.wd - lengthS x (leastS x)) by unfold wideS; rw [if_neg (by rw [p1]; decide)]]
      exact IntWalk.i64_in _ (by have h1 := HX.out.len1 p1; have h2 := HX.out.len0; have h4 := HLE.out; have h5 : 1 ≤ leastS x := (aP87); omega)
    have hz := eq_false (Nat.not_lt.2 (show 1 + x.pad.size ≤ 9223372036854775807 by have := HR.out.pad; omega))
    clear c0 c1 c2 c3 c4 c5 c6 c7 c8 c9 c10 c11
    go_wp2_with fail
    go_region_held3 (fun w' => w'.cell? ⟨w.heap.size, 0, none⟩ = some (.slice L.A x.p.length L.c) ∧ w'.cell? ⟨w.heap.size, 1, none⟩ = some (.slice L.B x.s.length L.d) ∧ w'.cell? ⟨w.heap.size, 2, none⟩ = some (.int .i64 x.im) ∧ w'.cell? ⟨w.heap.size, 3, none⟩ = some (.int .i64 x.fn) ∧ w'.cell? ⟨w.heap.size, 4, none⟩ = some (.int .i64 x.fx) ∧ w'.cell? ⟨w.heap.size, 5, none⟩ = some (.int .i64 x.pr) ∧ w'.cell? ⟨w.heap.size, 6, none⟩ = some (.int .i64 x.se) ∧ w'.cell? ⟨w.heap.size, 7, none⟩ = some (.int .i64 x.em) ∧ w'.cell? ⟨w.heap.size, 8, none⟩ = some (.bool x.ep) ∧ w'.cell? ⟨w.heap.size, 9, none⟩ = some (.string x.pad) ∧ w'.cell? ⟨w.heap.size, 10, none⟩ = some (.int .i64 x.pa) ∧ w'.cell? ⟨w.heap.size, 11, none⟩ = some (.int .i64 x.wd))
      (first | exact sub_at HQ.out.box)
      (first | (go_at_call 52; (with_reducible refine (rtruns_calls L.A L.c x.p _ (Kd.C_below HR.out.r.p (aP92)) HR.out.r.pc HR.out.p HK.out.1).mono ?_); rintro e w1 ⟨rfl, hb⟩; have nq := Aside0.mk ((aP88 : HW w _ L x).step hb); clear HQ hb; have HQ := nq; clear nq) | (go_at_call 52; (with_reducible refine (rtruns_calls L.B L.d x.s _ (Kd.C_below HR.out.r.s (aP92)) HR.out.r.sc HR.out.s HK.out.2).mono ?_); rintro e w1 ⟨rfl, hb⟩; have nq := Aside0.mk ((aP88 : HW w _ L x).step hb); clear HQ hb; have HQ := nq; clear nq) | (go_at_call 58; (with_reducible refine (rdigits_calls L x (leastS x) _ HFI.out (Int.le_refl _) HLE.out).mono ?_); rintro e w1 ⟨rfl, hb⟩; have nq := Aside0.mk ((aP88 : HW w _ L x).step hb); clear HQ hb; have HQ := nq; clear nq))
    obtain ⟨c0, c1, c2, c3, c4, c5, c6, c7, c8, c9, c10, c11⟩ := sub_at HQ.out.box
    go_wp2
    go_meet
    case rel => exact ⟨rfl, by rw [HE2.out], HQ⟩
  case rest =>
    obtain ⟨rfl, rfl, HQ'⟩ := hcut
    clear HQ c0 c1 c2 c3 c4 c5 c6 c7 c8 c9 c10 c11
    have HQ := HQ'
    clear HQ'
    obtain ⟨c0, c1, c2, c3, c4, c5, c6, c7, c8, c9, c10, c11⟩ := sub_at HQ.out.box
    have HT := Aside0.mk (text_ways x _ _ _ rfl rfl rfl)
    have a0 := fillT_size x HR.out.pad
    have b0 := print_size x.p HR.out.p
    have b1 := print_size x.s HR.out.s
    have d := dig_size x (wideS x) HFI.out HX.out.wide0 HX.out.wide1
    have q0 := HX.out.pa0
    have q1 := HX.out.pa1
    have hpa : x.pa = 0 ∨ x.pa = 1 ∨ x.pa = 2 ∨ x.pa = 3 := by omega
    rcases hpa with e | e | e | e
    case inl =>
      have HT0 := Aside0.mk (HT.out.1 e)
      have t1 : (x.pa == 1) = false := beq_eq_false_iff_ne.mpr (by omega)
      have t2 : (x.pa == 2) = false := beq_eq_false_iff_ne.mpr (by omega)
      have t3 : (x.pa == 3) = false := beq_eq_false_iff_ne.mpr (by omega)
      have z1 := eq_false (Nat.not_lt.2 (show (fillT x).size + (printT x.p).1.size ≤ 9223372036854775807 by omega))
      have z2 := eq_false (Nat.not_lt.2 (show (fillT x).size + (printT x.p).1.size + (digS x (wideS x)).size ≤ 9223372036854775807 by omega))
      have z3 := eq_false (Nat.not_lt.2 (show (fillT x).size + (printT x.p).1.size + (digS x (wideS x)).size + (printT x.s).1.size ≤ 9223372036854775807 by omega))
      exact aP57
    case inr.inl =>
      have HT0 := Aside0.mk (HT.out.2.1 e)
      have t1 : (x.pa == 1) = true := beq_iff_eq.mpr e
      have z1 := eq_false (Nat.not_lt.2 (show (printT x.p).1.size + (fillT x).size ≤ 9223372036854775807 by omega))
      have z2 := eq_false (Nat.not_lt.2 (show (printT x.p).1.size + (fillT x).size + (digS x (wideS x)).size ≤ 9223372036854775807 by omega))
      have z3 := eq_false (Nat.not_lt.2 (show (printT x.p).1.size + (fillT x).size + (digS x (wideS x)).size + (printT x.s).1.size ≤ 9223372036854775807 by omega))
      exact aP57
    case inr.inr.inl =>
      have HT0 := Aside0.mk (HT.out.2.2.1 e)
      have t1 : (x.pa == 1) = false := beq_eq_false_iff_ne.mpr (by omega)
      have t2 : (x.pa == 2) = true := beq_iff_eq.mpr e
      have z1 := eq_false (Nat.not_lt.2 (show (printT x.p).1.size + (digS x (wideS x)).size ≤ 9223372036854775807 by omega))
      have z2 := eq_false (Nat.not_lt.2 (show (printT x.p).1.size + (digS x (wideS x)).size + (fillT x).size ≤ 9223372036854775807 by omega))
      have z3 := eq_false (Nat.not_lt.2 (show (printT x.p).1.size + (digS x (wideS x)).size + (fillT x).size + (printT x.s).1.size ≤ 9223372036854775807 by omega))
      exact aP57
    case inr.inr.inr =>
      have HT0 := Aside0.mk (HT.out.2.2.2 e)
      have t1 : (x.pa == 1) = false := beq_eq_false_iff_ne.mpr (by omega)
      have t2 : (x.pa == 2) = false := beq_eq_false_iff_ne.mpr (by omega)
      have t3 : (x.pa == 3) = true := beq_iff_eq.mpr e
      have z1 := eq_false (Nat.not_lt.2 (show (printT x.p).1.size + (digS x (wideS x)).size ≤ 9223372036854775807 by omega))
      have z2 := eq_false (Nat.not_lt.2 (show (printT x.p).1.size + (digS x (wideS x)).size + (printT x.s).1.size ≤ 9223372036854775807 by omega))
      have z3 := eq_false (Nat.not_lt.2 (show (printT x.p).1.size + (digS x (wideS x)).size + (printT x.s).1.size + (fillT x).size ≤ 9223372036854775807 by omega))
      exact aP57
def subEq (x y : Sb) : Bool := decide (x.p = y.p) && (decide (x.s = y.s) && (x.im == y.im && (x.fn == y.fn && (x.fx == y.fx && (x.pr == y.pr && (x.se == y.se && (x.em == y.em && (x.ep == y.ep && (x.pad.toList == y.pad.toList && (x.pa == y.pa && (x.wd == y.wd)))))))))))
structure SW (w0 w : World) (L : Sl) (x : Sb) (g : Nat) (M : Sl) (y : Sb) : Prop where
  box : w.heap[w0.heap.size]? = some (.cells (subC L x) 24 (0, 0))
  box2 : w.heap[g]? = some (.cells (subC M y) 24 (0, 0))
  below : Below w0.heap.size w0 w
theorem SW.step {w0 w w1 : World} {L : Sl} {x : Sb} {g : Nat} {M : Sl} {y : Sb} (h : SW w0 w L x g M y) (hb : Below w.heap.size w w1) : SW w0 w1 L x g M y := ⟨blk_below h.box hb, blk_below h.box2 hb, below_step h.below hb⟩
set_option maxHeartbeats 16000000 in
set_option maxRecDepth 100000 in
theorem samesub_calls (L : Sl) (x : Sb) (M : Sl) (y : Sb) (w : World) (hx : SubR w L x) (hy : SubR w M y) : Calls Try.prog 18 #[subV L x, subV M y] w fun e w' => e = .returned (.bool (subEq x y)) ∧ Below w.heap.size w w' := by
  have HX := Aside0.mk hx
  have HY := Aside0.mk hy
  clear hx hy
  cases h0 : (decide (x.p = y.p))
  rotate_left
  cases h1 : (decide (x.s = y.s))
  rotate_left
  cases h2 : (x.im == y.im)
  rotate_left
  cases h3 : (x.fn == y.fn)
  rotate_left
  cases h4 : (x.fx == y.fx)
  rotate_left
  cases h5 : (x.pr == y.pr)
  rotate_left
  cases h6 : (x.se == y.se)
  rotate_left
  cases h7 : (x.em == y.em)
  rotate_left
  cases h8 : (x.ep == y.ep)
  rotate_left
  cases h9 : (x.pad.toList == y.pad.toList)
  rotate_left
  cases h10 : (x.pa == y.pa)
  rotate_left
  all_goals
    go_enter Try.func18, Try.ntmps18
    dsimp only [List.append]
    go_wp2_with (first | ((with_reducible refine gate_dst (N := 2) rfl ?_); refine box_event ?hg (N := 2) ?hd (cs := subC L x) (t := 24) ?hr ?_; (case hd => rfl); (case hg => rfl); (case hr => first | (go_simp; done) | (go_simp; rfl)); intro gb hgb w1 hbox hbb; subst hgb; have HQ0 : Aside0 (HW w w1 L x) := ⟨⟨hbox, hbb⟩⟩; clear hbox hbb) | ((with_reducible refine gate_dst (N := 3) rfl ?_); refine box_event ?hg (N := 3) ?hd (cs := subC M y) (t := 24) ?hr ?_; (case hd => rfl); (case hg => rfl); (case hr => first | (go_simp; done) | (go_simp; rfl)); intro gb hgb w1 hbox hbb; have HQ : Aside0 (SW w w1 L x gb M y) := ⟨⟨(HQ0.out.step hbb).box, hbox, (HQ0.out.step hbb).below⟩⟩; clear hbox hbb hgb HQ0; obtain ⟨c0, c1, c2, c3, c4, c5, c6, c7, c8, c9, c10, c11⟩ := sub_at HQ.out.box; obtain ⟨d0, d1, d2, d3, d4, d5, d6, d7, d8, d9, d10, d11⟩ := sub_at HQ.out.box2) | (go_at_call 29; (with_reducible refine (same_calls L.A L.c x.p M.A M.c y.p _ (Kd.C_below HX.out.p HQ.out.below) HX.out.pc (Kd.C_below HY.out.p HQ.out.below) HY.out.pc HX.out.pl).mono ?_); rintro e w1 ⟨rfl, hb⟩; have nq := Aside0.mk (HQ.out.step hb); clear HQ hb c0 c1 c2 c3 c4 c5 c6 c7 c8 c9 c10 c11 d0 d1 d2 d3 d4 d5 d6 d7 d8 d9 d10 d11; have HQ := nq; clear nq; obtain ⟨c0, c1, c2, c3, c4, c5, c6, c7, c8, c9, c10, c11⟩ := sub_at HQ.out.box; obtain ⟨d0, d1, d2, d3, d4, d5, d6, d7, d8, d9, d10, d11⟩ := sub_at HQ.out.box2) | (go_at_call 29; (with_reducible refine (same_calls L.B L.d x.s M.B M.d y.s _ (Kd.C_below HX.out.s HQ.out.below) HX.out.sc (Kd.C_below HY.out.s HQ.out.below) HY.out.sc HX.out.sl).mono ?_); rintro e w1 ⟨rfl, hb⟩; have nq := Aside0.mk (HQ.out.step hb); clear HQ hb c0 c1 c2 c3 c4 c5 c6 c7 c8 c9 c10 c11 d0 d1 d2 d3 d4 d5 d6 d7 d8 d9 d10 d11; have HQ := nq; clear nq; obtain ⟨c0, c1, c2, c3, c4, c5, c6, c7, c8, c9, c10, c11⟩ := sub_at HQ.out.box; obtain ⟨d0, d1, d2, d3, d4, d5, d6, d7, d8, d9, d10, d11⟩ := sub_at HQ.out.box2))
    go_ret
    exact ⟨ret_bool (by simp [subEq, *]), HQ.out.below⟩
theorem Sz_nil (w : World) : Kd.C k53 w none 0 [] := Kd.C_nil k53 w
def zeroSb : Sb := ⟨[], [], 0, 0, 0, 0, 0, 0, false, ⟨#[]⟩, 0, 0⟩
theorem zero_eq (x : Sb) : subEq x zeroSb = zeroB x := by
  have hp : ∀ l : List S53, decide (l = []) = (l.length == 0) := fun l => by cases l <;> rfl
  have hn : ∀ l : List UInt8, (l == ([] : List UInt8)) = l.isEmpty := fun l => by cases l <;> rfl
  unfold subEq zeroSb zeroB
  rw [hp, hp, show (⟨#[]⟩ : ByteArray).toList = [] from by decide +kernel, hn]
  cases x.ep <;> rfl
theorem samezero_calls (L : Sl) (x : Sb) (w : World) (hx : SubR w L x) : Calls Try.prog 18 #[subV L x, .agg #[.slice none 0 0, .slice none 0 0, .int .i64 0, .int .i64 0, .int .i64 0, .int .i64 0, .int .i64 0, .int .i64 0, .bool false, .string ⟨#[]⟩, .int .i64 0, .int .i64 0]] w fun e w' => e = .returned (.bool (zeroB x)) ∧ Below w.heap.size w w' := by
  have h := samesub_calls L x ⟨none, 0, none, 0⟩ zeroSb w hx ⟨Sz_nil w, Nat.le_refl _, Sz_nil w, Nat.le_refl _, Nat.le_of_ble_eq_true rfl, Nat.le_of_ble_eq_true rfl⟩
  rw [zero_eq] at h
  exact h
end Go.Proofs.Ytacnjemndfmbhaa.Q
end
