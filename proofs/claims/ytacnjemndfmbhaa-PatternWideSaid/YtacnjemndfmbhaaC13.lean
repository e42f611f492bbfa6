import Derived.Test.YtacnjemndfmbhaaC9
import Derived.Test.YtacnjemndfmbhaaC10
import Derived.Test.YtacnjemndfmbhaaC12
namespace Go.Proofs.Ytacnjemndfmbhaa
open Go.RowKit
theorem aP23 {p : Prop} (h : p := by
    go_wp2_with (first | (go_at_call 14; ((refine (fixed_calls _ (Glob_below HG.out BW.out)).mono ?_); rintro e wf ⟨rfl, hb⟩; have n_ := Aside0.mk (below_step BW.out hb); clear BW hb; have BW := n_; clear n_)))
    go_ret
    exact ⟨rfl, BW.out⟩) : p := h
end Go.Proofs.Ytacnjemndfmbhaa
section
namespace Go.Proofs.Ytacnjemndfmbhaa.Q
open Go.RowKit Go.Proofs.Ytacnjemndfmbhaa.A Go.Proofs.Ytacnjemndfmbhaa.R1 Go.Proofs.YtacnjemndfmbhaaW.PrintWords Go.Proofs.YtacnjemndfmbhaaW.PrintLast Go.Proofs.YtacnjemndfmbhaaW.PrintMore
set_option linter.unusedVariables false
set_option linter.unusedSimpArgs false
theorem text_data (x : Sb) : (textS x).data.toList = (fillS x 0).data.toList ++ ((printT x.p).1.data.toList ++ ((fillS x 1).data.toList ++ (placesL x (wideS x) ++ (fracL x ++ (expL x ++ ((fillS x 2).data.toList ++ ((printT x.s).1.data.toList ++ (fillS x 3).data.toList))))))) := by
  unfold textS
  simp only [ByteArray.data_append, Array.toList_append, List.append_assoc]
  show _ ++ (_ ++ (_ ++ ((digL x (wideS x)) ++ _))) = _
  unfold digL
  simp only [List.append_assoc]
theorem rest_ok {x : Sb} (h : HalfOk x) : RestOk ((fillS x 2).data.toList ++ ((printT x.s).1.data.toList ++ (fillS x 3).data.toList)) := by
  have hB : ∀ k, (fillS x k).data.toList = [] ∨ ∃ q, (fillS x k).data.toList = 42 :: q := by
    intro k
    rw [fill_data]
    split
    · exact .inl rfl
    · split
      · exact .inr ⟨_, rfl⟩
      · exact .inl rfl
  rcases hB 2 with h2 | ⟨q, h2⟩
  · rw [h2, List.nil_append]
    refine ⟨_, _, rfl, print_clean x.s, ?_⟩
    rcases hB 3 with h3 | ⟨q, h3⟩
    · exact .inl h3
    · exact .inr ⟨q, .inl h3⟩
  · rw [h2]
    exact ⟨[], _, rfl, rfl, .inr ⟨_, .inl rfl⟩⟩
theorem fill_only {x : Sb} (h : HalfOk x) {k : Int} (hn : (fillS x k).data.toList ≠ []) : x.pad.toList.isEmpty = false ∧ x.pa = k := by
  rw [fill_data] at hn
  cases he : x.pad.toList.isEmpty with
  | true => rw [he, if_pos rfl] at hn; exact absurd rfl hn
  | false =>
    rw [he, if_neg (by decide)] at hn
    by_cases hk : x.pa = k
    · exact ⟨rfl, hk⟩
    · rw [if_neg hk] at hn; exact absurd rfl hn
theorem clean_no42 {A r : List UInt8} (hc : clean A false = some false) (hn : A ≠ []) : ∀ c q, A ++ r = c :: q → c ≠ 42 := by
  intro c q e
  cases A with
  | nil => exact absurd rfl hn
  | cons b A =>
    obtain ⟨rfl, _⟩ := List.cons.inj e
    by_cases hb : b = 39
    · subst hb; decide
    · rintro rfl
      exact (clean_head hc hb).1 (by decide)
theorem places_no42 {x : Sb} {n : Int} {r : List UInt8} (hf : Fine x) (hn : leastS x ≤ n) : ∀ c q, placesL x n ++ r = c :: q → c ≠ 42 := by
  intro c q e
  obtain ⟨c2, q2, h1, h2⟩ := places_head hf hn
  rw [h1] at e
  obtain ⟨rfl, _⟩ := List.cons.inj e
  rcases h2 with rfl | rfl <;> decide
set_option maxHeartbeats 1000000 in
theorem scan_text {x : Sb} (hx : halfS x = true) : scanA (textS x) 0 = some (((textS x).size : Int), x) := by
  have h := half_ok hx
  obtain ⟨s, hs⟩ : ∃ s, textS x = s := ⟨_, rfl⟩
  have d0 := Dr.start (textS x)
  rw [text_data, hs] at d0
  rw [hs]
  obtain ⟨P, hP⟩ : ∃ P, (printT x.p).1.data.toList = P := ⟨_, rfl⟩
  obtain ⟨S, hS⟩ : ∃ S, (printT x.s).1.data.toList = S := ⟨_, rfl⟩
  obtain ⟨n, hn⟩ : ∃ n, wideS x = n := ⟨_, rfl⟩
  have hw := h.wide
  have hrest := rest_ok h
  have cP := print_clean x.p
  have cS := print_clean x.s
  have nP : x.p ≠ [] → P ≠ [] := fun e => by rw [← hP]; exact print_ne h.cp e
  have nS : x.s ≠ [] → S ≠ [] := fun e => by rw [← hS]; exact print_ne h.cs e
  have zP : x.p = [] → P = [] := fun e => by rw [← hP, e, print_nil]
  have zS : x.s = [] → S = [] := fun e => by rw [← hS, e, print_nil]
  rw [hP] at d0 cP
  rw [hS] at d0 cS hrest
  rw [hn] at d0 hw
  have hf := h.fine
  have p1 : x.p = [] → (fillS x 1).data.toList = [] := by
    intro e
    by_cases c : (fillS x 1).data.toList = []
    · exact c
    · obtain ⟨c1, c2⟩ := fill_only h c
      exact absurd e ((h.some c1).2.2.1 c2)
  have p3 : x.s = [] → (fillS x 3).data.toList = [] := by
    intro e
    by_cases c : (fillS x 3).data.toList = []
    · exact c
    · obtain ⟨c1, c2⟩ := fill_only h c
      exact absurd e ((h.some c1).2.2.2.1 c2)
  -- ahead
  have pm : padAt x (0 - 1) = (⟨#[]⟩, 0) := by
    unfold padAt
    rw [if_neg]
    rintro ⟨e1, e2⟩
    have := (h.some e1).1
    omega
  have s0 := fill_back (h := zeroSb2) h.pad d0 (by
    intro hz
    by_cases e : x.p = []
    · rw [zP e, p1 e, List.nil_append, List.nil_append]
      exact places_no42 hf hw
    · exact clean_no42 cP (nP e)) pm.symm
  have d1 := d0.app
  obtain ⟨q1, hq1⟩ : ∃ q1, (0 : Int) + (fillS x 0).data.toList.length = q1 := ⟨_, rfl⟩
  rw [hq1] at s0 d1
  -- the prefix
  have s1 := tok_back (fun b hb => by rw [stop1] at hb; exact of_decide_eq_true hb) h.cp (st := stops1) (s := s) (p := q1) (r := (fillS x 1).data.toList ++ (placesL x n ++ (fracL x ++ (expL x ++ ((fillS x 2).data.toList ++ (S ++ (fillS x 3).data.toList)))))) (by rw [hP]; exact d1) (.inr (by
    by_cases c : (fillS x 1).data.toList = []
    · rw [c, List.nil_append]
      obtain ⟨c2, q2, h1, h2⟩ := places_head hf hw
      rw [h1]
      refine ⟨c2, _, rfl, ?_, ?_⟩
      · rcases h2 with rfl | rfl <;> decide
      · rw [stop1]; rcases h2 with rfl | rfl <;> decide
    · obtain ⟨c1, c2⟩ := fill_only h c
      rw [fill_data, if_neg (by rw [c1]; decide), if_pos c2]
      exact ⟨42, _, rfl, by decide, by decide⟩))
  have d2 := d1.app
  rw [hP] at s1
  obtain ⟨q2, hq2⟩ : ∃ q2, q1 + (P.length : Int) = q2 := ⟨_, rfl⟩
  rw [hq2] at s1 d2
  -- behind the prefix
  have s2 : fillIf x.p s q2 ⟨x.p, [], 0, 0, 0, 0, 0, 0, false, (padAt x 0).1, (padAt x 0).2, 0⟩ 1 = some (q2 + (fillS x 1).data.toList.length, ⟨x.p, [], 0, 0, 0, 0, 0, 0, false, (padAt x 1).1, (padAt x 1).2, 0⟩) := by
    unfold fillIf
    by_cases e : x.p = []
    · have hpe : padAt x 1 = padAt x 0 := by
        unfold padAt
        by_cases c : x.pad.toList.isEmpty = false
        · have := (h.some c).2.2.1
          have hne : x.pa ≠ 1 := fun e1 => this e1 e
          by_cases c2 : x.pa ≤ 0
          · rw [if_pos ⟨c, by omega⟩, if_pos ⟨c, c2⟩]
          · rw [if_neg (by omega), if_neg (by omega)]
        · rw [if_neg (fun e => c e.1), if_neg (fun e => c e.1)]
      rw [if_pos (by rw [e]; rfl), p1 e, hpe]
      simp
    · rw [if_neg (fun hl => e (List.eq_nil_of_length_eq_zero hl))]
      exact fill_back (h := ⟨x.p, [], 0, 0, 0, 0, 0, 0, false, (padAt x 0).1, (padAt x 0).2, 0⟩) h.pad d2 (fun _ => places_no42 hf hw) rfl
  have d3 := d2.app
  obtain ⟨q3, hq3⟩ : ∃ q3, q2 + ((fillS x 1).data.toList.length : Int) = q3 := ⟨_, rfl⟩
  rw [hq3] at s2 d3
  -- places
  have hexp : ∀ c q, expL x ++ ((fillS x 2).data.toList ++ (S ++ (fillS x 3).data.toList)) = c :: q → c ≠ 35 ∧ c ≠ 48 ∧ c ≠ 44 ∧ c ≠ 46 := by
    intro c q e
    unfold expL at e
    split at e
    · have e' : (69 : UInt8) :: _ = c :: q := e
      obtain ⟨rfl, _⟩ := List.cons.inj e'
      decide
    · rw [List.nil_append] at e
      exact rest_head hrest c q e
  have s3 := places_back (h := ⟨x.p, [], 0, 0, 0, 0, 0, 0, false, (padAt x 1).1, (padAt x 1).2, 0⟩) hf hw d3 (by
    intro c q e
    unfold fracL at e
    split at e
    · have e' : (46 : UInt8) :: _ = c :: q := e
      obtain ⟨rfl, _⟩ := List.cons.inj e'
      decide
    · rw [List.nil_append] at e
      have := hexp c q e
      exact ⟨this.1, this.2.1, this.2.2.1⟩) rfl rfl
  obtain ⟨s3, d4⟩ := s3
  obtain ⟨q4, hq4⟩ : ∃ q4, q3 + ((placesL x n).length : Int) = q4 := ⟨_, rfl⟩
  rw [hq4] at s3 d4
  -- fraction and exponent
  obtain ⟨s4, d5⟩ := frac_back (h := ⟨x.p, [], x.im, 0, 0, x.pr, x.se, 0, false, (padAt x 1).1, (padAt x 1).2, 0⟩) hf d4 (fun c q e => by have := hexp c q e; exact ⟨this.1, this.2.1, this.2.2.2⟩) rfl rfl
  obtain ⟨s5, d6⟩ := exp_back (h := ⟨x.p, [], x.im, x.fn, x.fx, x.pr, x.se, 0, false, (padAt x 1).1, (padAt x 1).2, 0⟩) hf h.ep d5 hrest rfl rfl
  obtain ⟨q6, hq6⟩ : ∃ q6, q4 + ((fracL x).length : Int) + (expL x).length = q6 := ⟨_, rfl⟩
  rw [hq6] at s5 d6
  -- ahead of the suffix
  have s6 := fill_back (h := ⟨x.p, [], x.im, x.fn, x.fx, x.pr, x.se, x.em, x.ep, (padAt x 1).1, (padAt x 1).2, 0⟩) (k := 2) h.pad d6 (by
    intro hz
    by_cases e : x.s = []
    · rw [zS e, p3 e]
      intro c q e2
      exact absurd e2 (by simp)
    · exact clean_no42 cS (nS e)) rfl
  have d7 := d6.app
  obtain ⟨q7, hq7⟩ : ∃ q7, q6 + ((fillS x 2).data.toList.length : Int) = q7 := ⟨_, rfl⟩
  rw [hq7] at s6 d7
  -- the suffix
  have s7 := tok_back stop2 h.cs (st := stops2) (s := s) (p := q7) (r := (fillS x 3).data.toList) (by rw [hS]; exact d7) (by
    by_cases c : (fillS x 3).data.toList = []
    · exact .inl c
    · obtain ⟨c1, c2⟩ := fill_only h c
      rw [fill_data, if_neg (by rw [c1]; decide), if_pos c2]
      exact .inr ⟨42, _, rfl, by decide, by decide⟩)
  have d8 := d7.app
  rw [hS] at s7
  obtain ⟨q8, hq8⟩ : ∃ q8, q7 + (S.length : Int) = q8 := ⟨_, rfl⟩
  rw [hq8] at s7 d8
  -- behind the suffix
  have hend : q8 + ((fillS x 3).data.toList.length : Int) = s.size := by have := d8.len; omega
  have d8' : Dr s q8 ((fillS x 3).data.toList ++ []) := by rw [List.append_nil]; exact d8
  have s8 : fillIf x.s s q8 ⟨x.p, x.s, x.im, x.fn, x.fx, x.pr, x.se, x.em, x.ep, (padAt x 2).1, (padAt x 2).2, 0⟩ 3 = some ((s.size : Int), ⟨x.p, x.s, x.im, x.fn, x.fx, x.pr, x.se, x.em, x.ep, x.pad, x.pa, 0⟩) := by
    have hp3 : padAt x 3 = (x.pad, x.pa) := by
      unfold padAt
      by_cases c : x.pad.toList.isEmpty = false
      · rw [if_pos ⟨c, (h.some c).2.1⟩]
      · have c' : x.pad.toList.isEmpty = true := by simpa using c
        rw [if_neg (fun e => c e.1), pad_empty c', (h.none c').1]
    unfold fillIf
    by_cases e : x.s = []
    · have hpe : padAt x 3 = padAt x 2 := by
        unfold padAt
        by_cases c : x.pad.toList.isEmpty = false
        · have := (h.some c).2.2.2.1
          have hne : x.pa ≠ 3 := fun e1 => this e1 e
          by_cases c2 : x.pa ≤ 2
          · rw [if_pos ⟨c, by omega⟩, if_pos ⟨c, c2⟩]
          · rw [if_neg (by omega), if_neg (by omega)]
        · rw [if_neg (fun e => c e.1), if_neg (fun e => c e.1)]
      have hl := hend
      rw [p3 e] at hl
      rw [if_pos (by rw [e]; rfl), ← hpe, hp3, ← hl]
      simp
    · rw [if_neg (fun hl => e (List.eq_nil_of_length_eq_zero hl))]
      rw [fill_back (h := ⟨x.p, x.s, x.im, x.fn, x.fx, x.pr, x.se, x.em, x.ep, (padAt x 2).1, (padAt x 2).2, 0⟩) h.pad d8' (fun _ c q e2 => absurd e2 (by simp)) rfl, hend, hp3]
  -- together
  have hlen : q6 - q4 + (q4 - q3) = (digL x n).length := by
    unfold digL
    rw [List.length_append, List.length_append]
    omega
  have run : runS s (stepsFrom 0) ⟨0, zeroSb2, 0⟩ = some ⟨(s.size : Int), ⟨x.p, x.s, x.im, x.fn, x.fx, x.pr, x.se, x.em, x.ep, x.pad, x.pa, 0⟩, q4 - q3 + (q6 - q4)⟩ := by
    show ((fillF s 0 zeroSb2 0).map fun x => (⟨x.1, x.2, 0⟩ : St)).bind (runS s [1, 2, 3, 4, 5, 6, 7]) = _
    rw [s0]
    show (if (tokT s stops1 q1).2 = 0 then some (⟨stopN s stops1 q1, ⟨(tokT s stops1 q1).1, [], 0, 0, 0, 0, 0, 0, false, (padAt x 0).1, (padAt x 0).2, 0⟩, 0⟩ : St) else none).bind (runS s [2, 3, 4, 5, 6, 7]) = _
    rw [s1.2, s1.1, if_pos rfl]
    show ((fillIf x.p s q2 ⟨x.p, [], 0, 0, 0, 0, 0, 0, false, (padAt x 0).1, (padAt x 0).2, 0⟩ 1).map fun x => (⟨x.1, x.2, 0⟩ : St)).bind (runS s [3, 4, 5, 6, 7]) = _
    rw [s2]
    show ((placesF s q3 ⟨x.p, [], 0, 0, 0, 0, 0, 0, false, (padAt x 1).1, (padAt x 1).2, 0⟩).map fun x => (⟨x.1, x.2, x.1 - q3⟩ : St)).bind (runS s [4, 5, 6, 7]) = _
    rw [s3]
    show ((tailF s q4 ⟨x.p, [], x.im, 0, 0, x.pr, x.se, 0, false, (padAt x 1).1, (padAt x 1).2, 0⟩).map fun x => (⟨x.1, x.2, q4 - q3 + (x.1 - q4)⟩ : St)).bind (runS s [5, 6, 7]) = _
    unfold tailF
    rw [s4]
    show (some (⟨(expF s (q4 + (fracL x).length) ⟨x.p, [], x.im, x.fn, x.fx, x.pr, x.se, 0, false, (padAt x 1).1, (padAt x 1).2, 0⟩).1, (expF s (q4 + (fracL x).length) ⟨x.p, [], x.im, x.fn, x.fx, x.pr, x.se, 0, false, (padAt x 1).1, (padAt x 1).2, 0⟩).2, q4 - q3 + ((expF s (q4 + (fracL x).length) ⟨x.p, [], x.im, x.fn, x.fx, x.pr, x.se, 0, false, (padAt x 1).1, (padAt x 1).2, 0⟩).1 - q4)⟩ : St)).bind (runS s [5, 6, 7]) = _
    rw [s5]
    show ((fillF s q6 ⟨x.p, [], x.im, x.fn, x.fx, x.pr, x.se, x.em, x.ep, (padAt x 1).1, (padAt x 1).2, 0⟩ 2).map fun x => (⟨x.1, x.2, q4 - q3 + (q6 - q4)⟩ : St)).bind (runS s [6, 7]) = _
    rw [s6]
    show (if (tokT s stops2 q7).2 = 0 then some (⟨stopN s stops2 q7, ⟨x.p, (tokT s stops2 q7).1, x.im, x.fn, x.fx, x.pr, x.se, x.em, x.ep, (padAt x 2).1, (padAt x 2).2, 0⟩, q4 - q3 + (q6 - q4)⟩ : St) else none).bind (runS s [7]) = _
    rw [s7.2, s7.1, if_pos rfl]
    show ((fillIf x.s s q8 ⟨x.p, x.s, x.im, x.fn, x.fx, x.pr, x.se, x.em, x.ep, (padAt x 2).1, (padAt x 2).2, 0⟩ 3).map fun x => (⟨x.1, x.2, q4 - q3 + (q6 - q4)⟩ : St)).bind (runS s []) = _
    rw [s8]
    rfl
  unfold scanA
  rw [run]
  show some (_, widthS _) = some (_, _)
  congr 2
  unfold widthS
  by_cases c : x.pad.toList.isEmpty = true
  · rw [if_pos c]
    have := (h.none c).2
    cases x
    simp only at this
    rw [this]
  · rw [if_neg c]
    have c' : x.pad.toList.isEmpty = false := by simpa using c
    have := (h.some c').2.2.2.2.1
    rw [hn] at this
    show (⟨x.p, x.s, x.im, x.fn, x.fx, x.pr, x.se, x.em, x.ep, x.pad, x.pa, runesT x.p + (q4 - q3 + (q6 - q4)) + runesT x.s⟩ : Sb) = x
    rw [show runesT x.p + (q4 - q3 + (q6 - q4)) + runesT x.s = x.wd by omega]
theorem zero_is {x : Sb} (h : zeroB x = true) : x = zeroSb2 := by
  have hl : ∀ l : List S53, (l.length == 0) = true → l = [] := fun l h => List.eq_nil_of_length_eq_zero (beq_iff_eq.mp h)
  unfold zeroB at h
  simp only [Bool.and_eq_true] at h
  obtain ⟨h1, h2, h3, h4, h5, h6, h7, h8, h9, h10, h11, h12⟩ := h
  cases x
  simp only [beq_iff_eq, Bool.not_eq_true'] at *
  have e10 := pad_empty h10
  have e1 := List.eq_nil_of_length_eq_zero h1
  have e2 := List.eq_nil_of_length_eq_zero h2
  subst e1; subst e2; subst h3; subst h4; subst h5; subst h6; subst h7; subst h8; subst h9; subst e10; subst h11; subst h12
  rfl
theorem parse_back {x : Pt} (h : checkP x = 0) : parseP (wholeS x) = (x, 0) := by
  have hc := h
  unfold checkP at hc
  by_cases hf : formB x = true
  · rw [if_pos hf] at hc
    by_cases hz : (wholeS x).size > 128
    · rw [if_pos hz] at hc; exact absurd hc (by decide)
    · unfold formB at hf
      rw [Bool.and_eq_true] at hf
      obtain ⟨h1, h2⟩ := hf
      unfold parseP
      rw [if_neg (by omega)]
      obtain ⟨pos, ng, neg⟩ := x
      cases ng with
      | false =>
        have hneg : neg = zeroSb2 := zero_is h2
        subst hneg
        have hw : wholeS ⟨pos, false, zeroSb2⟩ = textS pos := rfl
        have hb : bAt (textS pos) (textS pos).size 59 = false := by unfold bAt; rw [decide_eq_false (by omega)]; rfl
        rw [hw, scan_text h1]
        show (if bAt (textS pos) (textS pos).size 59 = true then _ else finP (textS pos) (textS pos).size ⟨pos, false, zeroSb2⟩) = _
        rw [hb, if_neg (by decide)]
        unfold finP
        rw [if_neg (by omega), if_pos h]
      | true =>
        have h2' : halfS neg = true := h2
        obtain ⟨u, hu⟩ : ∃ u : ByteArray, textS pos ++ (⟨#[59]⟩ : ByteArray) = u := ⟨_, rfl⟩
        have hw : wholeS ⟨pos, true, neg⟩ = textS pos ++ ((⟨#[59]⟩ : ByteArray) ++ textS neg) := rfl
        have hw2 : wholeS ⟨pos, true, neg⟩ = u ++ textS neg := by rw [hw, ← hu, app_assoc]
        have hsemi : Semi ((⟨#[59]⟩ : ByteArray) ++ textS neg) := by
          right
          have := bt_app_left (⟨#[59]⟩ : ByteArray) (textS neg) 0 (Int.le_refl 0) (by decide)
          rw [this]
          decide
        have hus : (u.size : Int) = (textS pos).size + 1 := by rw [← hu, size_app]; rfl
        have e1 := scan_left hsemi (Int.le_refl 0) (by omega) (scan_text h1)
        rw [← hw] at e1
        have e2 := scan_right u (textS neg) (Int.le_refl 0) (by omega)
        rw [← hw2, scan_text h2', Int.add_zero, hus] at e2
        have hb : bAt (wholeS ⟨pos, true, neg⟩) (textS pos).size 59 = true := by
          rw [hw]
          have := bAt_right (textS pos) ((⟨#[59]⟩ : ByteArray) ++ textS neg) (p := 0) (c := 59) (Int.le_refl 0)
          rw [Int.add_zero] at this
          rw [this]
          unfold bAt
          rcases hsemi with h0 | h0
          · have := size_app (⟨#[59]⟩ : ByteArray) (textS neg)
            have h1 : (⟨#[59]⟩ : ByteArray).size = 1 := rfl
            omega
          · rw [h0, decide_eq_true]
            · rfl
            · have := size_app (⟨#[59]⟩ : ByteArray) (textS neg)
              have h1 : (⟨#[59]⟩ : ByteArray).size = 1 := rfl
              omega
        rw [e1]
        show (if bAt (wholeS ⟨pos, true, neg⟩) (textS pos).size 59 = true then (match scanA (wholeS ⟨pos, true, neg⟩) ((textS pos).size + 1) with | none => (zeroPt, 140) | some y => finP (wholeS ⟨pos, true, neg⟩) y.1 ⟨pos, true, y.2⟩) else _) = _
        rw [hb, if_pos rfl, e2]
        show finP (wholeS ⟨pos, true, neg⟩) ((textS pos).size + 1 + (textS neg).size) ⟨pos, true, neg⟩ = _
        have hsz : ((wholeS ⟨pos, true, neg⟩).size : Int) = (textS pos).size + 1 + (textS neg).size := by rw [hw2, size_app, hus]
        unfold finP
        rw [if_neg (by omega), if_pos h]
  · rw [if_neg hf] at hc; exact absurd hc (by decide)
def fixS : ByteArray := ⟨#[35, 44, 35, 35, 48, 46, 48, 35, 35, 59, 40, 42, 120, 48, 41]⟩
def fixA : Sb := ⟨[], [], 1, 1, 3, 3, 0, 0, false, ⟨#[]⟩, 0, 0⟩
def fixB : Sb := ⟨[⟨0, 0, ⟨#[40]⟩⟩], [⟨0, 0, ⟨#[41]⟩⟩], 1, 0, 0, 0, 0, 0, false, ⟨#[120]⟩, 1, 3⟩
def fixP : Pt := ⟨fixA, true, fixB⟩
theorem fix_text : textS fixA = ⟨#[35, 44, 35, 35, 48, 46, 48, 35, 35]⟩ ∧ textS fixB = ⟨#[40, 42, 120, 48, 41]⟩ := by
  simp only [textS, wideS, lengthS, runesT, runesS_eq, printT_eq, fixA, fixB]
  decide +kernel
theorem fix_whole : wholeS fixP = fixS := by
  show textS fixA ++ (⟨#[59]⟩ ++ textS fixB) = fixS
  rw [fix_text.1, fix_text.2]
  decide +kernel
theorem fix_half : halfS fixA = true ∧ halfS fixB = true := by
  simp only [halfS, padB, lengthS, runesT, runesS_eq, checkS_eq, fixA, fixB]
  decide +kernel
theorem fix_check : checkP fixP = 0 := by
  have hf : formB fixP = true := by
    show (halfS fixA && halfS fixB) = true
    rw [fix_half.1, fix_half.2]
    rfl
  unfold checkP
  rw [if_pos hf, fix_whole, if_neg (by decide)]
theorem fix_parse : parseP fixS = (fixP, 0) := by rw [← fix_whole]; exact parse_back fix_check
theorem fix_print : printP fixP = (fixS, 0) := by
  unfold printP
  rw [if_pos fix_check, fix_whole]
def dotS : ByteArray := ⟨#[48, 46]⟩
theorem tok_nil_at {s st : ByteArray} {p : Int} (h : stopN s st p = p) : tokT s st p = ([], 0) := by
  unfold tokT
  rw [h]
  have e : s.extract p.toNat p.toNat = ⟨#[]⟩ := bytes_of _ [] (ext_nil s p)
  rw [e, ← print_nil]
  exact parse_print [] check_nil
theorem dot_parse : parseP dotS = (zeroPt, 140) := by
  have h1 : fillF dotS 0 zeroSb2 0 = some (0, zeroSb2) := by
    unfold fillF
    rw [if_neg (by decide)]
  have h2 : stopN dotS stops1 0 = 0 := by decide +kernel
  have h3 := tok_nil_at h2
  have h4 : tailF dotS 1 ⟨[], [], 1, 0, 0, 0, 0, 0, false, ⟨#[]⟩, 0, 0⟩ = none := by
    unfold tailF fracF
    rw [if_pos (by decide), if_pos (by decide)]
    rfl
  have hp : plF dotS 2 0 [0] 0 = some (1, [1], 1) := by decide
  have run : runS dotS (stepsFrom 0) ⟨0, zeroSb2, 0⟩ = none := by
    show ((fillF dotS 0 zeroSb2 0).map fun x => (⟨x.1, x.2, 0⟩ : St)).bind (runS dotS [1, 2, 3, 4, 5, 6, 7]) = _
    rw [h1]
    show (if (tokT dotS stops1 0).2 = 0 then some (⟨stopN dotS stops1 0, {zeroSb2 with p := (tokT dotS stops1 0).1}, 0⟩ : St) else none).bind (runS dotS [2, 3, 4, 5, 6, 7]) = _
    rw [h3, h2, if_pos rfl]
    show ((placesF dotS 0 zeroSb2).map fun x => (⟨x.1, x.2, x.1 - 0⟩ : St)).bind (runS dotS [4, 5, 6, 7]) = _
    unfold placesF
    show (((plF dotS 2 0 [0] 0).bind _).map _).bind _ = _
    rw [hp]
    show ((tailF dotS 1 ⟨[], [], 1, 0, 0, 0, 0, 0, false, ⟨#[]⟩, 0, 0⟩).map (fun x => (⟨x.1, x.2, 1 + (x.1 - 1)⟩ : St))).bind (runS dotS [5, 6, 7]) = _
    rw [h4]
    rfl
  unfold parseP scanA
  rw [if_neg (by decide), run]
  rfl
theorem print_two (x : Pt) : (printP x).2 = checkP x := by
  unfold printP
  split
  · rename_i h; rw [h]
  · rfl
theorem check_size {x : Pt} (h : checkP x = 0) : (wholeS x).size ≤ 128 ∧ printP x = (wholeS x, 0) := by
  refine ⟨?_, by unfold printP; rw [if_pos h]⟩
  unfold checkP at h
  by_cases hf : formB x = true
  · rw [if_pos hf] at h
    by_cases hz : (wholeS x).size > 128
    · rw [if_pos hz] at h; exact absurd h (by decide)
    · omega
  · rw [if_neg hf] at h; exact absurd h (by decide)
theorem fin_cases (s : ByteArray) (q : Int) (x : Pt) : (finP s q x = (x, 0) ∧ checkP x = 0 ∧ ¬ q < s.size) ∨ ((finP s q x).1 = zeroPt ∧ (finP s q x).2 ≠ 0) := by
  unfold finP
  by_cases h1 : q < (s.size : Int)
  · rw [if_pos h1]; exact .inr ⟨rfl, by decide⟩
  · rw [if_neg h1]
    by_cases h2 : checkP x = 0
    · rw [if_pos h2]; exact .inl ⟨rfl, h2, h1⟩
    · rw [if_neg h2]; exact .inr ⟨rfl, h2⟩
theorem parse_cases (s : ByteArray) : ((parseP s).2 = 0 ∧ checkP (parseP s).1 = 0) ∨ ((parseP s).1 = zeroPt ∧ (parseP s).2 ≠ 0) := by
  have hf : ∀ q x, ((finP s q x).2 = 0 ∧ checkP (finP s q x).1 = 0) ∨ ((finP s q x).1 = zeroPt ∧ (finP s q x).2 ≠ 0) := by
    intro q x
    rcases fin_cases s q x with ⟨h1, h2, _⟩ | h
    · rw [h1]; exact .inl ⟨rfl, h2⟩
    · exact .inr h
  unfold parseP
  split
  · exact .inr ⟨rfl, by decide⟩
  · split
    · exact .inr ⟨rfl, by decide⟩
    · split
      · split
        · exact .inr ⟨rfl, by decide⟩
        · exact hf _ _
      · exact hf _ _
theorem back1 {x : Pt} (h : checkP x = 0) : printP x = (wholeS x, 0) ∧ (wholeS x).size ≤ 128 ∧ parseP (wholeS x) = (x, 0) := ⟨(check_size h).2, (check_size h).1, parse_back h⟩
theorem parse_one {s : ByteArray} (h : (parseP s).2 = 0) (hn : (parseP s).1.ng = false) : scanA s 0 = some ((s.size : Int), (parseP s).1.pos) ∧ (parseP s).1.neg = zeroSb2 ∧ s.size ≤ 128 := by
  unfold parseP at h hn ⊢
  by_cases h0 : 128 < s.size
  · rw [if_pos h0] at h; exact absurd h (by decide)
  · rw [if_neg h0] at h hn ⊢
    cases hs : scanA s 0 with
    | none => rw [hs] at h; exact absurd (show (140 : Int) = 0 from h) (by decide)
    | some x =>
      rw [hs] at h hn
      simp only at h hn ⊢
      have r := scan_range (Int.le_refl 0) (by omega) hs
      by_cases hb : bAt s x.1 59 = true
      · rw [if_pos hb] at h hn
        cases hs2 : scanA s (x.1 + 1) with
        | none => rw [hs2] at h; exact absurd (show (140 : Int) = 0 from h) (by decide)
        | some y =>
          rw [hs2] at h hn
          simp only at h hn
          rcases fin_cases s y.1 ⟨x.2, true, y.2⟩ with ⟨h1, _, _⟩ | ⟨_, h2⟩
          · rw [h1] at hn; exact absurd hn (by simp)
          · exact absurd h h2
      · rw [if_neg hb] at h hn ⊢
        rcases fin_cases s x.1 ⟨x.2, false, zeroSb2⟩ with ⟨h1, _, h3⟩ | ⟨_, h2⟩
        · rw [h1]
          obtain ⟨q, y⟩ := x
          simp only at h3 r
          have : q = (s.size : Int) := by omega
          subst this
          exact ⟨rfl, rfl, by omega⟩
        · exact absurd h h2
theorem parse_both {s : ByteArray} (h : (parseP s).2 = 0) (hn : (parseP s).1.ng = true) : ∃ q, scanA s 0 = some (q, (parseP s).1.pos) ∧ bAt s q 59 = true ∧ scanA s (q + 1) = some ((s.size : Int), (parseP s).1.neg) := by
  unfold parseP at h hn ⊢
  by_cases h0 : 128 < s.size
  · rw [if_pos h0] at h; exact absurd h (by decide)
  · rw [if_neg h0] at h hn ⊢
    cases hs : scanA s 0 with
    | none => rw [hs] at h; exact absurd (show (140 : Int) = 0 from h) (by decide)
    | some x =>
      rw [hs] at h hn
      simp only at h hn ⊢
      have r := scan_range (Int.le_refl 0) (by omega) hs
      by_cases hb : bAt s x.1 59 = true
      · rw [if_pos hb] at h hn ⊢
        have hi := bAt_in hb
        cases hs2 : scanA s (x.1 + 1) with
        | none => rw [hs2] at h; exact absurd (show (140 : Int) = 0 from h) (by decide)
        | some y =>
          rw [hs2] at h hn
          simp only at h hn ⊢
          have r2 := scan_range (by omega) hi hs2
          rcases fin_cases s y.1 ⟨x.2, true, y.2⟩ with ⟨h1, _, h3⟩ | ⟨_, h2⟩
          · rw [h1]
            obtain ⟨q2, y2⟩ := y
            simp only at h3 r2
            have : q2 = (s.size : Int) := by omega
            subst this
            exact ⟨x.1, rfl, hb, hs2⟩
          · exact absurd h h2
      · rw [if_neg hb] at h hn
        rcases fin_cases s x.1 ⟨x.2, false, zeroSb2⟩ with ⟨h1, _, _⟩ | ⟨_, h2⟩
        · rw [h1] at hn; exact absurd hn (by simp)
        · exact absurd h h2
theorem check_pos {x : Pt} (h : checkP x = 0) : halfS x.pos = true := by
  unfold checkP at h
  by_cases hf : formB x = true
  · unfold formB at hf
    rw [Bool.and_eq_true] at hf
    exact hf.1
  · rw [if_neg hf] at h; exact absurd h (by decide)
def joinS (a b : ByteArray) : ByteArray := a ++ (⟨#[59]⟩ : ByteArray) ++ b
theorem join_size3 (a b : ByteArray) : ((joinS a b).size : Int) = a.size + 1 + b.size := by
  unfold joinS
  rw [size_app, size_app]
  rfl
theorem semi_cons (b : ByteArray) : Semi ((⟨#[59]⟩ : ByteArray) ++ b) := by
  right
  rw [bt_app_left (⟨#[59]⟩ : ByteArray) b 0 (Int.le_refl 0) (by decide)]
  decide
theorem semi_at (a b : ByteArray) : bAt (joinS a b) a.size 59 = true := by
  have hj : joinS a b = a ++ ((⟨#[59]⟩ : ByteArray) ++ b) := by unfold joinS; rw [app_assoc]
  have h1 := bAt_right a ((⟨#[59]⟩ : ByteArray) ++ b) (p := 0) (c := 59) (Int.le_refl 0)
  rw [Int.add_zero] at h1
  rw [hj, h1]
  have h2 := size_app (⟨#[59]⟩ : ByteArray) b
  have h3 : (⟨#[59]⟩ : ByteArray).size = 1 := rfl
  unfold bAt
  rw [bt_app_left (⟨#[59]⟩ : ByteArray) b 0 (Int.le_refl 0) (by decide), decide_eq_true (by omega)]
  decide
theorem halves_long {a b : ByteArray} (h : (128 : Int) < a.size + b.size + 1) : (parseP (joinS a b)).2 = 142 := by
  have := join_size3 a b
  unfold parseP
  rw [if_pos (by omega)]
theorem halves_two {a b : ByteArray} (h : (a.size : Int) + b.size + 1 ≤ 128) (ha : (parseP a).2 = 0) (hb : (parseP b).2 = 0) (na : (parseP a).1.ng = false) (nb : (parseP b).1.ng = false) :
    (parseP (joinS a b)).2 = 142 ∨ ((parseP (joinS a b)).2 = 0 ∧ (parseP (joinS a b)).1 = ⟨(parseP a).1.pos, true, (parseP b).1.pos⟩) := by
  have hsz := join_size3 a b
  obtain ⟨sa, _, _⟩ := parse_one ha na
  obtain ⟨sb, _, _⟩ := parse_one hb nb
  have ca := (parse_cases a).elim (fun h => check_pos h.2) (fun h => absurd ha h.2)
  have cb := (parse_cases b).elim (fun h => check_pos h.2) (fun h => absurd hb h.2)
  have hj : joinS a b = a ++ ((⟨#[59]⟩ : ByteArray) ++ b) := by unfold joinS; rw [app_assoc]
  have e1 := scan_left (semi_cons b) (Int.le_refl 0) (by omega) sa
  rw [← hj] at e1
  have e2 := scan_right (a ++ (⟨#[59]⟩ : ByteArray)) b (Int.le_refl 0) (by omega)
  have hu : ((a ++ (⟨#[59]⟩ : ByteArray)).size : Int) = a.size + 1 := by rw [size_app]; rfl
  rw [sb, Int.add_zero, hu] at e2
  have e2' : scanA (joinS a b) (a.size + 1) = some ((a.size : Int) + 1 + b.size, (parseP b).1.pos) := e2
  have key : parseP (joinS a b) = finP (joinS a b) ((a.size : Int) + 1 + b.size) ⟨(parseP a).1.pos, true, (parseP b).1.pos⟩ := by
    conv => lhs; unfold parseP
    rw [if_neg (by omega), e1]
    show (if bAt (joinS a b) a.size 59 = true then (match scanA (joinS a b) (a.size + 1) with | none => (zeroPt, 140) | some y => finP (joinS a b) y.1 ⟨(parseP a).1.pos, true, y.2⟩) else _) = _
    rw [semi_at, if_pos rfl, e2']
  rw [key]
  unfold finP
  rw [if_neg (by omega)]
  by_cases hc : checkP ⟨(parseP a).1.pos, true, (parseP b).1.pos⟩ = 0
  · rw [if_pos hc]
    exact .inr ⟨rfl, rfl⟩
  · rw [if_neg hc]
    left
    show checkP _ = 142
    unfold checkP at hc ⊢
    have hf : formB ⟨(parseP a).1.pos, true, (parseP b).1.pos⟩ = true := by
      unfold formB
      rw [Bool.and_eq_true]
      exact ⟨ca, cb⟩
    rw [if_pos hf] at hc ⊢
    by_cases hz : (wholeS ⟨(parseP a).1.pos, true, (parseP b).1.pos⟩).size > 128
    · rw [if_pos hz]
    · rw [if_neg hz] at hc; exact absurd rfl hc
theorem halves_three {a b : ByteArray} (h : (a.size : Int) + b.size + 1 ≤ 128) (ha : (parseP a).2 = 0) (na : (parseP a).1.ng = true) : (parseP (joinS a b)).2 ≠ 0 := by
  have hsz := join_size3 a b
  obtain ⟨q, s1, s2, s3⟩ := parse_both ha na
  have hj : joinS a b = a ++ ((⟨#[59]⟩ : ByteArray) ++ b) := by unfold joinS; rw [app_assoc]
  have r1 := scan_range (Int.le_refl 0) (by omega) s1
  have hi := bAt_in s2
  have e1 := scan_left (semi_cons b) (Int.le_refl 0) (by omega) s1
  have e3 := scan_left (semi_cons b) (by have := r1.1; simp only at this; omega) hi s3
  rw [← hj] at e1 e3
  have hb : bAt (joinS a b) q 59 = true := by
    have := r1.1
    simp only at this
    have e := bt_left a ((⟨#[59]⟩ : ByteArray) ++ b) (p := q) this (by omega)
    rw [hj]
    unfold bAt at s2 ⊢
    rw [e]
    rw [Bool.and_eq_true] at s2
    rw [s2.2, decide_eq_true]
    · rfl
    · have := size_app a ((⟨#[59]⟩ : ByteArray) ++ b)
      omega
  have key : parseP (joinS a b) = finP (joinS a b) (a.size : Int) ⟨(parseP a).1.pos, true, (parseP a).1.neg⟩ := by
    conv => lhs; unfold parseP
    rw [if_neg (by omega), e1]
    show (if bAt (joinS a b) q 59 = true then (match scanA (joinS a b) (q + 1) with | none => (zeroPt, 140) | some y => finP (joinS a b) y.1 ⟨(parseP a).1.pos, true, y.2⟩) else _) = _
    rw [hb, if_pos rfl, e3]
  rw [key]
  unfold finP
  rw [if_pos (by omega)]
  decide
def oneP (x : Sb) : Pt := ⟨x, false, zeroSb2⟩
def wider (x : Sb) : Sb := {x with wd := x.wd + 1}
theorem wide_all {x : Sb} (h : checkP (oneP x) = 0) (hp : x.pad.toList.isEmpty = false) :
    x.wd ≤ 99 ∧ 0 ≤ x.wd ∧ (checkP (oneP (wider x)) ≠ 0 → (wider x).wd = 100 ∨ (wholeS (oneP x)).size = 128) ∧ (checkP (oneP (wider x)) = 0 → (wholeS (oneP (wider x))).size = (wholeS (oneP x)).size + 1) := by
  have hh : halfS x = true := check_pos h
  have ho := half_ok hh
  obtain ⟨s1, s2, s3, s4, s5, s6⟩ := ho.some hp
  have hsz := (check_size h).1
  have hlen : ∀ n, lengthS (wider x) n = lengthS x n := fun n => rfl
  have hw1 : wideS x = leastS x + (x.wd - lengthS x (leastS x)) := by unfold wideS; rw [if_neg (by rw [hp]; decide)]
  have hw2 : wideS (wider x) = wideS x + 1 := by
    unfold wideS
    rw [if_neg (show ¬ (wider x).pad.toList.isEmpty = true by show ¬ x.pad.toList.isEmpty = true; rw [hp]; decide), if_neg (by rw [hp]; decide)]
    show leastS x + (x.wd + 1 - lengthS x (leastS x)) = _
    omega
  have hd : ((digL x (wideS x + 1)).length : Int) = (digL x (wideS x)).length + 1 := by
    rw [digL_len ho.fine (by have := ho.wide; omega), digL_len ho.fine ho.wide]
    omega
  have hds : ∀ n, (digS x n).size = (digL x n).length := fun n => by show (digL x n).toArray.size = _; simp
  have htx : ((textS (wider x)).size : Int) = (textS x).size + 1 := by
    have e : textS (wider x) = fillS x 0 ++ (printT x.p).1 ++ fillS x 1 ++ digS x (wideS x + 1) ++ fillS x 2 ++ (printT x.s).1 ++ fillS x 3 := by
      show fillS x 0 ++ (printT x.p).1 ++ fillS x 1 ++ digS x (wideS (wider x)) ++ fillS x 2 ++ (printT x.s).1 ++ fillS x 3 = _
      rw [hw2]
    rw [e]
    unfold textS
    simp only [size_app, hds]
    omega
  have hwh : ∀ y, wholeS (oneP y) = textS y := fun y => rfl
  have hl0 : 0 ≤ runesT x.p ∧ 0 ≤ runesT x.s := by
    have hc : ∀ l : List S53, checkS l = 0 → 0 ≤ runesT l := by
      intro l hl
      rw [checkS_eq] at hl
      exact (runesT_sum l (good_single l _ (check_zero hl).1)).1
    exact ⟨hc _ ho.cp, hc _ ho.cs⟩
  refine ⟨s6, by omega, fun hc => ?_, fun hc => by rw [hwh, hwh]; omega⟩
  by_cases h100 : (wider x).wd = 100
  · exact .inl h100
  · right
    have hwd : x.wd + 1 ≤ 99 := by
      have : (wider x).wd = x.wd + 1 := rfl
      omega
    have hh2 : halfS (wider x) = true := by
      unfold halfS at hh ⊢
      simp only [Bool.and_eq_true] at hh ⊢
      refine ⟨hh.1, hh.2.1, hh.2.2.1, hh.2.2.2.1, ?_⟩
      have h5 := hh.2.2.2.2
      unfold padB at h5 ⊢
      rw [if_neg (by rw [hp]; decide)] at h5
      rw [if_neg (show ¬ (wider x).pad.toList.isEmpty = true by show ¬ x.pad.toList.isEmpty = true; rw [hp]; decide)]
      simp only [Bool.and_eq_true] at h5 ⊢
      refine ⟨h5.1, h5.2.1, h5.2.2.1, ?_⟩
      have h6 := h5.2.2.2
      unfold inB at h6 ⊢
      simp only [Bool.and_eq_true, decide_eq_true_eq] at h6 ⊢
      exact ⟨by show lengthS x (leastS x) ≤ x.wd + 1; omega, hwd⟩
    have hform : formB (oneP (wider x)) = true := by
      unfold formB
      rw [Bool.and_eq_true]
      exact ⟨hh2, show zeroB zeroSb2 = true by decide +kernel⟩
    unfold checkP at hc
    rw [if_pos hform] at hc
    by_cases hz : (wholeS (oneP (wider x))).size > 128
    · rw [hwh] at hz hsz ⊢
      omega
    · rw [if_neg hz] at hc; exact absurd rfl hc
theorem rd_set_other (G : List Int) (j i : Nat) (x : Int) (h : i ≠ j) : rd (G.set j x) i = rd G i := by
  unfold rd
  rw [Int.toNat_natCast, List.getD_eq_getElem?_getD, List.getD_eq_getElem?_getD, List.getElem?_set_ne (by omega)]
def pv (C : List Int) (i : Nat) : Int := if i = 0 then 0 else rd C ((i : Int) - 1)
structure InvG (G : List Int) (z : Int) (C : List Int) (B : ByteArray) : Prop where
  a : ∃ a : Int, 0 ≤ a ∧ a + z = B.size ∧ 0 ≤ z ∧ (∀ i : Int, 0 ≤ i → i < a → bt B i = 35) ∧ (∀ i : Int, a ≤ i → i < B.size → bt B i = 48)
  l : G.length = C.length + 1
  t : rd G C.length = B.size - pv C C.length
  g : ∀ i : Nat, i < C.length → rd G i = rd C i - pv C i ∧ 0 < rd G i
  n : 0 ≤ rd G C.length
theorem InvG.last {G : List Int} {z : Int} {C : List Int} {B : ByteArray} (h : InvG G z C B) : lastG G = rd G C.length := by
  unfold lastG
  rw [h.l, show ((C.length + 1 : Nat) : Int) - 1 = C.length by omega]
theorem InvG.put {G : List Int} {z : Int} {C : List Int} {B X : ByteArray} (h : InvG G z C B) (hX : (X.size : Int) = 1) (z' : Int) (hz : (bt X 0 = 35 ∧ z = 0 ∧ z' = 0) ∨ (bt X 0 = 48 ∧ z' = z + 1)) : InvG (bump G) z' C (B ++ X) := by
  have hl := h.last
  have hs := size_app B X
  have hb : rd (bump G) C.length = rd G C.length + 1 := by
    unfold bump
    rw [hl, show G.length - 1 = C.length by have := h.l; omega]
    unfold rd
    rw [Int.toNat_natCast, List.getD_eq_getElem?_getD, List.getElem?_set_self (by have := h.l; omega)]
    rfl
  have ho : ∀ i : Nat, i < C.length → rd (bump G) i = rd G i := fun i hi => by
    unfold bump
    exact rd_set_other _ _ _ _ (by have := h.l; omega)
  have hx := bt_app_right B X 0 (Int.le_refl _)
  rw [Int.add_zero] at hx
  obtain ⟨a, a0, a1, a2, a3, a4⟩ := h.a
  refine ⟨?_, by rw [bump_len]; exact h.l, by rw [hb, h.t, hs]; omega, fun i hi => by rw [ho i hi]; exact h.g i hi, by rw [hb]; have := h.n; omega⟩
  rcases hz with ⟨e1, e2, e3⟩ | ⟨e1, e2⟩
  · refine ⟨a + 1, by omega, by omega, by omega, fun i i0 i1 => ?_, fun i i0 i1 => by omega⟩
    rcases Int.lt_or_le i a with h1 | h1
    · rw [bt_app_left _ _ _ i0 (by omega)]; exact a3 i i0 h1
    · have : i = B.size := by omega
      rw [this, hx]; exact e1
  · refine ⟨a, a0, by omega, by omega, fun i i0 i1 => by rw [bt_app_left _ _ _ i0 (by omega)]; exact a3 i i0 i1, fun i i0 i1 => ?_⟩
    rcases Int.lt_or_le i B.size with h1 | h1
    · rw [bt_app_left _ _ _ (by omega) h1]; exact a4 i i0 h1
    · have : i = B.size := by omega
      rw [this, hx]; exact e1
theorem run_all (s : ByteArray) (b : Int) : ∀ (d : Nat) (p i : Int), p ≤ i → i < p + runF s b d p → bt s i = b
  | 0, p, i, h1, h2 => by simp [runF] at h2; omega
  | d + 1, p, i, h1, h2 => by
    unfold runF at h2
    by_cases h : bAt s p b = true
    · rw [if_pos h] at h2
      rcases Int.lt_or_eq_of_le h1 with h3 | h3
      · exact run_all s b d (p + 1) i (by omega) (by omega)
      · subst h3
        unfold bAt at h
        simp only [Bool.and_eq_true, beq_iff_eq] at h
        exact h.2
    · rw [if_neg h] at h2
      omega
end Go.Proofs.Ytacnjemndfmbhaa.Q
end
section
namespace Go.Proofs.Ytacnjemndfmbhaa.Q
open Go.RowKit Go.Proofs.Ytacnjemndfmbhaa.A Go.Proofs.YtacnjemndfmbhaaW.PrintWords Go.Proofs.YtacnjemndfmbhaaW.PrintLast Go.Proofs.YtacnjemndfmbhaaW.PrintMore
set_option linter.unusedVariables false
set_option linter.unusedSimpArgs false
set_option linter.unusedSectionVars false
structure GW (w0 w : World) (g : Nat) (L : Sl) (x : Sb) : Prop where
  box : w.heap[g]? = some (.cells (subC L x) 24 (0, 0))
  res : w.heap[w0.heap.size]? = some (.cells (subC Lz zeroSb2) 24 (0, 0))
  below : Below w0.heap.size w0 w
  lt : w0.heap.size < g
  rp : RowIn w w0.heap.size (fun _ => True) L.A x.p
  rs : RowIn w w0.heap.size (fun _ => True) L.B x.s
  pc : x.p.length ≤ L.c
  sc : x.s.length ≤ L.d
namespace GW
variable {w0 w w1 : World} {g : Nat} {L : Sl} {x : Sb} (h : GW w0 w g L x)
include h
theorem step (hb : Below w.heap.size w w1) : GW w0 w1 g L x := ⟨blk_below h.box hb, blk_below h.res hb, below_step h.below hb, h.lt, h.rp.below hb, h.rs.below hb, h.pc, h.sc⟩
theorem moves {k : Nat} {cur cs : Array Value} (hk : w.heap[k]? = some (.cells cur 24 (0, 0))) : ∀ (j : Nat) (cj : Array Value), w.heap[j]? = some (.cells cj 53 (0, 0)) → (w.setRow k cs).heap[j]? = w.heap[j]? := fun j cj hj => setRow_other _ _ _ _ (blk_ne hj hk (by decide))
theorem put {y : Sb} (hp : y.p = x.p) (hs : y.s = x.s) : GW w0 (w.setRow g (subC L y)) g L y :=
  ⟨setRow_heap _ _ _ _ _ _ h.box, (setRow_other _ _ _ _ (by have := h.lt; omega)).trans h.res, below_setRow h.below (Nat.le_of_lt h.lt), h.lt, by rw [hp]; exact row_moved h.rp (h.moves h.box), by rw [hs]; exact row_moved h.rs (h.moves h.box), by rw [hp]; exact h.pc, by rw [hs]; exact h.sc⟩
theorem fin (cs : Array Value) : Below w0.heap.size w0 (w.setRow w0.heap.size cs) := below_setRow h.below (Nat.le_refl _)
theorem c0 : w.cell? ⟨g, 0, none⟩ = some (.slice L.A x.p.length L.c) := (blk_cell h.box 0).trans rfl
theorem c1 : w.cell? ⟨g, 1, none⟩ = some (.slice L.B x.s.length L.d) := (blk_cell h.box 1).trans rfl
theorem c9 : w.cell? ⟨g, 9, none⟩ = some (.string x.pad) := (blk_cell h.box 9).trans rfl
theorem c11 : w.cell? ⟨g, 11, none⟩ = some (.int .i64 x.wd) := (blk_cell h.box 11).trans rfl
theorem fz (i : Nat) : w.frozen? ⟨g, i, none⟩ = false := blk_frozen h.box i
theorem drew1 : GW w0 w.drew g L x := h.step (below_drew1 (Below.refl _ _))
theorem drewN (n : Nat) : GW w0 (w.drewN n) g L x := h.step (pw_below_drewN (Below.refl _ _) n)
theorem set_wd (v : Int) : GW w0 (w.setCell ⟨g, 11, none⟩ (.int .i64 v)) g L {x with wd := v} := by
  have hm : ∀ (j : Nat) (cj : Array Value), w.heap[j]? = some (.cells cj 53 (0, 0)) → (w.setCell ⟨g, 11, none⟩ (.int .i64 v)).heap[j]? = w.heap[j]? := fun j cj hj => Below.heap_setCell w _ _ j (blk_ne hj h.box (by decide))
  exact ⟨blk_put h.box 11 _ rfl, (Below.heap_setCell w _ _ _ (show w0.heap.size ≠ g by have := h.lt; omega)).trans h.res, below_set h.below (Nat.le_of_lt h.lt), h.lt, row_moved h.rp hm, row_moved h.rs hm, h.pc, h.sc⟩
end GW
def DoneR (w : World) (r : Option St) (e : Ending) (w' : World) : Prop :=
  Below w.heap.size w w' ∧ match r with
    | some y => ∃ L, e = .returned (.tuple #[subV L (widthS y), .int .i64 y.p, .bool true]) ∧ RowIn w' w.heap.size (fun _ => True) L.A (widthS y).p ∧ RowIn w' w.heap.size (fun _ => True) L.B (widthS y).s ∧ (widthS y).p.length ≤ L.c ∧ (widthS y).s.length ≤ L.d
    | none => ∃ L y q, e = .returned (.tuple #[subV L y, .int .i64 q, .bool false])
theorem GW.done {w0 w : World} {g : Nat} {L : Sl} {x y : Sb} {R : Option St} {q n : Int} {ok : Bool} {cs : Array Value} (h : GW w0 w g L y) (hok : R = if ok = true then some ⟨q, x, n⟩ else none) (hy : widthS ⟨q, x, n⟩ = y) : DoneR w0 R (.returned (.tuple #[subV L y, .int .i64 q, .bool ok])) (w.setRow w0.heap.size cs) := by
  subst hok
  subst hy
  cases ok with
  | false => exact ⟨h.fin _, L, _, q, rfl⟩
  | true => exact ⟨h.fin _, L, rfl, row_moved h.rp (h.moves h.res), row_moved h.rs (h.moves h.res), h.pc, h.sc⟩
end Go.Proofs.Ytacnjemndfmbhaa.Q
end
section
namespace Go.Proofs.Ytacnjemndfmbhaa.Q
open Go.RowKit Go.Proofs.Ytacnjemndfmbhaa.A Go.Proofs.YtacnjemndfmbhaaW.PrintWords Go.Proofs.YtacnjemndfmbhaaW.PrintLast Go.Proofs.YtacnjemndfmbhaaW.PrintMore
set_option linter.unusedVariables false
set_option linter.unusedSimpArgs false
def row1 (x : Sb) (n : Int) : List UInt8 := if 0 < x.se then rawD x.im n (x.pr + x.se) ++ [44] ++ rawD x.im (x.pr + x.se) 0 else rawD x.im n 0
theorem bytes_inj {a b : ByteArray} (h : a.data.toList = b.data.toList) : a = b := by cases a; cases b; congr; exact Array.toList_inj.1 h
def subEq (x y : Sb) : Bool := decide (x.p = y.p) && (decide (x.s = y.s) && (x.im == y.im && (x.fn == y.fn && (x.fx == y.fx && (x.pr == y.pr && (x.se == y.se && (x.em == y.em && (x.ep == y.ep && (x.pad.toList == y.pad.toList && (x.pa == y.pa && (x.wd == y.wd)))))))))))
structure SW (w0 w : World) (L : Sl) (x : Sb) (g : Nat) (M : Sl) (y : Sb) : Prop where
  box : w.heap[w0.heap.size]? = some (.cells (subC L x) 24 (0, 0))
  box2 : w.heap[g]? = some (.cells (subC M y) 24 (0, 0))
  below : Below w0.heap.size w0 w
theorem SW.step {w0 w w1 : World} {L : Sl} {x : Sb} {g : Nat} {M : Sl} {y : Sb} (h : SW w0 w L x g M y) (hb : Below w.heap.size w w1) : SW w0 w1 L x g M y := ⟨blk_below h.box hb, blk_below h.box2 hb, below_step h.below hb⟩
set_option maxHeartbeats 16000000 in
set_option maxRecDepth 100000 in
theorem samesub_calls (L : Sl) (x : Sb) (M : Sl) (y : Sb) (w : World) (hx : SubR w L x) (hy : SubR w M y) : Calls Try.prog 18 #[subV L x, subV M y] w fun e w' => e = .returned (.bool (subEq x y)) ∧ Below w.heap.size w w' := by
  have HX := Aside0.mk hx
  have HY := Aside0.mk hy
  clear hx hy
  cases h0 : (decide (x.p = y.p))
  rotate_left
  cases h1 : (decide (x.s = y.s))
  rotate_left
  cases h2 : (x.im == y.im)
  rotate_left
  cases h3 : (x.fn == y.fn)
  rotate_left
  cases h4 : (x.fx == y.fx)
  rotate_left
  cases h5 : (x.pr == y.pr)
  rotate_left
  cases h6 : (x.se == y.se)
  rotate_left
  cases h7 : (x.em == y.em)
  rotate_left
  cases h8 : (x.ep == y.ep)
  rotate_left
  cases h9 : (x.pad.toList == y.pad.toList)
  rotate_left
  cases h10 : (x.pa == y.pa)
  rotate_left
  all_goals
    go_enter Try.func18, Try.ntmps18
    dsimp only [List.append]
    go_wp2_with (first | ((with_reducible refine gate_dst (N := 2) rfl ?_); refine box_event ?hg (N := 2) ?hd (cs := subC L x) (t := 24) ?hr ?_; (case hd => rfl); (case hg => rfl); (case hr => first | (go_simp; done) | (go_simp; rfl)); intro gb hgb w1 hbox hbb; subst hgb; have HQ0 : Aside0 (HW w w1 L x) := ⟨⟨hbox, hbb⟩⟩; clear hbox hbb) | ((with_reducible refine gate_dst (N := 3) rfl ?_); refine box_event ?hg (N := 3) ?hd (cs := subC M y) (t := 24) ?hr ?_; (case hd => rfl); (case hg => rfl); (case hr => first | (go_simp; done) | (go_simp; rfl)); intro gb hgb w1 hbox hbb; have HQ : Aside0 (SW w w1 L x gb M y) := ⟨⟨(HQ0.out.step hbb).box, hbox, (HQ0.out.step hbb).below⟩⟩; clear hbox hbb hgb HQ0; obtain ⟨c0, c1, c2, c3, c4, c5, c6, c7, c8, c9, c10, c11⟩ := sub_at HQ.out.box; obtain ⟨d0, d1, d2, d3, d4, d5, d6, d7, d8, d9, d10, d11⟩ := sub_at HQ.out.box2) | (go_at_call 29; (with_reducible refine (same_calls L.A L.c x.p M.A M.c y.p _ (Kd.C_below HX.out.p HQ.out.below) HX.out.pc (Kd.C_below HY.out.p HQ.out.below) HY.out.pc HX.out.pl).mono ?_); rintro e w1 ⟨rfl, hb⟩; have nq := Aside0.mk (HQ.out.step hb); clear HQ hb c0 c1 c2 c3 c4 c5 c6 c7 c8 c9 c10 c11 d0 d1 d2 d3 d4 d5 d6 d7 d8 d9 d10 d11; have HQ := nq; clear nq; obtain ⟨c0, c1, c2, c3, c4, c5, c6, c7, c8, c9, c10, c11⟩ := sub_at HQ.out.box; obtain ⟨d0, d1, d2, d3, d4, d5, d6, d7, d8, d9, d10, d11⟩ := sub_at HQ.out.box2) | (go_at_call 29; (with_reducible refine (same_calls L.B L.d x.s M.B M.d y.s _ (Kd.C_below HX.out.s HQ.out.below) HX.out.sc (Kd.C_below HY.out.s HQ.out.below) HY.out.sc HX.out.sl).mono ?_); rintro e w1 ⟨rfl, hb⟩; have nq := Aside0.mk (HQ.out.step hb); clear HQ hb c0 c1 c2 c3 c4 c5 c6 c7 c8 c9 c10 c11 d0 d1 d2 d3 d4 d5 d6 d7 d8 d9 d10 d11; have HQ := nq; clear nq; obtain ⟨c0, c1, c2, c3, c4, c5, c6, c7, c8, c9, c10, c11⟩ := sub_at HQ.out.box; obtain ⟨d0, d1, d2, d3, d4, d5, d6, d7, d8, d9, d10, d11⟩ := sub_at HQ.out.box2))
    go_ret
    exact ⟨ret_bool (by simp [subEq, *]), HQ.out.below⟩
theorem PW.drew1 {w0 w : World} {L M : Sl} {x : Pt} (h : PW w0 w L M x) : PW w0 w.drew L M x := h.step (below_drew1 (Below.refl _ _))
theorem PW.drewN {w0 w : World} {L M : Sl} {x : Pt} (h : PW w0 w L M x) (n : Nat) : PW w0 (w.drewN n) L M x := h.step (pw_below_drewN (Below.refl _ _) n)
theorem run_inv {s : ByteArray} (hs : s.size ≤ 128) : ∀ (k i : Nat) (y y' : St), i + k = 8 → InvP s i y → runS s ((List.range' i k)) y = some y' → InvP s 8 y'
  | 0, i, y, y', hi, h, hr => by
    obtain rfl : i = 8 := by omega
    obtain rfl := Option.some.inj hr
    exact h
  | k + 1, i, y, y', hi, h, hr => by
    obtain ⟨u, hu, hr2⟩ := Option.bind_eq_some_iff.mp (show (stepS s i y).bind (runS s (List.range' (i + 1) k)) = some y' from hr)
    exact run_inv hs k (i + 1) u y' (by omega) (inv_step hs (by omega) h hu).1 hr2
theorem run_inv0 {s : ByteArray} (hs : s.size ≤ 128) {p : Int} (h0 : 0 ≤ p) (hp : p ≤ s.size) {y : St} (h : runS s (stepsFrom 0) ⟨p, zeroSb2, 0⟩ = some y) : InvP s 8 y :=
  run_inv hs 8 0 _ y rfl ⟨h0, hp, tok_nil, check_nil, tok_nil, check_nil, fun _ => rfl, fun e => by omega, fun e => by omega⟩ h
theorem OwnP.moved {w w1 : World} {base : Nat} {L M : Sl} {x : Pt} (h : OwnP w base L M x) (hm : ∀ (k : Nat) (cs : Array Value), w.heap[k]? = some (.cells cs 53 (0, 0)) → w1.heap[k]? = w.heap[k]?) : OwnP w1 base L M x :=
  ⟨row_moved h.pp hm, row_moved h.ps hm, row_moved h.np hm, row_moved h.ns hm, h.c1, h.c2, h.c3, h.c4⟩
theorem OwnP.below {w w1 : World} {base : Nat} {L M : Sl} {x : Pt} (h : OwnP w base L M x) (hb : Below w.heap.size w w1) : OwnP w1 base L M x :=
  ⟨h.pp.below hb, h.ps.below hb, h.np.below hb, h.ns.below hb, h.c1, h.c2, h.c3, h.c4⟩
structure Sm (x : Sb) : Prop where
  tp : TokOk x.p
  ts : TokOk x.s
  pad : x.pad.size ≤ 128
theorem Sm.width {s : ByteArray} {p : Int} {y : St} (hs : s.size ≤ 128) (hr : runS s (stepsFrom 0) ⟨p, zeroSb2, 0⟩ = some y) (hv : InvP s 8 y) : Sm (widthS y) := by
  have hw := width_same y
  exact ⟨by rw [hw.1]; exact hv.tp, by rw [hw.2.1]; exact hv.ts, by rw [hw.2.2]; exact run_pad hs _ _ _ (by show (0 : Nat) ≤ 128; omega) hr⟩
theorem Sm.zero : Sm zeroSb2 := ⟨tok_nil, tok_nil, by decide⟩
structure QW (w0 w : World) (k : Nat) (L M : Sl) (x : Pt) : Prop where
  res : w.heap[w0.heap.size]? = some (.cells (patC Lz Lz zeroPt) 26 (0, 0))
  box : w.heap[k]? = some (.cells (patC L M x) 26 (0, 0))
  below : Below w0.heap.size w0 w
  own : OwnP w w0.heap.size L M x
  lt : w0.heap.size < k
  hp : Sm x.pos
  hn : Sm x.neg
namespace QW
variable {w0 w w1 : World} {k : Nat} {L M : Sl} {x : Pt} (h : QW w0 w k L M x)
include h
theorem step (hb : Below w.heap.size w w1) : QW w0 w1 k L M x := ⟨blk_below h.res hb, blk_below h.box hb, below_step h.below hb, h.own.below hb, h.lt, h.hp, h.hn⟩
theorem okp : SubOk w L x.pos := subOk_of h.own.pp h.own.ps h.own.c1 h.own.c2 h.hp.tp h.hp.ts h.hp.pad
theorem okn : SubOk w M x.neg := subOk_of h.own.np h.own.ns h.own.c3 h.own.c4 h.hn.tp h.hn.ts h.hn.pad
theorem other {j : Nat} {cur cs : Array Value} (hj : w.heap[j]? = some (.cells cur 24 (0, 0))) (hl : w0.heap.size ≤ j) : QW w0 (w.setRow j cs) k L M x :=
  ⟨(setRow_other _ _ _ _ (blk_ne h.res hj (by decide))).trans h.res, (setRow_other _ _ _ _ (blk_ne h.box hj (by decide))).trans h.box, below_setRow h.below hl, h.own.moved (fun i ci hi => setRow_other _ _ _ _ (blk_ne hi hj (by decide))), h.lt, h.hp, h.hn⟩
theorem neg {M2 : Sl} {y : Sb} {cs : Array Value} (hcs : cs = patC L M2 ⟨x.pos, x.ng, y⟩) (r1 : RowIn w w0.heap.size (fun _ => True) M2.A y.p) (r2 : RowIn w w0.heap.size (fun _ => True) M2.B y.s) (c1 : y.p.length ≤ M2.c) (c2 : y.s.length ≤ M2.d) (hs : Sm y) : QW w0 (w.setRow k cs) k L M2 ⟨x.pos, x.ng, y⟩ := by
  subst hcs
  have hm : ∀ (i : Nat) (ci : Array Value), w.heap[i]? = some (.cells ci 53 (0, 0)) → (w.setRow k (patC L M2 ⟨x.pos, x.ng, y⟩)).heap[i]? = w.heap[i]? := fun i ci hi => setRow_other _ _ _ _ (blk_ne hi h.box (by decide))
  exact ⟨(setRow_other _ _ _ _ (by have := h.lt; omega)).trans h.res, setRow_heap _ _ _ _ _ _ h.box, below_setRow h.below (Nat.le_of_lt h.lt), ⟨row_moved h.own.pp hm, row_moved h.own.ps hm, row_moved r1 hm, row_moved r2 hm, h.own.c1, h.own.c2, c1, c2⟩, h.lt, h.hp, hs⟩
end QW
end Go.Proofs.Ytacnjemndfmbhaa.Q
end
section
namespace Go.Proofs.Ytacnjemndfmbhaa.Q
open Go.RowKit Go.Proofs.Ytacnjemndfmbhaa.A Go.Proofs.YtacnjemndfmbhaaW.PrintWords Go.Proofs.YtacnjemndfmbhaaW.PrintLast Go.Proofs.YtacnjemndfmbhaaW.PrintMore
set_option linter.unusedVariables false
set_option linter.unusedSimpArgs false
def patEq (x y : Pt) : Bool := subEq x.pos y.pos && (x.ng == y.ng && subEq x.neg y.neg)
structure TW (w0 w : World) (L M : Sl) (x : Pt) (g : Nat) (L2 M2 : Sl) (y : Pt) : Prop where
  box : w.heap[w0.heap.size]? = some (.cells (patC L M x) 26 (0, 0))
  box2 : w.heap[g]? = some (.cells (patC L2 M2 y) 26 (0, 0))
  below : Below w0.heap.size w0 w
theorem TW.step {w0 w w1 : World} {L M : Sl} {x : Pt} {g : Nat} {L2 M2 : Sl} {y : Pt} (h : TW w0 w L M x g L2 M2 y) (hb : Below w.heap.size w w1) : TW w0 w1 L M x g L2 M2 y := ⟨blk_below h.box hb, blk_below h.box2 hb, below_step h.below hb⟩
set_option maxHeartbeats 16000000 in
set_option maxRecDepth 100000 in
theorem same_walk (L M : Sl) (x : Pt) (L2 M2 : Sl) (y : Pt) (w : World) (hx : SubR w L x.pos ∧ SubR w M x.neg) (hy : SubR w L2 y.pos ∧ SubR w M2 y.neg) : Calls Try.prog 12 #[patV L M x, patV L2 M2 y] w fun e w' => e = .returned (.bool (patEq x y)) ∧ Below w.heap.size w w' := by
  have HX := Aside0.mk hx
  have HY := Aside0.mk hy
  clear hx hy
  cases h0 : subEq x.pos y.pos
  rotate_left
  cases h1 : (x.ng == y.ng)
  rotate_left
  all_goals
    go_enter Try.func12, Try.ntmps12
    go_wp2_with (first | ((with_reducible refine gate_dst (N := 2) rfl ?_); refine box_event ?hg (N := 2) ?hd (cs := patC L M x) (t := 26) ?hr ?_; (case hd => rfl); (case hg => rfl); (case hr => first | (go_simp; done) | (go_simp; rfl)); intro gb hgb w1 hbox hbb; subst hgb; have HQ0 : Aside0 (PW w w1 L M x) := ⟨⟨hbox, hbb⟩⟩; clear hbox hbb) | ((with_reducible refine gate_dst (N := 3) rfl ?_); refine box_event ?hg (N := 3) ?hd (cs := patC L2 M2 y) (t := 26) ?hr ?_; (case hd => rfl); (case hg => rfl); (case hr => first | (go_simp; done) | (go_simp; rfl)); intro gb hgb w1 hbox hbb; have HQ : Aside0 (TW w w1 L M x gb L2 M2 y) := ⟨⟨(HQ0.out.step hbb).box, hbox, (HQ0.out.step hbb).below⟩⟩; clear hbox hbb hgb HQ0; have c0 := pat_c0 HQ.out.box; have c1 := pat_c1 HQ.out.box; have c2 := pat_c2 HQ.out.box; have c3 := pat_c3 HQ.out.box; have c4 := pat_c4 HQ.out.box; have c5 := pat_c5 HQ.out.box; have c6 := pat_c6 HQ.out.box; have c7 := pat_c7 HQ.out.box; have c8 := pat_c8 HQ.out.box; have c9 := pat_c9 HQ.out.box; have c10 := pat_c10 HQ.out.box; have c11 := pat_c11 HQ.out.box; have c12 := pat_c12 HQ.out.box; have c13 := pat_c13 HQ.out.box; have c14 := pat_c14 HQ.out.box; have c15 := pat_c15 HQ.out.box; have c16 := pat_c16 HQ.out.box; have c17 := pat_c17 HQ.out.box; have c18 := pat_c18 HQ.out.box; have c19 := pat_c19 HQ.out.box; have c20 := pat_c20 HQ.out.box; have c21 := pat_c21 HQ.out.box; have c22 := pat_c22 HQ.out.box; have c23 := pat_c23 HQ.out.box; have c24 := pat_c24 HQ.out.box; have d0 := pat_c0 HQ.out.box2; have d1 := pat_c1 HQ.out.box2; have d2 := pat_c2 HQ.out.box2; have d3 := pat_c3 HQ.out.box2; have d4 := pat_c4 HQ.out.box2; have d5 := pat_c5 HQ.out.box2; have d6 := pat_c6 HQ.out.box2; have d7 := pat_c7 HQ.out.box2; have d8 := pat_c8 HQ.out.box2; have d9 := pat_c9 HQ.out.box2; have d10 := pat_c10 HQ.out.box2; have d11 := pat_c11 HQ.out.box2; have d12 := pat_c12 HQ.out.box2; have d13 := pat_c13 HQ.out.box2; have d14 := pat_c14 HQ.out.box2; have d15 := pat_c15 HQ.out.box2; have d16 := pat_c16 HQ.out.box2; have d17 := pat_c17 HQ.out.box2; have d18 := pat_c18 HQ.out.box2; have d19 := pat_c19 HQ.out.box2; have d20 := pat_c20 HQ.out.box2; have d21 := pat_c21 HQ.out.box2; have d22 := pat_c22 HQ.out.box2; have d23 := pat_c23 HQ.out.box2; have d24 := pat_c24 HQ.out.box2) | (go_at_call 18; (with_reducible refine (samesub_calls L x.pos L2 y.pos _ (HX.out.1.below HQ.out.below) (HY.out.1.below HQ.out.below)).mono ?_); rintro e w1 ⟨rfl, hb⟩; have nq := Aside0.mk (HQ.out.step hb); clear HQ hb c0 c1 c2 c3 c4 c5 c6 c7 c8 c9 c10 c11 c12 c13 c14 c15 c16 c17 c18 c19 c20 c21 c22 c23 c24 d0 d1 d2 d3 d4 d5 d6 d7 d8 d9 d10 d11 d12 d13 d14 d15 d16 d17 d18 d19 d20 d21 d22 d23 d24; have HQ := nq; clear nq; have c0 := pat_c0 HQ.out.box; have c1 := pat_c1 HQ.out.box; have c2 := pat_c2 HQ.out.box; have c3 := pat_c3 HQ.out.box; have c4 := pat_c4 HQ.out.box; have c5 := pat_c5 HQ.out.box; have c6 := pat_c6 HQ.out.box; have c7 := pat_c7 HQ.out.box; have c8 := pat_c8 HQ.out.box; have c9 := pat_c9 HQ.out.box; have c10 := pat_c10 HQ.out.box; have c11 := pat_c11 HQ.out.box; have c12 := pat_c12 HQ.out.box; have c13 := pat_c13 HQ.out.box; have c14 := pat_c14 HQ.out.box; have c15 := pat_c15 HQ.out.box; have c16 := pat_c16 HQ.out.box; have c17 := pat_c17 HQ.out.box; have c18 := pat_c18 HQ.out.box; have c19 := pat_c19 HQ.out.box; have c20 := pat_c20 HQ.out.box; have c21 := pat_c21 HQ.out.box; have c22 := pat_c22 HQ.out.box; have c23 := pat_c23 HQ.out.box; have c24 := pat_c24 HQ.out.box; have d0 := pat_c0 HQ.out.box2; have d1 := pat_c1 HQ.out.box2; have d2 := pat_c2 HQ.out.box2; have d3 := pat_c3 HQ.out.box2; have d4 := pat_c4 HQ.out.box2; have d5 := pat_c5 HQ.out.box2; have d6 := pat_c6 HQ.out.box2; have d7 := pat_c7 HQ.out.box2; have d8 := pat_c8 HQ.out.box2; have d9 := pat_c9 HQ.out.box2; have d10 := pat_c10 HQ.out.box2; have d11 := pat_c11 HQ.out.box2; have d12 := pat_c12 HQ.out.box2; have d13 := pat_c13 HQ.out.box2; have d14 := pat_c14 HQ.out.box2; have d15 := pat_c15 HQ.out.box2; have d16 := pat_c16 HQ.out.box2; have d17 := pat_c17 HQ.out.box2; have d18 := pat_c18 HQ.out.box2; have d19 := pat_c19 HQ.out.box2; have d20 := pat_c20 HQ.out.box2; have d21 := pat_c21 HQ.out.box2; have d22 := pat_c22 HQ.out.box2; have d23 := pat_c23 HQ.out.box2; have d24 := pat_c24 HQ.out.box2) | (go_at_call 18; (with_reducible refine (samesub_calls M x.neg M2 y.neg _ (HX.out.2.below HQ.out.below) (HY.out.2.below HQ.out.below)).mono ?_); rintro e w1 ⟨rfl, hb⟩; have nq := Aside0.mk (HQ.out.step hb); clear HQ hb c0 c1 c2 c3 c4 c5 c6 c7 c8 c9 c10 c11 c12 c13 c14 c15 c16 c17 c18 c19 c20 c21 c22 c23 c24 d0 d1 d2 d3 d4 d5 d6 d7 d8 d9 d10 d11 d12 d13 d14 d15 d16 d17 d18 d19 d20 d21 d22 d23 d24; have HQ := nq; clear nq; have c0 := pat_c0 HQ.out.box; have c1 := pat_c1 HQ.out.box; have c2 := pat_c2 HQ.out.box; have c3 := pat_c3 HQ.out.box; have c4 := pat_c4 HQ.out.box; have c5 := pat_c5 HQ.out.box; have c6 := pat_c6 HQ.out.box; have c7 := pat_c7 HQ.out.box; have c8 := pat_c8 HQ.out.box; have c9 := pat_c9 HQ.out.box; have c10 := pat_c10 HQ.out.box; have c11 := pat_c11 HQ.out.box; have c12 := pat_c12 HQ.out.box; have c13 := pat_c13 HQ.out.box; have c14 := pat_c14 HQ.out.box; have c15 := pat_c15 HQ.out.box; have c16 := pat_c16 HQ.out.box; have c17 := pat_c17 HQ.out.box; have c18 := pat_c18 HQ.out.box; have c19 := pat_c19 HQ.out.box; have c20 := pat_c20 HQ.out.box; have c21 := pat_c21 HQ.out.box; have c22 := pat_c22 HQ.out.box; have c23 := pat_c23 HQ.out.box; have c24 := pat_c24 HQ.out.box; have d0 := pat_c0 HQ.out.box2; have d1 := pat_c1 HQ.out.box2; have d2 := pat_c2 HQ.out.box2; have d3 := pat_c3 HQ.out.box2; have d4 := pat_c4 HQ.out.box2; have d5 := pat_c5 HQ.out.box2; have d6 := pat_c6 HQ.out.box2; have d7 := pat_c7 HQ.out.box2; have d8 := pat_c8 HQ.out.box2; have d9 := pat_c9 HQ.out.box2; have d10 := pat_c10 HQ.out.box2; have d11 := pat_c11 HQ.out.box2; have d12 := pat_c12 HQ.out.box2; have d13 := pat_c13 HQ.out.box2; have d14 := pat_c14 HQ.out.box2; have d15 := pat_c15 HQ.out.box2; have d16 := pat_c16 HQ.out.box2; have d17 := pat_c17 HQ.out.box2; have d18 := pat_c18 HQ.out.box2; have d19 := pat_c19 HQ.out.box2; have d20 := pat_c20 HQ.out.box2; have d21 := pat_c21 HQ.out.box2; have d22 := pat_c22 HQ.out.box2; have d23 := pat_c23 HQ.out.box2; have d24 := pat_c24 HQ.out.box2))
    go_ret
    exact ⟨ret_bool (by simp [patEq, *]), HQ.out.below⟩
theorem scan_sm {s : ByteArray} (hs : s.size ≤ 128) {p : Int} (h0 : 0 ≤ p) (hp : p ≤ s.size) {x : Int × Sb} (h : scanA s p = some x) : Sm x.2 := by
  obtain ⟨y, hy, rfl⟩ := Option.map_eq_some_iff.mp (show (runS s (stepsFrom 0) ⟨p, zeroSb2, 0⟩).map _ = _ from h)
  exact Sm.width hs hy (run_inv0 hs h0 hp hy)
theorem parse_sm (s : ByteArray) : Sm (parseP s).1.pos ∧ Sm (parseP s).1.neg := by
  have hf : ∀ q x, Sm x.pos → Sm x.neg → Sm (finP s q x).1.pos ∧ Sm (finP s q x).1.neg := by
    intro q x h1 h2
    unfold finP
    split
    · exact ⟨Sm.zero, Sm.zero⟩
    · split
      · exact ⟨h1, h2⟩
      · exact ⟨Sm.zero, Sm.zero⟩
  unfold parseP
  split
  · exact ⟨Sm.zero, Sm.zero⟩
  · rename_i hs
    split
    · exact ⟨Sm.zero, Sm.zero⟩
    · rename_i x hx
      have r := scan_range (Int.le_refl 0) (by omega) hx
      have m1 := scan_sm (by omega) (Int.le_refl 0) (by omega) hx
      split
      · rename_i hb
        have hi := bAt_in hb
        split
        · exact ⟨Sm.zero, Sm.zero⟩
        · rename_i y hy
          exact hf _ _ m1 (scan_sm (by omega) (by omega) hi hy)
      · exact hf _ _ m1 Sm.zero
theorem OwnP.lower {w : World} {base b2 : Nat} {L M : Sl} {x : Pt} (h : OwnP w base L M x) (hb : b2 ≤ base) : OwnP w b2 L M x := ⟨h.pp.lower hb, h.ps.lower hb, h.np.lower hb, h.ns.lower hb, h.c1, h.c2, h.c3, h.c4⟩
structure BX (w0 w : World) (k : Nat) (L M : Sl) (x : Pt) : Prop where
  box : w.heap[k]? = some (.cells (patC L M x) 26 (0, 0))
  own : OwnP w w0.heap.size L M x
  hp : Sm x.pos
  hn : Sm x.neg
  ge : w0.heap.size ≤ k
namespace BX
variable {w0 w w1 : World} {k : Nat} {L M : Sl} {x : Pt} (h : BX w0 w k L M x)
include h
theorem okp : SubOk w L x.pos := subOk_of h.own.pp h.own.ps h.own.c1 h.own.c2 h.hp.tp h.hp.ts h.hp.pad
theorem okn : SubOk w M x.neg := subOk_of h.own.np h.own.ns h.own.c3 h.own.c4 h.hn.tp h.hn.ts h.hn.pad
theorem step (hb : Below w.heap.size w w1) : BX w0 w1 k L M x := ⟨blk_below h.box hb, h.own.below hb, h.hp, h.hn, h.ge⟩
theorem over {j : Nat} {cur cs : Array Value} (hj : w.heap[j]? = some (.cells cur 26 (0, 0))) (hne : k ≠ j) : BX w0 (w.setRow j cs) k L M x :=
  ⟨(setRow_other _ _ _ _ hne).trans h.box, h.own.moved (fun i ci hi => setRow_other _ _ _ _ (blk_ne hi hj (by decide))), h.hp, h.hn, h.ge⟩
end BX
theorem BX.fill {w0 w : World} {k : Nat} {L M : Sl} {x y : Pt} {L0 M0 : Sl} (hb : w.heap[k]? = some (.cells (patC L0 M0 y) 26 (0, 0))) {base : Nat} (ho : OwnP w base L M x) (hl : w0.heap.size ≤ base) (h1 : Sm x.pos) (h2 : Sm x.neg) (hg : w0.heap.size ≤ k) : BX w0 (w.setRow k (patC L M x)) k L M x :=
  ⟨setRow_heap _ _ _ _ _ _ hb, (ho.lower hl).moved (fun i ci hi => setRow_other _ _ _ _ (blk_ne hi hb (by decide))), h1, h2, hg⟩
theorem fix_sm : Sm fixA ∧ Sm fixB := by
  have h := parse_sm fixS
  rw [fix_parse] at h
  exact h
theorem parse_fix : parseP ⟨#[35, 44, 35, 35, 48, 46, 48, 35, 35, 59, 40, 42, 120, 48, 41]⟩ = (⟨fixA, true, fixB⟩, 0) := fix_parse
theorem parse_dot : parseP ⟨#[48, 46]⟩ = (zeroPt, 140) := dot_parse
theorem wpList_load_g {P : Program} {ops : Array Oper} {rest : List Oper} {o : Oper} {a : Act} {w : World} {Q : Exit → Act → World → Prop} (hw : Region.wanted o (yielded ops a.tmps) = true) (ty : TypeId) (x : Operand) (ho : o.op = .load ty x)
    (g : Nat) (hx : a.eval x = .pointer (some ⟨g, 0, none⟩)) (t : TypeId) (cs : Array Value) (fr : Nat × Nat) (d : TypeDesc) (hg : w.heap[g]? = some (.cells cs t fr))
    (hu : P.underlying ty = some d) (hd : (match d with | .struct _ | .array _ _ => true | _ => false) = true) (hi : (P.info? ty).map (·.size) = some cs.size)
    (h : wpList P ops Q rest (a.put o.dst (.agg cs)) w) : wpList P ops Q (o :: rest) a w :=
  wpList_step fun K hK => by rw [if_pos hw]; exact wp_load_row ty x ho g hx t cs fr d hg hu hd hi (hK _ _ h)
set_option maxHeartbeats 16000000 in
set_option maxRecDepth 100000 in
theorem fixed_calls (w : World) (hG : Glob w) : Calls Try.prog 14 #[] w fun e w' => e = .returned (.bool true) ∧ Below w.heap.size w w' := by
  have HG := Aside0.mk hG
  clear hG
  obtain ⟨pa, ha⟩ : ∃ p, fixA = p := ⟨_, rfl⟩
  obtain ⟨pb, hb⟩ : ∃ p, fixB = p := ⟨_, rfl⟩
  have HS : Aside0 (Sm pa ∧ Sm pb) := ⟨by rw [← ha, ← hb]; exact fix_sm⟩
  have HF : Aside0 (parseP ⟨#[35, 44, 35, 35, 48, 46, 48, 35, 35, 59, 40, 42, 120, 48, 41]⟩ = (⟨pa, true, pb⟩, 0)) := ⟨by rw [← ha, ← hb]; exact parse_fix⟩
  have HN : Aside0 (printP ⟨pa, true, pb⟩ = (⟨#[35, 44, 35, 35, 48, 46, 48, 35, 35, 59, 40, 42, 120, 48, 41]⟩, 0)) := ⟨by rw [← ha, ← hb]; exact fix_print⟩
  have HC : Aside0 (checkP ⟨pa, true, pb⟩ = 0) := ⟨by rw [← ha, ← hb]; exact fix_check⟩
  have HV : Aside0 (pa.im = 1 ∧ pa.fn = 1 ∧ pa.fx = 3 ∧ pa.pr = 3 ∧ pb.pad = ⟨#[120]⟩ ∧ pb.pa = 1 ∧ pb.wd = 3) := ⟨by rw [← ha, ← hb]; exact ⟨rfl, rfl, rfl, rfl, rfl, rfl, rfl⟩⟩
  obtain ⟨zp, hz⟩ : ∃ z, zeroPt = z := ⟨_, rfl⟩
  have HD : Aside0 (parseP ⟨#[48, 46]⟩ = (zp, 140)) := ⟨by rw [← hz]; exact parse_dot⟩
  clear ha hb hz
  go_enter Try.func14, Try.ntmps14
  dsimp only [List.append]
  go_upto_region 4 with (first | (have hz := HF.out; go_at_call 15; ((refine (parse_walk ⟨#[35, 44, 35, 35, 48, 46, 48, 35, 35, 59, 40, 42, 120, 48, 41]⟩ _ HG.out).mono ?_); rw [hz]; rintro e w1 ⟨L, M, rfl, how, hb⟩; have OW := Aside0.mk how; have HB := Aside0.mk hb; clear how hb hz HF)) | ((with_reducible refine gate_dst (N := 1) rfl ?_); refine box_event ?hg (N := 1) ?hd (cs := patC Lz Lz zeroPt) (t := 26) ?hr ?_; (case hd => rfl); (case hg => rfl); (case hr => first | (go_simp; done) | (go_simp; rfl)); intro k1 hk1 w2 hbox hbb; have K1 := Aside0.mk hbox; have OW2 := Aside0.mk (OW.out.below hbb); have HB2 := Aside0.mk (below_step HB.out hbb); have HK := Aside0.mk (show w.heap.size ≤ k1 by have := HB.out.size; omega); clear hbox hbb OW HB hk1) | ((with_reducible refine gate_store (t := 26) (p := 1) rfl ?_); refine wpList_store_row rfl 26 (.tmp 1) (.tmp 9) rfl k1 (patC L M ⟨pa, true, pb⟩) rfl rfl 26 (patC Lz Lz zeroPt) K1.out info26 rfl (by simp [Value.oneCell']) ?_; generalize hW : World.setRow w2 k1 _ = w3; have BB : Aside0 (BX w w3 k1 L M ⟨pa, true, pb⟩) := ⟨by rw [← hW]; exact BX.fill K1.out OW2.out (Nat.le_refl _) HS.out.1 HS.out.2 HK.out⟩; have HB3 : Aside0 (Below w.heap.size w w3) := ⟨by rw [← hW]; exact below_setRow HB2.out HK.out⟩; clear hW K1 OW2 HB2) | ((with_reducible refine gate_dst (N := 12) rfl ?_); refine wpList_load_row rfl 26 (.tmp 1) rfl k1 rfl 26 (patC L M ⟨pa, true, pb⟩) (0, 0) _ BB.out.box Try.underlying26 rfl info26 ?_) | (go_at_call 9; ((refine (pprint_walk L M pa true pb _ (Glob_below HG.out HB3.out) BB.out.okp BB.out.okn).mono ?_); rw [HN.out]; rintro e w4 ⟨rfl, hb⟩; have nb := Aside0.mk (BB.out.step hb); have HB4 := Aside0.mk (below_step HB3.out hb); clear BB HB3 hb; have BB := nb; clear nb)) | (go_at_call 15; ((refine (parse_walk ⟨#[48, 46]⟩ _ (Glob_below HG.out HB4.out)).mono ?_); rw [HD.out]; rintro e w5 ⟨L5, M5, rfl, _, hb⟩; have nb := Aside0.mk (BB.out.step hb); have HB5 := Aside0.mk (below_step HB4.out hb); clear BB HB4 hb; have BB := nb; clear nb)) | ((with_reducible refine gate_dst (N := 5) rfl ?_); refine box_event ?hg (N := 5) ?hd (cs := patC Lz Lz zeroPt) (t := 26) ?hr ?_; (case hd => rfl); (case hg => rfl); (case hr => first | (go_simp; done) | (go_simp; rfl)); intro k5 hk5 w6 hbox hbb; have K5 := Aside0.mk hbox; have HK5 := Aside0.mk (show w.heap.size ≤ k5 by have := HB5.out.size; omega); have nb := Aside0.mk (BB.out.step hbb); have HB6 := Aside0.mk (below_step HB5.out hbb); have NE := Aside0.mk (show k1 ≠ k5 by have := blk_lt BB.out.box; omega); clear BB hbox hbb HB5 hk5; have BB := nb; clear nb) | ((with_reducible refine gate_store (t := 26) (p := 5) rfl ?_); refine wpList_store_row rfl 26 (.tmp 5) (.tmp 18) rfl k5 (patC L5 M5 zp) rfl rfl 26 (patC Lz Lz zeroPt) K5.out info26 rfl (by simp [Value.oneCell']) ?_; generalize hW : World.setRow w6 k5 _ = w7; have BC : Aside0 (BX w w7 k1 L M ⟨pa, true, pb⟩) := ⟨by rw [← hW]; exact BB.out.over K5.out NE.out⟩; have HB7 : Aside0 (Below w.heap.size w w7) := ⟨by rw [← hW]; exact below_setRow HB6.out HK5.out⟩; clear hW K5 BB HB6; have x2 : w7.cell? ⟨k1, 2, none⟩ = some (.int .i64 1) := (pat_c2 BC.out.box).trans (congrArg (fun v => some (Value.int .i64 v)) HV.out.1); have x3 : w7.cell? ⟨k1, 3, none⟩ = some (.int .i64 1) := (pat_c3 BC.out.box).trans (congrArg (fun v => some (Value.int .i64 v)) HV.out.2.1); have x4 : w7.cell? ⟨k1, 4, none⟩ = some (.int .i64 3) := (pat_c4 BC.out.box).trans (congrArg (fun v => some (Value.int .i64 v)) HV.out.2.2.1); have x5 : w7.cell? ⟨k1, 5, none⟩ = some (.int .i64 3) := (pat_c5 BC.out.box).trans (congrArg (fun v => some (Value.int .i64 v)) HV.out.2.2.2.1); have x12 : w7.cell? ⟨k1, 12, none⟩ = some (.bool true) := pat_c12 BC.out.box; have x22 : w7.cell? ⟨k1, 22, none⟩ = some (.string ⟨#[120]⟩) := (pat_c22 BC.out.box).trans (congrArg (fun v => some (Value.string v)) HV.out.2.2.2.2.1); have x23 : w7.cell? ⟨k1, 23, none⟩ = some (.int .i64 1) := (pat_c23 BC.out.box).trans (congrArg (fun v => some (Value.int .i64 v)) HV.out.2.2.2.2.2.1); have x24 : w7.cell? ⟨k1, 24, none⟩ = some (.int .i64 3) := (pat_c24 BC.out.box).trans (congrArg (fun v => some (Value.int .i64 v)) HV.out.2.2.2.2.2.2)))
  go_wp2_with (first | ((with_reducible refine gate_dst (N := 81) rfl ?_); refine wpList_load_g (by first | rfl | (go_simp; done)) 26 (.tmp 1) rfl k1 rfl 26 (patC L M ⟨pa, true, pb⟩) (0, 0) _ BC.out.box Try.underlying26 rfl info26 ?_) | (go_at_call 11; ((refine (pcheck_walk L M pa true pb _ (Glob_below HG.out HB7.out) BC.out.okp BC.out.okn).mono ?_); rw [HC.out]; rintro e w8 ⟨rfl, hb⟩; have HB8 := Aside0.mk (below_step HB7.out hb); clear hb)))
  go_ret
  exact ⟨rfl, HB8.out⟩
end Go.Proofs.Ytacnjemndfmbhaa.Q
end
section
namespace Go.Proofs.Ytacnjemndfmbhaa.Q
open Go.RowKit Go.Proofs.Ytacnjemndfmbhaa.A Go.Proofs.YtacnjemndfmbhaaW.PrintWords Go.Proofs.YtacnjemndfmbhaaW.PrintLast Go.Proofs.YtacnjemndfmbhaaW.PrintMore
set_option linter.unusedVariables false
set_option linter.unusedSimpArgs false
theorem subEq_refl (x : Sb) : subEq x x = true := by unfold subEq; simp
set_option maxHeartbeats 16000000 in
set_option maxRecDepth 100000 in
theorem halves_walk (a b : ByteArray) (w : World) (hG : Glob w) (ha : a.size ≤ 281474976710656) (hb : b.size ≤ 281474976710656) : Calls Try.prog 6 #[.string a, .string b] w fun e w' => e = .returned (.bool true) ∧ Below w.heap.size w w' := by
  have HG := Aside0.mk hG
  have BW := Aside0.mk (Below.refl w.heap.size w)
  obtain ⟨xa, ea, hA⟩ : ∃ x e, parseP a = (x, e) := ⟨_, _, rfl⟩
  obtain ⟨xb, eb, hB⟩ : ∃ x e, parseP b = (x, e) := ⟨_, _, rfl⟩
  obtain ⟨xj, ej, hJ⟩ : ∃ x e, parseP (a ++ (⟨#[59]⟩ : ByteArray) ++ b) = (x, e) := ⟨_, _, rfl⟩
  have SA := Aside0.mk (show Sm xa.pos ∧ Sm xa.neg by have := parse_sm a; rw [hA] at this; exact this)
  have SB := Aside0.mk (show Sm xb.pos ∧ Sm xb.neg by have := parse_sm b; rw [hB] at this; exact this)
  have SJ := Aside0.mk (show Sm xj.pos ∧ Sm xj.neg by have := parse_sm (a ++ (⟨#[59]⟩ : ByteArray) ++ b); rw [hJ] at this; exact this)
  have L0 := Aside0.mk (show (128 : Int) < a.size + b.size + 1 → ej = 142 by intro h; have := halves_long h; rw [show parseP (joinS a b) = (xj, ej) from hJ] at this; exact this)
  have L1 := Aside0.mk (show (a.size : Int) + b.size + 1 ≤ 128 → ea = 0 → eb = 0 → xa.ng = false → xb.ng = false → ej = 142 ∨ (ej = 0 ∧ xj = ⟨xa.pos, true, xb.pos⟩) by intro h h1 h2 h3 h4; have := halves_two h (by rw [hA]; exact h1) (by rw [hB]; exact h2) (by rw [hA]; exact h3) (by rw [hB]; exact h4); rw [show parseP (joinS a b) = (xj, ej) from hJ, hA, hB] at this; exact this)
  have L2 := Aside0.mk (show (a.size : Int) + b.size + 1 ≤ 128 → ea = 0 → xa.ng = true → ej ≠ 0 by intro h h1 h3; have := halves_three h (by rw [hA]; exact h1) (by rw [hA]; exact h3); rw [show parseP (joinS a b) = (xj, ej) from hJ] at this; exact this)
  have HA := Aside0.mk hA
  have HB := Aside0.mk hB
  have HJ := Aside0.mk hJ
  have e1 := eq_false (Nat.not_lt.2 (show a.size + 1 ≤ 9223372036854775807 by omega))
  have e2 := eq_false (Nat.not_lt.2 (show a.size + 1 + b.size ≤ 9223372036854775807 by omega))
  have w1_ : IntKind.i64.wrap ((a.size : Int) + b.size) = (a.size : Int) + b.size := IntWalk.i64_in _ (by omega)
  have w2_ : IntKind.i64.wrap ((a.size : Int) + b.size + 1) = (a.size : Int) + b.size + 1 := IntWalk.i64_in _ (by omega)
  clear hG hA hB hJ ha hb
  go_enter Try.func6, Try.ntmps6
  go_upto_region 4 with (first | (have hz := HA.out; go_at_call 15; ((refine (parse_walk a _ (Glob_below HG.out BW.out)).mono ?_); rw [hz]; rintro e v1 ⟨LA, MA, rfl, how, hb⟩; have OW := Aside0.mk (how.lower BW.out.size); have n_ := Aside0.mk (below_step BW.out hb); clear BW; have BW := n_; clear n_; clear hb how hz HA)) | ((with_reducible refine gate_dst (N := 5) rfl ?_); refine box_event ?hg (N := 5) ?hd (cs := patC Lz Lz zeroPt) (t := 26) ?hr ?_; (case hd => rfl); (case hg => rfl); (case hr => first | (go_simp; done) | (go_simp; rfl)); intro k5 hk v2 hbox hbb; have Kk5 := Aside0.mk hbox; have Hk5 := Aside0.mk (show w.heap.size ≤ k5 by have := BW.out.size; omega); have ow := Aside0.mk (OW.out.below hbb); clear OW; have OW := ow; clear ow; have n_ := Aside0.mk (below_step BW.out hbb); clear BW; have BW := n_; clear n_; clear hbox hbb hk) | ((with_reducible refine gate_store (t := 26) (p := 5) rfl ?_); refine wpList_store_row rfl 26 (.tmp 5) (.tmp 14) rfl k5 (patC LA MA xa) rfl rfl 26 (patC Lz Lz zeroPt) Kk5.out info26 rfl (by simp [Value.oneCell']) ?_; generalize hW : World.setRow v2 k5 _ = v3; have NA : Aside0 (BX w v3 k5 LA MA xa) := ⟨by rw [← hW]; exact BX.fill Kk5.out OW.out (Nat.le_refl _) SA.out.1 SA.out.2 Hk5.out⟩; have n_ : Aside0 (Below w.heap.size w v3) := ⟨by rw [← hW]; exact below_setRow BW.out Hk5.out⟩; clear BW; have BW := n_; clear n_; clear hW Kk5 OW) | (have hz := HB.out; go_at_call 15; ((refine (parse_walk b _ (Glob_below HG.out BW.out)).mono ?_); rw [hz]; rintro e v4 ⟨LB, MB, rfl, how, hb⟩; have OW := Aside0.mk (how.lower BW.out.size); have n_ := Aside0.mk (NA.out.step hb); clear NA; have NA := n_; clear n_; have n_ := Aside0.mk (below_step BW.out hb); clear BW; have BW := n_; clear n_; clear hb how hz HB)) | ((with_reducible refine gate_dst (N := 7) rfl ?_); refine box_event ?hg (N := 7) ?hd (cs := patC Lz Lz zeroPt) (t := 26) ?hr ?_; (case hd => rfl); (case hg => rfl); (case hr => first | (go_simp; done) | (go_simp; rfl)); intro k7 hk v5 hbox hbb; have Kk7 := Aside0.mk hbox; have Hk7 := Aside0.mk (show w.heap.size ≤ k7 by have := BW.out.size; omega); have NEk5k7 := Aside0.mk (show k5 ≠ k7 by have := blk_lt NA.out.box; omega); have ow := Aside0.mk (OW.out.below hbb); clear OW; have OW := ow; clear ow; have n_ := Aside0.mk (NA.out.step hbb); clear NA; have NA := n_; clear n_; have n_ := Aside0.mk (below_step BW.out hbb); clear BW; have BW := n_; clear n_; clear hbox hbb hk) | ((with_reducible refine gate_store (t := 26) (p := 7) rfl ?_); refine wpList_store_row rfl 26 (.tmp 7) (.tmp 19) rfl k7 (patC LB MB xb) rfl rfl 26 (patC Lz Lz zeroPt) Kk7.out info26 rfl (by simp [Value.oneCell']) ?_; generalize hW : World.setRow v5 k7 _ = v6; have NB : Aside0 (BX w v6 k7 LB MB xb) := ⟨by rw [← hW]; exact BX.fill Kk7.out OW.out (Nat.le_refl _) SB.out.1 SB.out.2 Hk7.out⟩; have n_ : Aside0 (BX w v6 k5 LA MA xa) := ⟨by rw [← hW]; exact NA.out.over Kk7.out NEk5k7.out⟩; clear NA; have NA := n_; clear n_; have n_ : Aside0 (Below w.heap.size w v6) := ⟨by rw [← hW]; exact below_setRow BW.out Hk7.out⟩; clear BW; have BW := n_; clear n_; clear hW Kk7 OW) | (have hz := HJ.out; go_at_call 15; ((refine (parse_walk _ _ (Glob_below HG.out BW.out)).mono ?_); rw [hz]; rintro e v7 ⟨LJ, MJ, rfl, how, hb⟩; have OW := Aside0.mk (how.lower BW.out.size); have n_ := Aside0.mk (NA.out.step hb); clear NA; have NA := n_; clear n_; have n_ := Aside0.mk (NB.out.step hb); clear NB; have NB := n_; clear n_; have n_ := Aside0.mk (below_step BW.out hb); clear BW; have BW := n_; clear n_; clear hb how hz HJ)) | ((with_reducible refine gate_dst (N := 9) rfl ?_); refine box_event ?hg (N := 9) ?hd (cs := patC Lz Lz zeroPt) (t := 26) ?hr ?_; (case hd => rfl); (case hg => rfl); (case hr => first | (go_simp; done) | (go_simp; rfl)); intro k9 hk v8 hbox hbb; have Kk9 := Aside0.mk hbox; have Hk9 := Aside0.mk (show w.heap.size ≤ k9 by have := BW.out.size; omega); have NEk5k9 := Aside0.mk (show k5 ≠ k9 by have := blk_lt NA.out.box; omega); have NEk7k9 := Aside0.mk (show k7 ≠ k9 by have := blk_lt NB.out.box; omega); have ow := Aside0.mk (OW.out.below hbb); clear OW; have OW := ow; clear ow; have n_ := Aside0.mk (NA.out.step hbb); clear NA; have NA := n_; clear n_; have n_ := Aside0.mk (NB.out.step hbb); clear NB; have NB := n_; clear n_; have n_ := Aside0.mk (below_step BW.out hbb); clear BW; have BW := n_; clear n_; clear hbox hbb hk) | ((with_reducible refine gate_store (t := 26) (p := 9) rfl ?_); refine wpList_store_row rfl 26 (.tmp 9) (.tmp 27) rfl k9 (patC LJ MJ xj) rfl rfl 26 (patC Lz Lz zeroPt) Kk9.out info26 rfl (by simp [Value.oneCell']) ?_; generalize hW : World.setRow v8 k9 _ = v9; have NJ : Aside0 (BX w v9 k9 LJ MJ xj) := ⟨by rw [← hW]; exact BX.fill Kk9.out OW.out (Nat.le_refl _) SJ.out.1 SJ.out.2 Hk9.out⟩; have n_ : Aside0 (BX w v9 k5 LA MA xa) := ⟨by rw [← hW]; exact NA.out.over Kk9.out NEk5k9.out⟩; clear NA; have NA := n_; clear n_; have n_ : Aside0 (BX w v9 k7 LB MB xb) := ⟨by rw [← hW]; exact NB.out.over Kk9.out NEk7k9.out⟩; clear NB; have NB := n_; clear n_; have n_ : Aside0 (Below w.heap.size w v9) := ⟨by rw [← hW]; exact below_setRow BW.out Hk9.out⟩; clear BW; have BW := n_; clear n_; clear hW Kk9 OW))
  have c5 := pat_c12 NA.out.box
  have c7 := pat_c12 NB.out.box
  clear e1 e2
  cases d0 : decide ((128 : Int) < (a.size : Int) + b.size + 1) with
  | true =>
    obtain rfl : ej = 142 := L0.out (of_decide_eq_true d0)
    exact aP23
  | false =>
    have HLE := Aside0.mk (show (a.size : Int) + b.size + 1 ≤ 128 by have := of_decide_eq_false d0; omega)
    cases qa : (ea == 0) with
    | false =>
      exact aP23
    | true =>
      have HA0 := Aside0.mk (show ea = 0 from beq_iff_eq.mp qa)
      cases na : xa.ng with
      | true =>
        have qj : (ej == 0) = false := beq_eq_false_iff_ne.mpr (L2.out HLE.out HA0.out na)
        cases qb : (eb == 0) with
        | false =>
          exact aP23
        | true =>
          exact aP23
      | false =>
        cases qb : (eb == 0) with
        | false =>
          exact aP23
        | true =>
          cases nb : xb.ng with
          | true =>
            exact aP23
          | false =>
            rcases L1.out HLE.out HA0.out (beq_iff_eq.mp qb) na nb with hj | ⟨hj, hx⟩
            · subst hj
              exact aP23
            · subst hj
              subst hx
              have M1 := Aside0.mk (subEq_refl xa.pos)
              have M2 := Aside0.mk (subEq_refl xb.pos)
              have x0 := pat_c0 NJ.out.box
              have x1 := pat_c1 NJ.out.box
              have x2 := pat_c2 NJ.out.box
              have x3 := pat_c3 NJ.out.box
              have x4 := pat_c4 NJ.out.box
              have x5 := pat_c5 NJ.out.box
              have x6 := pat_c6 NJ.out.box
              have x7 := pat_c7 NJ.out.box
              have x8 := pat_c8 NJ.out.box
              have x9 := pat_c9 NJ.out.box
              have x10 := pat_c10 NJ.out.box
              have x11 := pat_c11 NJ.out.box
              have x12 := pat_c12 NJ.out.box
              have x13 := pat_c13 NJ.out.box
              have x14 := pat_c14 NJ.out.box
              have x15 := pat_c15 NJ.out.box
              have x16 := pat_c16 NJ.out.box
              have x17 := pat_c17 NJ.out.box
              have x18 := pat_c18 NJ.out.box
              have x19 := pat_c19 NJ.out.box
              have x20 := pat_c20 NJ.out.box
              have x21 := pat_c21 NJ.out.box
              have x22 := pat_c22 NJ.out.box
              have x23 := pat_c23 NJ.out.box
              have x24 := pat_c24 NJ.out.box
              have y0 := pat_c0 NA.out.box
              have y1 := pat_c1 NA.out.box
              have y2 := pat_c2 NA.out.box
              have y3 := pat_c3 NA.out.box
              have y4 := pat_c4 NA.out.box
              have y5 := pat_c5 NA.out.box
              have y6 := pat_c6 NA.out.box
              have y7 := pat_c7 NA.out.box
              have y8 := pat_c8 NA.out.box
              have y9 := pat_c9 NA.out.box
              have y10 := pat_c10 NA.out.box
              have y11 := pat_c11 NA.out.box
              have z0 := pat_c0 NB.out.box
              have z1 := pat_c1 NB.out.box
              have z2 := pat_c2 NB.out.box
              have z3 := pat_c3 NB.out.box
              have z4 := pat_c4 NB.out.box
              have z5 := pat_c5 NB.out.box
              have z6 := pat_c6 NB.out.box
              have z7 := pat_c7 NB.out.box
              have z8 := pat_c8 NB.out.box
              have z9 := pat_c9 NB.out.box
              have z10 := pat_c10 NB.out.box
              have z11 := pat_c11 NB.out.box
              go_wp2_with (first | (go_at_call 14; ((refine (fixed_calls _ (Glob_below HG.out BW.out)).mono ?_); rintro e wf ⟨rfl, hb⟩; have n_ := Aside0.mk (below_step BW.out hb); clear BW hb; have BW := n_; clear n_)) | (have hz := M1.out; go_at_call 18; ((refine (samesub_calls LJ xa.pos LA xa.pos _ NJ.out.okp.r NA.out.okp.r).mono ?_); rw [hz]; clear hz; rintro e w1 ⟨rfl, hb⟩; have n_ := Aside0.mk (NA.out.step hb); clear NA; have NA := n_; clear n_; have n_ := Aside0.mk (NB.out.step hb); clear NB; have NB := n_; clear n_; have n_ := Aside0.mk (NJ.out.step hb); clear NJ; have NJ := n_; clear n_; have n_ := Aside0.mk (below_step BW.out hb); clear BW; have BW := n_; clear n_; clear hb M1 c5 c7 x0 x1 x2 x3 x4 x5 x6 x7 x8 x9 x10 x11 x12 x13 x14 x15 x16 x17 x18 x19 x20 x21 x22 x23 x24 y0 y1 y2 y3 y4 y5 y6 y7 y8 y9 y10 y11 z0 z1 z2 z3 z4 z5 z6 z7 z8 z9 z10 z11; have x0 := pat_c0 NJ.out.box; have x1 := pat_c1 NJ.out.box; have x2 := pat_c2 NJ.out.box; have x3 := pat_c3 NJ.out.box; have x4 := pat_c4 NJ.out.box; have x5 := pat_c5 NJ.out.box; have x6 := pat_c6 NJ.out.box; have x7 := pat_c7 NJ.out.box; have x8 := pat_c8 NJ.out.box; have x9 := pat_c9 NJ.out.box; have x10 := pat_c10 NJ.out.box; have x11 := pat_c11 NJ.out.box; have x12 := pat_c12 NJ.out.box; have x13 := pat_c13 NJ.out.box; have x14 := pat_c14 NJ.out.box; have x15 := pat_c15 NJ.out.box; have x16 := pat_c16 NJ.out.box; have x17 := pat_c17 NJ.out.box; have x18 := pat_c18 NJ.out.box; have x19 := pat_c19 NJ.out.box; have x20 := pat_c20 NJ.out.box; have x21 := pat_c21 NJ.out.box; have x22 := pat_c22 NJ.out.box; have x23 := pat_c23 NJ.out.box; have x24 := pat_c24 NJ.out.box; have y0 := pat_c0 NA.out.box; have y1 := pat_c1 NA.out.box; have y2 := pat_c2 NA.out.box; have y3 := pat_c3 NA.out.box; have y4 := pat_c4 NA.out.box; have y5 := pat_c5 NA.out.box; have y6 := pat_c6 NA.out.box; have y7 := pat_c7 NA.out.box; have y8 := pat_c8 NA.out.box; have y9 := pat_c9 NA.out.box; have y10 := pat_c10 NA.out.box; have y11 := pat_c11 NA.out.box; have z0 := pat_c0 NB.out.box; have z1 := pat_c1 NB.out.box; have z2 := pat_c2 NB.out.box; have z3 := pat_c3 NB.out.box; have z4 := pat_c4 NB.out.box; have z5 := pat_c5 NB.out.box; have z6 := pat_c6 NB.out.box; have z7 := pat_c7 NB.out.box; have z8 := pat_c8 NB.out.box; have z9 := pat_c9 NB.out.box; have z10 := pat_c10 NB.out.box; have z11 := pat_c11 NB.out.box)) | (have hz := M2.out; go_at_call 18; ((refine (samesub_calls MJ xb.pos LB xb.pos _ NJ.out.okn.r NB.out.okp.r).mono ?_); rw [hz]; clear hz; rintro e w1 ⟨rfl, hb⟩; have n_ := Aside0.mk (NA.out.step hb); clear NA; have NA := n_; clear n_; have n_ := Aside0.mk (NB.out.step hb); clear NB; have NB := n_; clear n_; have n_ := Aside0.mk (NJ.out.step hb); clear NJ; have NJ := n_; clear n_; have n_ := Aside0.mk (below_step BW.out hb); clear BW; have BW := n_; clear n_; clear hb M2 x0 x1 x2 x3 x4 x5 x6 x7 x8 x9 x10 x11 x12 x13 x14 x15 x16 x17 x18 x19 x20 x21 x22 x23 x24 y0 y1 y2 y3 y4 y5 y6 y7 y8 y9 y10 y11 z0 z1 z2 z3 z4 z5 z6 z7 z8 z9 z10 z11; have x0 := pat_c0 NJ.out.box; have x1 := pat_c1 NJ.out.box; have x2 := pat_c2 NJ.out.box; have x3 := pat_c3 NJ.out.box; have x4 := pat_c4 NJ.out.box; have x5 := pat_c5 NJ.out.box; have x6 := pat_c6 NJ.out.box; have x7 := pat_c7 NJ.out.box; have x8 := pat_c8 NJ.out.box; have x9 := pat_c9 NJ.out.box; have x10 := pat_c10 NJ.out.box; have x11 := pat_c11 NJ.out.box; have x12 := pat_c12 NJ.out.box; have x13 := pat_c13 NJ.out.box; have x14 := pat_c14 NJ.out.box; have x15 := pat_c15 NJ.out.box; have x16 := pat_c16 NJ.out.box; have x17 := pat_c17 NJ.out.box; have x18 := pat_c18 NJ.out.box; have x19 := pat_c19 NJ.out.box; have x20 := pat_c20 NJ.out.box; have x21 := pat_c21 NJ.out.box; have x22 := pat_c22 NJ.out.box; have x23 := pat_c23 NJ.out.box; have x24 := pat_c24 NJ.out.box; have y0 := pat_c0 NA.out.box; have y1 := pat_c1 NA.out.box; have y2 := pat_c2 NA.out.box; have y3 := pat_c3 NA.out.box; have y4 := pat_c4 NA.out.box; have y5 := pat_c5 NA.out.box; have y6 := pat_c6 NA.out.box; have y7 := pat_c7 NA.out.box; have y8 := pat_c8 NA.out.box; have y9 := pat_c9 NA.out.box; have y10 := pat_c10 NA.out.box; have y11 := pat_c11 NA.out.box; have z0 := pat_c0 NB.out.box; have z1 := pat_c1 NB.out.box; have z2 := pat_c2 NB.out.box; have z3 := pat_c3 NB.out.box; have z4 := pat_c4 NB.out.box; have z5 := pat_c5 NB.out.box; have z6 := pat_c6 NB.out.box; have z7 := pat_c7 NB.out.box; have z8 := pat_c8 NB.out.box; have z9 := pat_c9 NB.out.box; have z10 := pat_c10 NB.out.box; have z11 := pat_c11 NB.out.box)))
              go_ret
              exact ⟨rfl, BW.out⟩
end Go.Proofs.Ytacnjemndfmbhaa.Q
end
