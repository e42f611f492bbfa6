import Derived.StillTailTactics
import Derived.Test.YtacnjemndfmbhaaC12
namespace Go.Proofs.Ytacnjemndfmbhaa
open Go.RowKit
theorem aP58 {p : Prop} (h : p := by
    go_region_held3 (fun w' => w'.cell? ⟨g, 0, none⟩ = some (.string s) ∧ w'.cell? ⟨g, 1, none⟩ = some (.int .i64 i)) (first | exact ⟨HC.out.c0, HC.out.c1⟩) (first | (go_at_call 85; (with_reducible refine (parse_calls (s.extract p.toNat i.toNat) _ (Glob_below HG.out (by first | exact HC.out.below | exact HC.out.drew1.below | exact (HC.out.drewN _).below)) HP.out.2.2).mono ?_); rintro e w1 ⟨A, c, rfl, hr, hb⟩; have HR := aMk (row_in HW.out hr); have nc := aMk ((by first | exact HC.out | exact HC.out.drew1 | exact HC.out.drewN _ : CW w0 _ g m L s i h n).step hb); clear HC hb hr; have HC := nc; clear nc))
    go_wp2
    go_ret2
    exact ⟨A, rfl, HR.out, HC.out⟩) : p := h
theorem aP136 {p : Prop} (h : p := by have := HR.out; have := HP.out; omega) : p := h
theorem aP135 {p : Prop} (h : p := by first | exact HC.out | exact HC.out.drew1 | exact HC.out.drewN _) : p := h
theorem aP134 {p : Prop} (h : p := by have := HI.out; have := HP.out; omega) : p := h
theorem aP57 {p : Prop} (h : p := by
    go_wp2_with (go_at_call 27; (with_reducible refine (next_calls HC.out b ?s1 HP.out.2.2).mono ?_); (case s1 => have := HI.out; have := HP.out; omega); rw [HB.out, nextP_no HB.out]; rintro e w1 ⟨rfl, hc⟩; have nc := aMk hc; clear HC hc; have HC := nc; clear nc)
    go_ret
    exact ⟨ret_int HE.out.symm, by rw [HE.out, ← HI.out.1]; exact HC.out⟩) : p := h
theorem aP133 {p : Prop} (h : p := by rw [size_put]; exact hh.rz) : p := h
theorem aP132 {p : Prop} (h : p := by rw [size_put]; exact hh.mw) : p := h
theorem aP131 {p : Prop} (h : p := by simp [checkP, formB, k1, k2]) : p := h
theorem aP130 {p : Prop} (h : p := by first | exact HQ.out.below | exact HQ.out.drew1.below | exact (HQ.out.drewN _).below) : p := h
theorem aP55 {p : Prop} (h : p := by
    rcases Bool.eq_false_or_eq_true (x.pr == 0) with t1 | t1
    all_goals rcases Bool.eq_false_or_eq_true (decide (0 < x.se)) with t2 | t2
    all_goals rcases Bool.eq_false_or_eq_true (x.em == 0) with t3 | t3
    all_goals rcases Bool.eq_false_or_eq_true x.ep with t4 | t4
    all_goals
      rw [t1] at hp
      rw [t3] at he
      go_wp2
      go_meet
      case rel => exact ⟨by simp [oddB, t1, t2, t3, t4, hp, he], HQ⟩) : p := h
theorem aP56 {p : Prop} (h : p := by
    go_enter Try.func23, Try.ntmps23
    go_wp2_with (first | (go_at_call 33; (with_reducible refine (check_calls L.A L.c x.p _ (Kd.C_below HR.out.r.p HQ.out.below) HR.out.r.pc HR.out.p).mono ?_); rintro e w1 ⟨rfl, hb⟩; have nq := aMk (HQ.out.step hb); clear HQ hb; have HQ := nq; clear nq; obtain ⟨c0, c1, c2, c3, c4, c5, c6, c7, c8, c9, c10, c11⟩ := sub_at HQ.out.box) | (go_at_call 33; (with_reducible refine (check_calls L.B L.d x.s _ (Kd.C_below HR.out.r.s HQ.out.below) HR.out.r.sc HR.out.s).mono ?_); rintro e w1 ⟨rfl, hb⟩; have nq := aMk (HQ.out.step hb); clear HQ hb; have HQ := nq; clear nq; obtain ⟨c0, c1, c2, c3, c4, c5, c6, c7, c8, c9, c10, c11⟩ := sub_at HQ.out.box) | (go_at_call 34; (with_reducible refine (in_calls _ _ _ _).mono ?_); rintro e w1 ⟨rfl, rfl⟩))
    go_ret
    exact ⟨ret_bool HE.out.symm, HQ.out.below⟩) : p := h
theorem aP129 {p : Prop} (h : p := by (with_reducible repeat (first | refine blk_drewN ?_ _ | refine blk_drew ?_)); exact HK.out) : p := h
theorem aP128 {p : Prop} (h : p := by repeat (first | (with_reducible first | exact HX.out | apply pw_below_drewN | apply below_drew1) | exact HX.out)) : p := h
theorem aP127 {p : Prop} (h : p := by have := HS.out.2; have := HL.out; omega) : p := h
theorem aP126 {p : Prop} (h : p := by rw [HS.out.1]; exact IntWalk.i64_in _ (by have := HS.out.2; have := HL.out; omega)) : p := h
theorem aP125 {p : Prop} (h : p := by unfold mx; split <;> omega) : p := h
end Go.Proofs.Ytacnjemndfmbhaa
section
namespace Go.Proofs.Ytacnjemndfmbhaa.Q
open Go.RowKit Go.Proofs.Ytacnjemndfmbhaa.A Go.Proofs.YtacnjemndfmbhaaW.PrintWords Go.Proofs.YtacnjemndfmbhaaW.PrintLast Go.Proofs.YtacnjemndfmbhaaW.PrintMore
set_option linter.unusedVariables false
theorem raw_step (im : Int) (hi lo : Nat) (h : lo ≤ hi) : rawD im ((hi : Int) + 1) lo = [if im < (hi : Int) + 1 then 35 else 48] ++ rawD im hi lo := by
 unfold rawD
 by_cases c : im < (hi : Int) + 1
 ·rw [if_pos c]
  have e1 : ((hi : Int) + 1 - mx lo im).toNat = ((hi : Int) - mx lo im).toNat + 1 := aP125
  have e2 : mn ((hi : Int) + 1) im = mn (hi : Int) im := by unfold mn; (repeat' split) <;> omega
  rw [e1, e2, List.replicate_succ]; rfl
 ·rw [if_neg c]
  have e1 : ((hi : Int) + 1 - mx lo im).toNat = 0 := aP125
  have e0 : ((hi : Int) - mx lo im).toNat = 0 := aP125
  have e2 : (mn ((hi : Int) + 1) im - lo).toNat = (mn (hi : Int) im - lo).toNat + 1 := by unfold mn; (repeat' split) <;> omega
  rw [e1, e0, e2, List.replicate_succ]; rfl
theorem raw_none (im : Int) (lo : Nat) (h : 0 ≤ im) : rawD im lo lo = [] := by
 unfold rawD
 have e1 : ((lo : Int) - mx lo im).toNat = 0 := aP125
 have e2 : (mn (lo : Int) im - lo).toNat = 0 := by unfold mn; split <;> omega
 rw [e1, e2]; rfl
theorem down_seg (x : Sb) (n : Int) (h0 : 0 ≤ x.im) (lo : Nat) : ∀ d : Nat, (∀ k : Int, lo < k → k ≤ lo + d → commaB x n k = false) → dDown x n (lo + d) = rawD x.im ((lo + d : Nat) : Int) lo ++ dDown x n lo
 | 0, _ => by rw [Nat.add_zero, raw_none _ _ h0]; rfl
 | d + 1, h => by
  have ih := down_seg x n h0 lo d (fun k h1 h2 => h k h1 (by omega))
  have hc := h (((lo + d : Nat) : Int) + 1) (by omega) (by omega)
  show dstep x n (((lo + d : Nat) : Int) + 1) ++ dDown x n (lo + d) = _
  have e : ((lo + (d + 1) : Nat) : Int) = ((lo + d : Nat) : Int) + 1 := by omega
  rw [e, raw_step _ _ _ (by omega), ih]
  unfold dstep
  rw [hc]
  simp
theorem down_comma (x : Sb) (n : Int) (h0 : 0 ≤ x.im) (lo d : Nat) (hc : commaB x n ((lo + d : Nat) + 1) = true) (h : ∀ k : Int, lo < k → k ≤ lo + d → commaB x n k = false) : dDown x n (lo + d + 1) = [44] ++ rawD x.im ((lo + d + 1 : Nat) : Int) lo ++ dDown x n lo := by
 have ih := down_seg x n h0 lo d h
 show dstep x n (((lo + d : Nat) : Int) + 1) ++ dDown x n (lo + d) = _
 have e : ((lo + d + 1 : Nat) : Int) = ((lo + d : Nat) : Int) + 1 := by omega
 rw [e, raw_step _ _ _ (by omega), ih]
 unfold dstep
 rw [hc]
 simp
theorem comma_no {x : Sb} {n k : Int} (h : ¬ (0 < x.pr ∧ k < n ∧ (k = x.pr ∨ (0 < x.se ∧ k = x.pr + x.se)))) : commaB x n k = false := by
 rw [Bool.eq_false_iff]
 intro c
 apply h
 simpa [commaB] using c
theorem comma_yes {x : Sb} {n k : Int} (h : 0 < x.pr ∧ k < n ∧ (k = x.pr ∨ (0 < x.se ∧ k = x.pr + x.se))) : commaB x n k = true := by
 simpa [commaB] using h
theorem down_places (x : Sb) (n : Int) (hf : Fine x) (hn : leastS x ≤ n) : dDown x n n.toNat = placesL x n := by
 obtain ⟨i0, i1, _, _, _, _, p0, p1, s0, s1, _, _, ps⟩ := hf
 have hl : 1 ≤ n ∧ (0 < x.pr → x.pr + x.se + 1 ≤ n) := by unfold leastS mx at hn; split at hn <;> split at hn <;> (try split at hn) <;> omega
 obtain ⟨N, rfl⟩ : ∃ N : Nat, n = N := ⟨n.toNat, by omega⟩
 obtain ⟨P, hP⟩ : ∃ P : Nat, x.pr = P := ⟨x.pr.toNat, by omega⟩
 obtain ⟨S, hS⟩ : ∃ S : Nat, x.se = S := ⟨x.se.toNat, by omega⟩
 rw [Int.toNat_natCast]
 unfold placesL
 by_cases hp : 0 < x.pr
 ·have hn1 := hl.2 hp
  have hlow : dDown x N P = [44] ++ rawD x.im x.pr 0 := by
   have := down_comma x N i0 0 (P - 1) (comma_yes ⟨hp, by omega, .inl (by omega)⟩) (fun k h1 h2 => comma_no (by omega))
   rw [show 0 + (P - 1) + 1 = P by omega, show dDown x N 0 = [] from rfl, List.append_nil] at this
   rw [this, hP]; rfl
  rw [if_pos hp]
  by_cases hs : 0 < x.se
  ·rw [if_pos hs]
   have hmid : dDown x N (P + S) = [44] ++ rawD x.im (x.pr + x.se) x.pr ++ dDown x N P := by
    have := down_comma x N i0 P (S - 1) (comma_yes ⟨hp, by omega, .inr ⟨hs, by omega⟩⟩) (fun k h1 h2 => comma_no (by omega))
    rw [show P + (S - 1) + 1 = P + S by omega] at this
    rw [this, hP, hS]; rfl
   have htop := down_seg x N i0 (P + S) (N - (P + S)) (fun k h1 h2 => comma_no (by omega))
   rw [show P + S + (N - (P + S)) = N by omega] at htop
   rw [htop, hmid, hlow, hP, hS]
   simp [Int.natCast_add]
  ·rw [if_neg hs]
   have htop := down_seg x N i0 P (N - P) (fun k h1 h2 => comma_no (by omega))
   rw [show P + (N - P) = N by omega] at htop
   rw [htop, hlow, hP]
   simp
 ·rw [if_neg hp]
  have htop := down_seg x N i0 0 N (fun k h1 h2 => comma_no (by omega))
  rw [Nat.zero_add, show dDown x N 0 = [] from rfl, List.append_nil] at htop
  rw [htop]; rfl
theorem digits_calls (L : Sl) (x : Sb) (n : Int) (w : World) (hf : Fine x) (hn : leastS x ≤ n) (hn2 : n ≤ 200) : Calls Try.prog 54 #[subV L x, .int .i64 n] w fun e w' => e = .returned (.string (digS x n)) ∧ Below w.heap.size w w' := by
 have := digits_walk L x n w hf hn hn2
 rw [down_places x n hf hn] at this
 exact this
theorem dig_size (x : Sb) (n : Int) (hf : Fine x) (hn : leastS x ≤ n) (hn2 : n ≤ 200) : (digS x n).size = (digL x n).length ∧ (digL x n).length ≤ 300 := by
 refine ⟨by show (digL x n).toArray.size = _; simp, ?_⟩
 obtain ⟨i0, i1, a1, a2, a3, a4, p0, p1, s0, s1, e0, e1, ps⟩ := hf
 have hl : 1 ≤ n ∧ (0 < x.pr → x.pr + x.se + 1 ≤ n) := by unfold leastS mx at hn; split at hn <;> split at hn <;> (try split at hn) <;> omega
 have h1 : (placesL x n).length ≤ 202 := by
  unfold placesL
  split
  ·split
   ·have r1 := raw_len x.im n (x.pr + x.se) i0 (by omega) (by omega)
    have r2 := raw_len x.im (x.pr + x.se) x.pr i0 (by omega) (by omega)
    have r3 := raw_len x.im x.pr 0 i0 (by omega) (by omega)
    simp only [List.length_append, List.length_cons, List.length_nil]
    omega
   ·have r1 := raw_len x.im n x.pr i0 (by omega) (by omega)
    have r3 := raw_len x.im x.pr 0 i0 (by omega) (by omega)
    simp only [List.length_append, List.length_cons, List.length_nil]
    omega
  ·have r1 := raw_len x.im n 0 i0 (by omega) (by omega)
   omega
 have h2 : (fracL x).length ≤ 33 := by unfold fracL; split <;> simp <;> omega
 have h3 : (expL x).length ≤ 11 := by unfold expL; split <;> (try split) <;> simp <;> omega
 unfold digL
 simp only [List.length_append]
 omega
end Go.Proofs.Ytacnjemndfmbhaa.Q
end
section
namespace Go.Proofs.Ytacnjemndfmbhaa.Q
open Go.RowKit Go.Proofs.Ytacnjemndfmbhaa.A Go.Proofs.YtacnjemndfmbhaaW.PrintWords Go.Proofs.YtacnjemndfmbhaaW.PrintLast Go.Proofs.YtacnjemndfmbhaaW.PrintMore
attribute [local go_sem] max2_int min2_int max_two min_two max_three min_three max_four min_four
set_option linter.unusedVariables false
set_option linter.unusedSimpArgs false
@[reducible] def subAt (w : World) (g : Nat) (L : Sl) (x : Sb) : Prop := w.cell? ⟨g, 0, none⟩ = some (.slice L.A x.p.length L.c) ∧ w.cell? ⟨g, 1, none⟩ = some (.slice L.B x.s.length L.d) ∧ w.cell? ⟨g, 2, none⟩ = some (.int .i64 x.im) ∧ w.cell? ⟨g, 3, none⟩ = some (.int .i64 x.fn) ∧ w.cell? ⟨g, 4, none⟩ = some (.int .i64 x.fx) ∧ w.cell? ⟨g, 5, none⟩ = some (.int .i64 x.pr) ∧ w.cell? ⟨g, 6, none⟩ = some (.int .i64 x.se) ∧ w.cell? ⟨g, 7, none⟩ = some (.int .i64 x.em) ∧ w.cell? ⟨g, 8, none⟩ = some (.bool x.ep) ∧ w.cell? ⟨g, 9, none⟩ = some (.string x.pad) ∧ w.cell? ⟨g, 10, none⟩ = some (.int .i64 x.pa) ∧ w.cell? ⟨g, 11, none⟩ = some (.int .i64 x.wd)
theorem sub_at {w : World} {g : Nat} {L : Sl} {x : Sb} (h : w.heap[g]? = some (.cells (subC L x) 24 (0, 0))) : subAt w g L x :=
 ⟨(blk_cell h 0).trans rfl, (blk_cell h 1).trans rfl, (blk_cell h 2).trans rfl, (blk_cell h 3).trans rfl, (blk_cell h 4).trans rfl, (blk_cell h 5).trans rfl, (blk_cell h 6).trans rfl, (blk_cell h 7).trans rfl, (blk_cell h 8).trans rfl, (blk_cell h 9).trans rfl, (blk_cell h 10).trans rfl, (blk_cell h 11).trans rfl⟩
set_option maxHeartbeats 8000000 in
set_option maxRecDepth 100000 in
theorem length_calls (L : Sl) (x : Sb) (n : Int) (w : World) (hr : SubR w L x) (h1 : TokOk x.p) (h2 : TokOk x.s) (k1 : checkS x.p = 0) (k2 : checkS x.s = 0) (hf : Fine x) (hn : leastS x ≤ n) (hn2 : n ≤ 200) :
  Calls Try.prog 36 #[subV L x, .int .i64 n] w fun e w' => e = .returned (.int .i64 (lengthS x n)) ∧ Below w.heap.size w w' := by
 have HR := aMk hr
 have H1 := aMk (And.intro h1 k1)
 have H2 := aMk (And.intro h2 k2)
 have HF := aMk hf
 have HN := aMk (And.intro hn hn2)
 have HS := aMk (dig_size x n hf hn hn2)
 have HL := aMk (And.intro (runesT_range x.p k1 h1) (runesT_range x.s k2 h2))
 have hw1 : IntKind.i64.wrap (runesT x.p + ((digS x n).size : Int)) = runesT x.p + ((digL x n).length : Int) := aP126
 have hw2 : IntKind.i64.wrap (runesT x.p + ((digL x n).length : Int) + runesT x.s) = lengthS x n := IntWalk.i64_in _ (aP127)
 have HB := aMk (Below.refl w.heap.size w)
 clear hr h1 h2 k1 k2 hf hn hn2
 have HK := aMk (heap_alloc_new w (.cells (subC L x) 24))
 have HX := aMk (below_alloc (Below.refl w.heap.size w) (.cells (subC L x) 24))
 go_enter Try.func36, Try.ntmps36
 go_wp2_with fail
 go_region_held3 (fun w' => w'.cell? ⟨w.heap.size, 0, none⟩ = some (.slice L.A x.p.length L.c) ∧ w'.cell? ⟨w.heap.size, 1, none⟩ = some (.slice L.B x.s.length L.d) ∧ w'.cell? ⟨w.heap.size, 2, none⟩ = some (.int .i64 x.im) ∧ w'.cell? ⟨w.heap.size, 3, none⟩ = some (.int .i64 x.fn) ∧ w'.cell? ⟨w.heap.size, 4, none⟩ = some (.int .i64 x.fx) ∧ w'.cell? ⟨w.heap.size, 5, none⟩ = some (.int .i64 x.pr) ∧ w'.cell? ⟨w.heap.size, 6, none⟩ = some (.int .i64 x.se) ∧ w'.cell? ⟨w.heap.size, 7, none⟩ = some (.int .i64 x.em) ∧ w'.cell? ⟨w.heap.size, 8, none⟩ = some (.bool x.ep) ∧ w'.cell? ⟨w.heap.size, 9, none⟩ = some (.string x.pad) ∧ w'.cell? ⟨w.heap.size, 10, none⟩ = some (.int .i64 x.pa) ∧ w'.cell? ⟨w.heap.size, 11, none⟩ = some (.int .i64 x.wd))
  (first | exact sub_at HK.out)
  (first
   | (go_at_call 46; (with_reducible refine (truns_calls L.A L.c x.p _ ?a1 HR.out.pc H1.out.1 H1.out.2).mono ?_); (case a1 => exact Kd.C_below HR.out.p (aP128)); rintro e w1 ⟨rfl, hb⟩; have nk := aMk (blk_below (aP129) hb); have nx := aMk (below_step (aP128) hb); clear HK HX hb; have HK := nk; have HX := nx; clear nk nx)
   | (go_at_call 46; (with_reducible refine (truns_calls L.B L.d x.s _ ?a1 HR.out.sc H2.out.1 H2.out.2).mono ?_); (case a1 => exact Kd.C_below HR.out.s (aP128)); rintro e w1 ⟨rfl, hb⟩; have nk := aMk (blk_below (aP129) hb); have nx := aMk (below_step (aP128) hb); clear HK HX hb; have HK := nk; have HX := nx; clear nk nx)
   | (go_at_call 54; (with_reducible refine (digits_calls L x n _ HF.out HN.out.1 HN.out.2).mono ?_); rintro e w1 ⟨rfl, hb⟩; have nk := aMk (blk_below (aP129) hb); have nx := aMk (below_step (aP128) hb); clear HK HX hb; have HK := nk; have HX := nx; clear nk nx))
 go_wp2
 go_ret
 exact ⟨rfl, HX.out⟩
set_option maxHeartbeats 8000000 in
set_option maxRecDepth 100000 in
theorem least_calls (L : Sl) (x : Sb) (w : World) (hf : Fine x) : Calls Try.prog 37 #[subV L x] w fun e w' => e = .returned (.int .i64 (leastS x)) ∧ Below w.heap.size w w' := by
 obtain ⟨i0, i1, _, _, _, _, p0, p1, s0, s1, _, _, _⟩ := hf
 by_cases h1 : 1 < x.im
 all_goals by_cases h2 : 0 < x.pr
 all_goals by_cases h3 : 1 < x.pr + x.se + 1
 all_goals by_cases h4 : x.im < x.pr + x.se + 1
 all_goals first | omega | skip
 all_goals
  go_enter Try.func37, Try.ntmps37
  go_wp2
  go_ret
  exact ⟨ret_int (aP123), below_alloc (Below.refl _ _) _⟩
set_option maxHeartbeats 8000000 in
set_option maxRecDepth 100000 in
theorem rleast_calls (L : Sl) (x : Sb) (w : World) (hf : Fine x) : Calls Try.prog 59 #[subV L x] w fun e w' => e = .returned (.int .i64 (leastS x)) ∧ Below w.heap.size w w' := by
 obtain ⟨i0, i1, _, _, _, _, p0, p1, s0, s1, _, _, _⟩ := hf
 by_cases h1 : x.im = 0
 all_goals by_cases h2 : 0 < x.pr
 all_goals by_cases h3 : 1 < x.pr + x.se + 1
 all_goals by_cases h4 : x.im < x.pr + x.se + 1
 all_goals first | omega | skip
 all_goals
  have HE := aMk (show leastS x = if 0 < x.pr then (if x.im < x.pr + x.se + 1 then x.pr + x.se + 1 else x.im) else (if x.im = 0 then 1 else x.im) from aP123)
  first | rw [if_pos h2] at HE | rw [if_neg h2] at HE
  first | rw [if_pos h4] at HE | rw [if_neg h4] at HE | rw [if_pos h1] at HE | rw [if_neg h1] at HE
  first | (have d0 : (x.im == 0) = true := beT h1) | (have d0 : (x.im == 0) = false := beF h1)
  clear h1
  go_enter Try.func59, Try.ntmps59
  go_wp2
  go_ret
  exact ⟨by rw [HE.out]; first | rfl | exact ret_int (by omega), below_alloc (Below.refl _ _) _⟩
end Go.Proofs.Ytacnjemndfmbhaa.Q
end
section
namespace Go.Proofs.Ytacnjemndfmbhaa.Q
open Go.RowKit Go.Proofs.Ytacnjemndfmbhaa.A Go.Proofs.YtacnjemndfmbhaaW.PrintWords Go.Proofs.YtacnjemndfmbhaaW.PrintLast Go.Proofs.YtacnjemndfmbhaaW.PrintMore
set_option linter.unusedVariables false
set_option linter.unusedSimpArgs false
structure HW (w0 w : World) (L : Sl) (x : Sb) : Prop where
 box : w.heap[w0.heap.size]? = some (.cells (subC L x) 24 (0, 0))
 below : Below w0.heap.size w0 w
theorem HW.start (w : World) (L : Sl) (x : Sb) : HW w (w.alloc (.cells (subC L x) 24)) L x := ⟨heap_alloc_new w _, below_alloc (Below.refl _ _) _⟩
theorem HW.step {w0 w w1 : World} {L : Sl} {x : Sb} (h : HW w0 w L x) (hb : Below w.heap.size w w1) : HW w0 w1 L x := ⟨blk_below h.box hb, below_step h.below hb⟩
theorem HW.drew1 {w0 w : World} {L : Sl} {x : Sb} (h : HW w0 w L x) : HW w0 w.drew L x := h.step (below_drew1 (Below.refl _ _))
theorem HW.drewN {w0 w : World} {L : Sl} {x : Sb} (h : HW w0 w L x) (n : Nat) : HW w0 (w.drewN n) L x := h.step (pw_below_drewN (Below.refl _ _) n)
structure SubOk (w : World) (L : Sl) (x : Sb) : Prop where
 r : SubR w L x
 p : TokOk x.p
 s : TokOk x.s
 pad : x.pad.size ≤ 281474976710656
theorem SubOk.below {w w1 : World} {L : Sl} {x : Sb} (h : SubOk w L x) (hb : Below w.heap.size w w1) : SubOk w1 L x := ⟨h.r.below hb, h.p, h.s, h.pad⟩
theorem fine_of {x : Sb} (h : fineB x = true) (ho : oddB x = false) : Fine x := by
 simp [fineB, inB] at h
 simp [oddB] at ho
 obtain ⟨h1, h2, h3, h4, h5, h6⟩ := h
 exact ⟨h1.1, h1.2, h2.1, h2.2, h3.1, h3.2, h4.1, h4.2, h5.1, h5.2, h6.1, h6.2, fun e => by have := ho.1 e; omega⟩
theorem neq_of {a : Int} {b : Bool} (h : (a == 0) = b) : (a != 0) = !b := by rw [← h]; rfl
theorem pos_of {a c : Int} (h : inB a 0 c = true) : decide (0 < a) = !(a == 0) := by
 simp [inB] at h
 by_cases e : a = 0
 ·subst e; rfl
 ·rw [dTr (by omega), beF e]; rfl
theorem least_le {x : Sb} (h : Fine x) : leastS x ≤ 200 := by
 obtain ⟨i0, i1, _, _, _, _, p0, p1, s0, s1, _, _, _⟩ := h
 unfold leastS mx
 (repeat' split) <;> omega
set_option maxHeartbeats 16000000 in
set_option maxRecDepth 100000 in
theorem half_calls (L : Sl) (x : Sb) (w : World) (hr : SubOk w L x) : Calls Try.prog 23 #[subV L x] w fun e w' => e = .returned (.bool (halfS x)) ∧ Below w.heap.size w w' := by
 have HR := aMk hr
 have HQ := aMk (HW.start w L x)
 clear hr
 rcases Bool.eq_false_or_eq_true (checkS x.p == 0) with k1 | k1
 case inr =>
  have k1' := neq_of k1
  have HE := aMk (show halfS x = false by simp [halfS, k1])
  go_enter Try.func23, Try.ntmps23
  go_wp2_with (go_at_call 33; (with_reducible refine (check_calls L.A L.c x.p _ (Kd.C_below HR.out.r.p HQ.out.below) HR.out.r.pc HR.out.p).mono ?_); rintro e w1 ⟨rfl, hb⟩; have nq := aMk (HQ.out.step hb); clear HQ hb; have HQ := nq; clear nq; obtain ⟨c0, c1, c2, c3, c4, c5, c6, c7, c8, c9, c10, c11⟩ := sub_at HQ.out.box)
  go_ret
  exact ⟨ret_bool HE.out.symm, HQ.out.below⟩
 have k1' := neq_of k1
 rcases Bool.eq_false_or_eq_true (checkS x.s == 0) with k2 | k2
 case inr =>
  have k2' := neq_of k2
  have HE := aMk (show halfS x = false by simp [halfS, k2])
  go_enter Try.func23, Try.ntmps23
  go_wp2_with (first | (go_at_call 33; (with_reducible refine (check_calls L.A L.c x.p _ (Kd.C_below HR.out.r.p HQ.out.below) HR.out.r.pc HR.out.p).mono ?_); rintro e w1 ⟨rfl, hb⟩; have nq := aMk (HQ.out.step hb); clear HQ hb; have HQ := nq; clear nq; obtain ⟨c0, c1, c2, c3, c4, c5, c6, c7, c8, c9, c10, c11⟩ := sub_at HQ.out.box) | (go_at_call 33; (with_reducible refine (check_calls L.B L.d x.s _ (Kd.C_below HR.out.r.s HQ.out.below) HR.out.r.sc HR.out.s).mono ?_); rintro e w1 ⟨rfl, hb⟩; have nq := aMk (HQ.out.step hb); clear HQ hb; have HQ := nq; clear nq; obtain ⟨c0, c1, c2, c3, c4, c5, c6, c7, c8, c9, c10, c11⟩ := sub_at HQ.out.box))
  go_ret
  exact ⟨ret_bool HE.out.symm, HQ.out.below⟩
 have k2' := neq_of k2
 rcases Bool.eq_false_or_eq_true (inB x.im 0 32) with f0 | f0
 case inr =>
  have HE := aMk (show halfS x = false by simp [halfS, fineB, f0])
  exact aP56
 rcases Bool.eq_false_or_eq_true (inB x.fx 0 32) with f1 | f1
 case inr =>
  have HE := aMk (show halfS x = false by simp [halfS, fineB, f1])
  exact aP56
 rcases Bool.eq_false_or_eq_true (inB x.fn 0 x.fx) with f2 | f2
 case inr =>
  have HE := aMk (show halfS x = false by simp [halfS, fineB, f2])
  exact aP56
 rcases Bool.eq_false_or_eq_true (inB x.pr 0 16) with f3 | f3
 case inr =>
  have HE := aMk (show halfS x = false by simp [halfS, fineB, f3])
  exact aP56
 rcases Bool.eq_false_or_eq_true (inB x.se 0 16) with f4 | f4
 case inr =>
  have HE := aMk (show halfS x = false by simp [halfS, fineB, f4])
  exact aP56
 rcases Bool.eq_false_or_eq_true (inB x.em 0 9) with f5 | f5
 case inr =>
  have HE := aMk (show halfS x = false by simp [halfS, fineB, f5])
  exact aP56
 have HF := aMk (show fineB x = true by simp [fineB, *])
 have HE := aMk (show halfS x = (!oddB x && padB x) by simp [halfS, HF.out, k1, k2])
 go_enter Try.func23, Try.ntmps23
 go_upto_region 5 with (first | (go_at_call 33; (with_reducible refine (check_calls L.A L.c x.p _ (Kd.C_below HR.out.r.p HQ.out.below) HR.out.r.pc HR.out.p).mono ?_); rintro e w1 ⟨rfl, hb⟩; have nq := aMk (HQ.out.step hb); clear HQ hb; have HQ := nq; clear nq; obtain ⟨c0, c1, c2, c3, c4, c5, c6, c7, c8, c9, c10, c11⟩ := sub_at HQ.out.box) | (go_at_call 33; (with_reducible refine (check_calls L.B L.d x.s _ (Kd.C_below HR.out.r.s HQ.out.below) HR.out.r.sc HR.out.s).mono ?_); rintro e w1 ⟨rfl, hb⟩; have nq := aMk (HQ.out.step hb); clear HQ hb; have HQ := nq; clear nq; obtain ⟨c0, c1, c2, c3, c4, c5, c6, c7, c8, c9, c10, c11⟩ := sub_at HQ.out.box) | (go_at_call 34; (with_reducible refine (in_calls _ _ _ _).mono ?_); rintro e w1 ⟨rfl, rfl⟩))
 go_cut [75] (fun v wc => v = .bool (oddB x) ∧ Aside0 (HW w wc L x))
 case first =>
  have hp := pos_of f3
  have he := pos_of f5
  clear f0 f1 f2 f3 f4 f5 k1 k1' k2 k2'
  exact aP55
 case rest =>
  obtain ⟨rfl, HQ'⟩ := hcut
  clear HQ c0 c1 c2 c3 c4 c5 c6 c7 c8 c9 c10 c11
  have HQ := HQ'
  clear HQ'
  obtain ⟨c0, c1, c2, c3, c4, c5, c6, c7, c8, c9, c10, c11⟩ := sub_at HQ.out.box
  have HK := aMk (And.intro (beq_iff_eq.mp k1) (beq_iff_eq.mp k2))
  clear f0 f1 f2 f3 f4 f5 k1 k1' k2 k2'
  rcases Bool.eq_false_or_eq_true (oddB x) with o1 | o1
  case inl =>
   rw [o1]
   go_wp2
   go_ret
   exact ⟨ret_bool (by rw [HE.out, o1]; rfl), HQ.out.below⟩
  rw [o1]
  have HFI := aMk (fine_of HF.out o1)
  have HE2 := aMk (show halfS x = padB x by rw [HE.out, o1]; rfl)
  have HLE := aMk (least_le HFI.out)
  clear HE
  rcases Bool.eq_false_or_eq_true x.pad.toList.isEmpty with p1 | p1
  case inl =>
   have HP := aMk (show padB x = (x.pa == 0 && x.wd == 0) by unfold padB; rw [if_pos p1])
   rcases Bool.eq_false_or_eq_true (x.pa == 0) with p2 | p2
   all_goals
    go_wp2
    go_ret
    exact ⟨ret_bool (by rw [HE2.out, HP.out, p2]; simp), HQ.out.below⟩
  have HP := aMk (show padB x = (runesS x.pad == 1 && (inB x.pa 0 3 && (!edgeB x && inB x.wd (lengthS x (leastS x)) 99))) by unfold padB; rw [if_neg (by rw [p1]; decide)])
  rcases Bool.eq_false_or_eq_true (runesS x.pad == 1) with p2 | p2
  case inr =>
   have p2' : (runesS x.pad != 1) = true := by rw [bne, p2]; rfl
   go_wp2_with (first | (go_at_call 35; (with_reducible refine (runes_calls x.pad _ HR.out.pad).mono ?_); rintro e w1 ⟨rfl, hb⟩; have nq := aMk (HQ.out.step hb); clear HQ hb; have HQ := nq; clear nq; obtain ⟨c0, c1, c2, c3, c4, c5, c6, c7, c8, c9, c10, c11⟩ := sub_at HQ.out.box))
   go_ret
   exact ⟨ret_bool (by rw [HE2.out, HP.out, p2]; rfl), HQ.out.below⟩
  have p2' : (runesS x.pad != 1) = false := by rw [bne, p2]; rfl
  rcases Bool.eq_false_or_eq_true (inB x.pa 0 3) with p3 | p3
  case inr =>
   go_wp2_with (first | (go_at_call 35; (with_reducible refine (runes_calls x.pad _ HR.out.pad).mono ?_); rintro e w1 ⟨rfl, hb⟩; have nq := aMk (HQ.out.step hb); clear HQ hb; have HQ := nq; clear nq; obtain ⟨c0, c1, c2, c3, c4, c5, c6, c7, c8, c9, c10, c11⟩ := sub_at HQ.out.box) | (go_at_call 34; (with_reducible refine (in_calls _ _ _ _).mono ?_); rintro e w1 ⟨rfl, rfl⟩))
   go_ret
   exact ⟨ret_bool (by rw [HE2.out, HP.out, p2, p3]; rfl), HQ.out.below⟩
  have HE3 := aMk (show halfS x = (!edgeB x && inB x.wd (lengthS x (leastS x)) 99) by rw [HE2.out, HP.out, p2, p3]; rfl)
  clear HE2 HP
  go_upto_region 11 with (first | (go_at_call 35; (with_reducible refine (runes_calls x.pad _ HR.out.pad).mono ?_); rintro e w1 ⟨rfl, hb⟩; have nq := aMk (HQ.out.step hb); clear HQ hb; have HQ := nq; clear nq; obtain ⟨c0, c1, c2, c3, c4, c5, c6, c7, c8, c9, c10, c11⟩ := sub_at HQ.out.box) | (go_at_call 34; (with_reducible refine (in_calls _ _ _ _).mono ?_); rintro e w1 ⟨rfl, rfl⟩))
  go_cut [116] (fun v wc => v = .bool (edgeB x) ∧ Aside0 (HW w wc L x))
  case first =>
   have e1 := int_len x.p.length
   have e2 := int_len x.s.length
   rcases Bool.eq_false_or_eq_true (x.pa == 1) with t1 | t1
   all_goals rcases Bool.eq_false_or_eq_true (x.p.length == 0) with t2 | t2
   all_goals rcases Bool.eq_false_or_eq_true (x.pa == 3) with t3 | t3
   all_goals rcases Bool.eq_false_or_eq_true (x.s.length == 0) with t4 | t4
   all_goals
    go_wp2
    go_meet
    case rel => exact ⟨by simp [edgeB, t1, t2, t3, t4], HQ⟩
  case rest =>
   obtain ⟨rfl, HQ'⟩ := hcut
   clear HQ c0 c1 c2 c3 c4 c5 c6 c7 c8 c9 c10 c11
   have HQ := HQ'
   clear HQ'
   rcases Bool.eq_false_or_eq_true (edgeB x) with o2 | o2
   case inl =>
    rw [o2]
    go_wp2
    go_ret
    exact ⟨ret_bool (by rw [HE3.out, o2]; rfl), HQ.out.below⟩
   rw [o2]
   go_wp2_with fail
   go_region_held3 (fun w' => w'.cell? ⟨w.heap.size, 0, none⟩ = some (.slice L.A x.p.length L.c) ∧ w'.cell? ⟨w.heap.size, 1, none⟩ = some (.slice L.B x.s.length L.d) ∧ w'.cell? ⟨w.heap.size, 2, none⟩ = some (.int .i64 x.im) ∧ w'.cell? ⟨w.heap.size, 3, none⟩ = some (.int .i64 x.fn) ∧ w'.cell? ⟨w.heap.size, 4, none⟩ = some (.int .i64 x.fx) ∧ w'.cell? ⟨w.heap.size, 5, none⟩ = some (.int .i64 x.pr) ∧ w'.cell? ⟨w.heap.size, 6, none⟩ = some (.int .i64 x.se) ∧ w'.cell? ⟨w.heap.size, 7, none⟩ = some (.int .i64 x.em) ∧ w'.cell? ⟨w.heap.size, 8, none⟩ = some (.bool x.ep) ∧ w'.cell? ⟨w.heap.size, 9, none⟩ = some (.string x.pad) ∧ w'.cell? ⟨w.heap.size, 10, none⟩ = some (.int .i64 x.pa) ∧ w'.cell? ⟨w.heap.size, 11, none⟩ = some (.int .i64 x.wd))
    (first | exact sub_at HQ.out.box)
    (first | (go_at_call 37; (with_reducible refine (least_calls L x _ HFI.out).mono ?_); rintro e w1 ⟨rfl, hb⟩; have nq := aMk ((aP124 : HW w _ L x).step hb); clear HQ hb; have HQ := nq; clear nq) | (go_at_call 36; (with_reducible refine (length_calls L x _ _ (HR.out.r.below (aP130)) HR.out.p HR.out.s HK.out.1 HK.out.2 HFI.out (Int.le_refl _) HLE.out).mono ?_); rintro e w1 ⟨rfl, hb⟩; have nq := aMk ((aP124 : HW w _ L x).step hb); clear HQ hb; have HQ := nq; clear nq) | (go_at_call 34; (with_reducible refine (in_calls _ _ _ _).mono ?_); rintro e w1 ⟨rfl, rfl⟩))
   go_wp2
   go_ret
   exact ⟨ret_bool (by rw [HE3.out, o2]; rfl), HQ.out.below⟩
structure Good (x : Sb) : Prop where
 cp : checkS x.p = 0
 cs : checkS x.s = 0
 fine : Fine x
 pa0 : 0 ≤ x.pa
 pa1 : x.pa ≤ 3
 wide0 : leastS x ≤ wideS x
 wide1 : wideS x ≤ 200
 len0 : 0 ≤ lengthS x (leastS x)
 len1 : x.pad.toList.isEmpty = false → lengthS x (leastS x) ≤ x.wd ∧ x.wd ≤ 99 ∧ runesS x.pad = 1 ∧ edgeB x = false
 bare : x.pad.toList.isEmpty = true → x.pa = 0 ∧ x.wd = 0
theorem good_of {x : Sb} (h1 : TokOk x.p) (h2 : TokOk x.s) (h : halfS x = true) : Good x := by
 unfold halfS at h
 simp only [Bool.and_eq_true, beq_iff_eq, Bool.not_eq_true'] at h
 obtain ⟨k1, k2, hf, ho, hp⟩ := h
 have hF := fine_of hf ho
 have r1 := runesT_range x.p k1 h1
 have r2 := runesT_range x.s k2 h2
 have hl := least_le hF
 have l0 : 0 ≤ lengthS x (leastS x) := by unfold lengthS; omega
 have l1 : leastS x ≤ 100 := by
  obtain ⟨i0, i1, _, _, _, _, p0, p1, s0, s1, _, _, _⟩ := hF
  unfold leastS mx
  (repeat' split) <;> omega
 unfold padB at hp
 by_cases hc : x.pad.toList.isEmpty = true
 ·rw [if_pos hc] at hp
  simp only [Bool.and_eq_true, beq_iff_eq] at hp
  have hw : wideS x = leastS x := by unfold wideS; rw [if_pos hc]
  exact ⟨k1, k2, hF, by omega, by omega, by omega, by omega, l0, fun e => by rw [hc] at e; exact absurd e (by decide), fun _ => hp⟩
 ·rw [if_neg hc] at hp
  simp only [Bool.and_eq_true, beq_iff_eq, inB, decide_eq_true_eq, Bool.not_eq_true'] at hp
  obtain ⟨q1, ⟨q2, q3⟩, q4, q5, q6⟩ := hp
  have hw : wideS x = leastS x + (x.wd - lengthS x (leastS x)) := by unfold wideS; rw [if_neg hc]
  exact ⟨k1, k2, hF, by omega, by omega, by omega, by omega, l0, fun _ => ⟨q5, q6, q1, q4⟩, fun e => absurd e hc⟩
@[reducible] def fillC (x : Sb) : Array Value := #[.string (fillS x 0), .string (fillS x 1), .string (fillS x 2), .string (fillS x 3)]
theorem HW.alloc {w0 w : World} {L : Sl} {x : Sb} (h : HW w0 w L x) (o : Obj) : HW w0 (w.alloc o) L x := h.step (below_alloc (Below.refl _ _) o)
theorem ne_empty {s : ByteArray} {b : Bool} (h : s.toList.isEmpty = b) : (s.toList != ([] : List UInt8)) = !b := by
 rw [← h]; cases s.toList <;> rfl
theorem fill_bare {x : Sb} (h : x.pad.toList.isEmpty = true) (k : Int) : fillS x k = ⟨#[]⟩ := by unfold fillS; rw [if_pos h]
theorem four_at (x : Sb) (h0 : 0 ≤ x.pa) (h1 : x.pa ≤ 3) : ([.string ⟨#[]⟩, .string ⟨#[]⟩, .string ⟨#[]⟩, .string ⟨#[]⟩] : List Value)[x.pa.toNat]? = some (.string ⟨#[]⟩) := by
 have : x.pa = 0 ∨ x.pa = 1 ∨ x.pa = 2 ∨ x.pa = 3 := by omega
 rcases this with e | e | e | e <;> rw [e] <;> rfl
theorem fill_put {x : Sb} (h : x.pad.toList.isEmpty = false) (h0 : 0 ≤ x.pa) (h1 : x.pa ≤ 3) : (([.string ⟨#[]⟩, .string ⟨#[]⟩, .string ⟨#[]⟩, .string ⟨#[]⟩] : List Value).set x.pa.toNat (.string (⟨#[42]⟩ ++ x.pad))).toArray = fillC x := by
 unfold fillC fillS
 rw [h]
 have : x.pa = 0 ∨ x.pa = 1 ∨ x.pa = 2 ∨ x.pa = 3 := by omega
 rcases this with e | e | e | e <;> rw [e] <;> rfl
theorem fill_size (x : Sb) (k : Int) (h : x.pad.size ≤ 281474976710656) : (fillS x k).size ≤ 281474976710657 := by
 unfold fillS
 split
 ·exact Nat.zero_le _
 ·split
  ·rw [ByteArray.size_append]; show 1 + x.pad.size ≤ _; omega
  ·exact Nat.zero_le _
theorem print_size (l : List S53) (ht : TokOk l) : (printT l).1.size ≤ 2000 := by
 rw [printT_eq]
 unfold A.printT
 by_cases h : A.checkS l = 0
 ·rw [if_pos h]
  obtain ⟨h1, h2, h3, h4⟩ := texts_wide l ht.1 h
  have := all_size l (good_single l none h1)
  have := join_size (allR l)
  show (joinB (allR l)).size ≤ 2000
  omega
 ·rw [if_neg h]; exact Nat.zero_le _
theorem text_sizes {w : World} {L : Sl} {x : Sb} (hr : SubOk w L x) (hg : Good x) : ((9223372036854775807 < (fillS x 0).size + (printT x.p).1.size) = False) ∧ ((9223372036854775807 < (fillS x 0).size + (printT x.p).1.size + (fillS x 1).size) = False) ∧ ((9223372036854775807 < (fillS x 0).size + (printT x.p).1.size + (fillS x 1).size + (digS x (wideS x)).size) = False) ∧ ((9223372036854775807 < (fillS x 0).size + (printT x.p).1.size + (fillS x 1).size + (digS x (wideS x)).size + (fillS x 2).size) = False) ∧ ((9223372036854775807 < (fillS x 0).size + (printT x.p).1.size + (fillS x 1).size + (digS x (wideS x)).size + (fillS x 2).size + (printT x.s).1.size) = False) ∧ ((9223372036854775807 < (fillS x 0).size + (printT x.p).1.size + (fillS x 1).size + (digS x (wideS x)).size + (fillS x 2).size + (printT x.s).1.size + (fillS x 3).size) = False) := by
 have a0 := fill_size x 0 hr.pad
 have a1 := fill_size x 1 hr.pad
 have a2 := fill_size x 2 hr.pad
 have a3 := fill_size x 3 hr.pad
 have b0 := print_size x.p hr.p
 have b1 := print_size x.s hr.s
 have d := dig_size x (wideS x) hg.fine hg.wide0 hg.wide1
 refine ⟨?_, ?_, ?_, ?_, ?_, ?_⟩ <;> exact eq_false (by omega)
set_option maxHeartbeats 16000000 in
set_option maxRecDepth 100000 in
theorem text_calls (L : Sl) (x : Sb) (w : World) (hG : Glob w) (hr : SubOk w L x) (hg : Good x) : Calls Try.prog 30 #[subV L x] w fun e w' => e = .returned (.string (textS x)) ∧ Below w.heap.size w w' := by
 have HR := aMk hr
 have HG := aMk hG
 have HX := aMk hg
 have HQ := aMk (HW.start w L x)
 clear hr hg hG
 go_enter Try.func30, Try.ntmps30
 go_upto_if 13 with ((go_at_call 37; (with_reducible refine (least_calls L x _ HX.out.fine).mono ?_); rintro e w1 ⟨rfl, hb⟩; have nq := aMk (HQ.out.step hb); clear HQ hb; have HQ := nq; clear nq; obtain ⟨c0, c1, c2, c3, c4, c5, c6, c7, c8, c9, c10, c11⟩ := sub_at HQ.out.box))
 go_cut [3] (fun v wc => v = .int .i64 (wideS x) ∧ Aside0 (HW w wc L x))
 case first =>
  rcases Bool.eq_false_or_eq_true x.pad.toList.isEmpty with p1 | p1
  case inl =>
   have p2 := ne_empty p1
   have HE := aMk (show wideS x = leastS x by unfold wideS; rw [if_pos p1])
   rw [p1, Bool.not_true]
   go_wp2
   go_meet
   case rel => exact ⟨by rw [HE.out], HQ⟩
  have p2 := ne_empty p1
  have hw1 : IntKind.i64.wrap (x.wd - lengthS x (leastS x)) = x.wd - lengthS x (leastS x) := IntWalk.i64_in _ (by have h1 := HX.out.len1 p1; have h2 := HX.out.len0; omega)
  have hw2 : IntKind.i64.wrap (leastS x + (x.wd - lengthS x (leastS x))) = wideS x := by
   rw [show wideS x = leastS x + (x.wd - lengthS x (leastS x)) by unfold wideS; rw [if_neg (by rw [p1]; decide)]]
   exact IntWalk.i64_in _ (by have h1 := HX.out.len1 p1; have h2 := HX.out.len0; have h3 := HX.out.fine.im0; have h4 := least_le HX.out.fine; have h5 : 1 ≤ leastS x := (aP123); omega)
  rw [p1, Bool.not_false]
  go_wp2_with fail
  go_region_held3 (fun w' => w'.cell? ⟨w.heap.size, 0, none⟩ = some (.slice L.A x.p.length L.c) ∧ w'.cell? ⟨w.heap.size, 1, none⟩ = some (.slice L.B x.s.length L.d) ∧ w'.cell? ⟨w.heap.size, 2, none⟩ = some (.int .i64 x.im) ∧ w'.cell? ⟨w.heap.size, 3, none⟩ = some (.int .i64 x.fn) ∧ w'.cell? ⟨w.heap.size, 4, none⟩ = some (.int .i64 x.fx) ∧ w'.cell? ⟨w.heap.size, 5, none⟩ = some (.int .i64 x.pr) ∧ w'.cell? ⟨w.heap.size, 6, none⟩ = some (.int .i64 x.se) ∧ w'.cell? ⟨w.heap.size, 7, none⟩ = some (.int .i64 x.em) ∧ w'.cell? ⟨w.heap.size, 8, none⟩ = some (.bool x.ep) ∧ w'.cell? ⟨w.heap.size, 9, none⟩ = some (.string x.pad) ∧ w'.cell? ⟨w.heap.size, 10, none⟩ = some (.int .i64 x.pa) ∧ w'.cell? ⟨w.heap.size, 11, none⟩ = some (.int .i64 x.wd))
   (first | exact sub_at HQ.out.box)
   (first | (go_at_call 36; (with_reducible refine (length_calls L x _ _ (HR.out.r.below (aP130)) HR.out.p HR.out.s HX.out.cp HX.out.cs HX.out.fine (Int.le_refl _) (least_le HX.out.fine)).mono ?_); rintro e w1 ⟨rfl, hb⟩; have nq := aMk ((aP124 : HW w _ L x).step hb); clear HQ hb; have HQ := nq; clear nq))
  go_wp2
  go_meet
  case rel => exact ⟨rfl, HQ⟩
 case rest =>
  obtain ⟨wo, rfl⟩ : ∃ wo : World, wo = wc := ⟨_, rfl⟩
  obtain ⟨rfl, HQ'⟩ := hcut
  clear HQ c0 c1 c2 c3 c4 c5 c6 c7 c8 c9 c10 c11
  have HQ := HQ'
  clear HQ'
  obtain ⟨c0, c1, c2, c3, c4, c5, c6, c7, c8, c9, c10, c11⟩ := sub_at HQ.out.box
  have z9 : ∀ o, (wo.alloc o).cell? ⟨w.heap.size, 9, none⟩ = some (.string x.pad) := fun o => (blk_cell (HQ.out.step (below_alloc (Below.refl _ _) o)).box 9).trans rfl
  have z10 : ∀ o, (wo.alloc o).cell? ⟨w.heap.size, 10, none⟩ = some (.int .i64 x.pa) := fun o => (blk_cell (HQ.out.step (below_alloc (Below.refl _ _) o)).box 10).trans rfl
  go_upto_if 24 with (fail)
  go_cut [] (fun wd => Aside0 (wd.heap[wo.heap.size]? = some (.cells (fillC x) 68 (0, 0))) ∧ Aside0 (HW w wd L x))
  case first =>
   rcases Bool.eq_false_or_eq_true x.pad.toList.isEmpty with p1 | p1
   case inl =>
    have HA := aMk (heap_alloc_new wo (.cells #[.string ⟨#[]⟩, .string ⟨#[]⟩, .string ⟨#[]⟩, .string ⟨#[]⟩] 68))
    rw [p1, Bool.not_true]
    go_wp2
    go_meet
    case rel => exact ⟨⟨by rw [HA.out]; unfold fillC; rw [fill_bare p1, fill_bare p1, fill_bare p1, fill_bare p1]⟩, ⟨HQ.out.alloc _⟩⟩
   rw [p1, Bool.not_false]
   have q0 := HX.out.pa0
   have q1 := HX.out.pa1
   have hz := four_at x q0 q1
   have hs := eq_false (Nat.not_lt.2 (show 1 + x.pad.size ≤ 9223372036854775807 by have := HR.out.pad; omega))
   go_wp2
   go_meet
   case rel => exact ⟨⟨(heap_alloc_new _ _).trans (by rw [fill_put p1 q0 q1])⟩, ⟨HQ.out.alloc _⟩⟩
  case rest =>
   obtain ⟨HA, HQ'⟩ := hcut
   clear HQ c0 c1 c2 c3 c4 c5 c6 c7 c8 c9 c10 c11 z9 z10
   have HQ := HQ'
   clear HQ'
   obtain ⟨c0, c1, c2, c3, c4, c5, c6, c7, c8, c9, c10, c11⟩ := sub_at HQ.out.box
   obtain ⟨g, hg⟩ : ∃ g, wo.heap.size = g := ⟨_, rfl⟩
   rw [hg] at HA
   rw [hg]
   clear hg
   have HZ := aMk (text_sizes HR.out HX.out)
   obtain ⟨z1, z2, z3, z4, z5, z6⟩ := HZ.out
   go_wp2_with (first | (go_at_call 53; (with_reducible refine (print_calls L.A L.c x.p _ (Glob_below HG.out HQ.out.below) (Kd.C_below HR.out.r.p HQ.out.below) HR.out.r.pc HR.out.p).mono ?_); rintro e w1 ⟨rfl, hb⟩; have na := aMk (blk_below HA.out hb); have nq := aMk (HQ.out.step hb); clear HA HQ hb; have HA := na; have HQ := nq; clear na nq; obtain ⟨c0, c1, c2, c3, c4, c5, c6, c7, c8, c9, c10, c11⟩ := sub_at HQ.out.box) | (go_at_call 53; (with_reducible refine (print_calls L.B L.d x.s _ (Glob_below HG.out HQ.out.below) (Kd.C_below HR.out.r.s HQ.out.below) HR.out.r.sc HR.out.s).mono ?_); rintro e w1 ⟨rfl, hb⟩; have na := aMk (blk_below HA.out hb); have nq := aMk (HQ.out.step hb); clear HA HQ hb; have HA := na; have HQ := nq; clear na nq; obtain ⟨c0, c1, c2, c3, c4, c5, c6, c7, c8, c9, c10, c11⟩ := sub_at HQ.out.box))
   go_region_held3 (fun w' => w'.cell? ⟨g, 0, none⟩ = some (.string (fillS x 0)) ∧ w'.cell? ⟨g, 1, none⟩ = some (.string (fillS x 1)) ∧ w'.cell? ⟨g, 2, none⟩ = some (.string (fillS x 2)) ∧ w'.cell? ⟨g, 3, none⟩ = some (.string (fillS x 3)) ∧ w'.cell? ⟨w.heap.size, 0, none⟩ = some (.slice L.A x.p.length L.c) ∧ w'.cell? ⟨w.heap.size, 1, none⟩ = some (.slice L.B x.s.length L.d) ∧ w'.cell? ⟨w.heap.size, 2, none⟩ = some (.int .i64 x.im) ∧ w'.cell? ⟨w.heap.size, 3, none⟩ = some (.int .i64 x.fn) ∧ w'.cell? ⟨w.heap.size, 4, none⟩ = some (.int .i64 x.fx) ∧ w'.cell? ⟨w.heap.size, 5, none⟩ = some (.int .i64 x.pr) ∧ w'.cell? ⟨w.heap.size, 6, none⟩ = some (.int .i64 x.se) ∧ w'.cell? ⟨w.heap.size, 7, none⟩ = some (.int .i64 x.em) ∧ w'.cell? ⟨w.heap.size, 8, none⟩ = some (.bool x.ep) ∧ w'.cell? ⟨w.heap.size, 9, none⟩ = some (.string x.pad) ∧ w'.cell? ⟨w.heap.size, 10, none⟩ = some (.int .i64 x.pa) ∧ w'.cell? ⟨w.heap.size, 11, none⟩ = some (.int .i64 x.wd))
    (first | exact ⟨(blk_cell HA.out 0).trans rfl, (blk_cell HA.out 1).trans rfl, (blk_cell HA.out 2).trans rfl, (blk_cell HA.out 3).trans rfl, sub_at HQ.out.box⟩)
    (first | (go_at_call 54; (with_reducible refine (digits_calls L x (wideS x) _ HX.out.fine HX.out.wide0 HX.out.wide1).mono ?_); rintro e w1 ⟨rfl, hb⟩; have na := aMk (blk_below (by (with_reducible repeat (first | refine blk_drewN ?_ _ | refine blk_drew ?_)); exact HA.out) hb); have nq := aMk ((aP124 : HW w _ L x).step hb); clear HA HQ hb; have HA := na; have HQ := nq; clear na nq))
   go_wp2
   go_ret
   exact ⟨ret_str rfl, HQ.out.below⟩
@[reducible] def patV (L M : Sl) (x : Pt) : Value := .agg #[.slice L.A x.pos.p.length L.c, .slice L.B x.pos.s.length L.d, .int .i64 x.pos.im, .int .i64 x.pos.fn, .int .i64 x.pos.fx, .int .i64 x.pos.pr, .int .i64 x.pos.se, .int .i64 x.pos.em, .bool x.pos.ep, .string x.pos.pad, .int .i64 x.pos.pa, .int .i64 x.pos.wd, .bool x.ng, .slice M.A x.neg.p.length M.c, .slice M.B x.neg.s.length M.d, .int .i64 x.neg.im, .int .i64 x.neg.fn, .int .i64 x.neg.fx, .int .i64 x.neg.pr, .int .i64 x.neg.se, .int .i64 x.neg.em, .bool x.neg.ep, .string x.neg.pad, .int .i64 x.neg.pa, .int .i64 x.neg.wd]
@[reducible] def patC (L M : Sl) (x : Pt) : Array Value := #[.slice L.A x.pos.p.length L.c, .slice L.B x.pos.s.length L.d, .int .i64 x.pos.im, .int .i64 x.pos.fn, .int .i64 x.pos.fx, .int .i64 x.pos.pr, .int .i64 x.pos.se, .int .i64 x.pos.em, .bool x.pos.ep, .string x.pos.pad, .int .i64 x.pos.pa, .int .i64 x.pos.wd, .bool x.ng, .slice M.A x.neg.p.length M.c, .slice M.B x.neg.s.length M.d, .int .i64 x.neg.im, .int .i64 x.neg.fn, .int .i64 x.neg.fx, .int .i64 x.neg.pr, .int .i64 x.neg.se, .int .i64 x.neg.em, .bool x.neg.ep, .string x.neg.pad, .int .i64 x.neg.pa, .int .i64 x.neg.wd]
section
variable {w : World} {g : Nat} {L M : Sl} {x : Pt} (h : w.heap[g]? = some (.cells (patC L M x) 26 (0, 0)))
include h
theorem pat_c0 : w.cell? ⟨g, 0, none⟩ = some (.slice L.A x.pos.p.length L.c) := (blk_cell h 0).trans rfl
theorem pat_c1 : w.cell? ⟨g, 1, none⟩ = some (.slice L.B x.pos.s.length L.d) := (blk_cell h 1).trans rfl
theorem pat_c2 : w.cell? ⟨g, 2, none⟩ = some (.int .i64 x.pos.im) := (blk_cell h 2).trans rfl
theorem pat_c3 : w.cell? ⟨g, 3, none⟩ = some (.int .i64 x.pos.fn) := (blk_cell h 3).trans rfl
theorem pat_c4 : w.cell? ⟨g, 4, none⟩ = some (.int .i64 x.pos.fx) := (blk_cell h 4).trans rfl
theorem pat_c5 : w.cell? ⟨g, 5, none⟩ = some (.int .i64 x.pos.pr) := (blk_cell h 5).trans rfl
theorem pat_c6 : w.cell? ⟨g, 6, none⟩ = some (.int .i64 x.pos.se) := (blk_cell h 6).trans rfl
theorem pat_c7 : w.cell? ⟨g, 7, none⟩ = some (.int .i64 x.pos.em) := (blk_cell h 7).trans rfl
theorem pat_c8 : w.cell? ⟨g, 8, none⟩ = some (.bool x.pos.ep) := (blk_cell h 8).trans rfl
theorem pat_c9 : w.cell? ⟨g, 9, none⟩ = some (.string x.pos.pad) := (blk_cell h 9).trans rfl
theorem pat_c10 : w.cell? ⟨g, 10, none⟩ = some (.int .i64 x.pos.pa) := (blk_cell h 10).trans rfl
theorem pat_c11 : w.cell? ⟨g, 11, none⟩ = some (.int .i64 x.pos.wd) := (blk_cell h 11).trans rfl
theorem pat_c12 : w.cell? ⟨g, 12, none⟩ = some (.bool x.ng) := (blk_cell h 12).trans rfl
theorem pat_c13 : w.cell? ⟨g, 13, none⟩ = some (.slice M.A x.neg.p.length M.c) := (blk_cell h 13).trans rfl
theorem pat_c14 : w.cell? ⟨g, 14, none⟩ = some (.slice M.B x.neg.s.length M.d) := (blk_cell h 14).trans rfl
theorem pat_c15 : w.cell? ⟨g, 15, none⟩ = some (.int .i64 x.neg.im) := (blk_cell h 15).trans rfl
theorem pat_c16 : w.cell? ⟨g, 16, none⟩ = some (.int .i64 x.neg.fn) := (blk_cell h 16).trans rfl
theorem pat_c17 : w.cell? ⟨g, 17, none⟩ = some (.int .i64 x.neg.fx) := (blk_cell h 17).trans rfl
theorem pat_c18 : w.cell? ⟨g, 18, none⟩ = some (.int .i64 x.neg.pr) := (blk_cell h 18).trans rfl
theorem pat_c19 : w.cell? ⟨g, 19, none⟩ = some (.int .i64 x.neg.se) := (blk_cell h 19).trans rfl
theorem pat_c20 : w.cell? ⟨g, 20, none⟩ = some (.int .i64 x.neg.em) := (blk_cell h 20).trans rfl
theorem pat_c21 : w.cell? ⟨g, 21, none⟩ = some (.bool x.neg.ep) := (blk_cell h 21).trans rfl
theorem pat_c22 : w.cell? ⟨g, 22, none⟩ = some (.string x.neg.pad) := (blk_cell h 22).trans rfl
theorem pat_c23 : w.cell? ⟨g, 23, none⟩ = some (.int .i64 x.neg.pa) := (blk_cell h 23).trans rfl
theorem pat_c24 : w.cell? ⟨g, 24, none⟩ = some (.int .i64 x.neg.wd) := (blk_cell h 24).trans rfl
end
theorem info26 : (Try.prog.info? 26).map (·.size) = some 25 := by kernel_rfl
structure PW (w0 w : World) (L M : Sl) (x : Pt) : Prop where
 box : w.heap[w0.heap.size]? = some (.cells (patC L M x) 26 (0, 0))
 below : Below w0.heap.size w0 w
theorem PW.start (w : World) (L M : Sl) (x : Pt) : PW w (w.alloc (.cells (patC L M x) 26)) L M x := ⟨heap_alloc_new w _, below_alloc (Below.refl _ _) _⟩
theorem PW.step {w0 w w1 : World} {L M : Sl} {x : Pt} (h : PW w0 w L M x) (hb : Below w.heap.size w w1) : PW w0 w1 L M x := ⟨blk_below h.box hb, below_step h.below hb⟩
theorem text_size {w : World} {L : Sl} {x : Sb} (hr : SubOk w L x) (hg : Good x) : (textS x).size ≤ 2251799813685248 := by
 have a0 := fill_size x 0 hr.pad
 have a1 := fill_size x 1 hr.pad
 have a2 := fill_size x 2 hr.pad
 have a3 := fill_size x 3 hr.pad
 have b0 := print_size x.p hr.p
 have b1 := print_size x.s hr.s
 have d := dig_size x (wideS x) hg.fine hg.wide0 hg.wide1
 unfold textS
 simp only [ByteArray.size_append]
 omega
set_option maxHeartbeats 8000000 in
set_option maxRecDepth 100000 in
theorem whole_walk (L M : Sl) (pos : Sb) (ng : Bool) (neg : Sb) (w : World) (hG : Glob w) (hl : SubOk w L pos) (hm : SubOk w M neg) (h1 : Good pos) (h2 : ng = true → Good neg) : Calls Try.prog 20 #[patV L M ⟨pos, ng, neg⟩] w fun e w' => e = .returned (.string (wholeS ⟨pos, ng, neg⟩)) ∧ Below w.heap.size w w' := by
 have HL := aMk hl
 have HM := aMk hm
 have HG := aMk hG
 have H1 := aMk h1
 cases ng with
 | true =>
  have H2 := aMk (h2 rfl)
  have HE := aMk (show wholeS ⟨pos, true, neg⟩ = textS pos ++ (⟨#[59]⟩ ++ textS neg) by unfold wholeS; rw [if_pos rfl])
  have z1 := text_size hl h1
  have z2 := text_size hm H2.out
  have z3 := eq_false (Nat.not_lt.2 (show 1 + (textS neg).size ≤ 9223372036854775807 by omega))
  have z4 := eq_false (Nat.not_lt.2 (show (textS pos).size + (1 + (textS neg).size) ≤ 9223372036854775807 by omega))
  clear hl hm hG h1 h2 z1 z2
  go_enter Try.func20, Try.ntmps20
  go_wp2_with (first | ((with_reducible refine gate_dst (N := 1) rfl ?_); refine box_event ?hg (N := 1) ?hd (cs := patC L M ⟨pos, true, neg⟩) (t := 26) ?hr ?_; (case hd => rfl); (case hg => rfl); (case hr => first | (go_simp; done) | (go_simp; rfl)); intro gb hgb w1 hbox hbb; subst hgb; have HQ : Aside0 (PW w w1 L M ⟨pos, true, neg⟩) := ⟨⟨hbox, hbb⟩⟩; clear hbox hbb; have c0 := pat_c0 HQ.out.box; have c1 := pat_c1 HQ.out.box; have c2 := pat_c2 HQ.out.box; have c3 := pat_c3 HQ.out.box; have c4 := pat_c4 HQ.out.box; have c5 := pat_c5 HQ.out.box; have c6 := pat_c6 HQ.out.box; have c7 := pat_c7 HQ.out.box; have c8 := pat_c8 HQ.out.box; have c9 := pat_c9 HQ.out.box; have c10 := pat_c10 HQ.out.box; have c11 := pat_c11 HQ.out.box; have c12 := pat_c12 HQ.out.box; have c13 := pat_c13 HQ.out.box; have c14 := pat_c14 HQ.out.box; have c15 := pat_c15 HQ.out.box; have c16 := pat_c16 HQ.out.box; have c17 := pat_c17 HQ.out.box; have c18 := pat_c18 HQ.out.box; have c19 := pat_c19 HQ.out.box; have c20 := pat_c20 HQ.out.box; have c21 := pat_c21 HQ.out.box; have c22 := pat_c22 HQ.out.box; have c23 := pat_c23 HQ.out.box; have c24 := pat_c24 HQ.out.box) | (go_at_call 30; (with_reducible refine (text_calls L pos _ (Glob_below HG.out HQ.out.below) (HL.out.below HQ.out.below) H1.out).mono ?_); rintro e w1 ⟨rfl, hb⟩; have nq := aMk (HQ.out.step hb); clear HQ hb c0 c1 c2 c3 c4 c5 c6 c7 c8 c9 c10 c11 c12 c13 c14 c15 c16 c17 c18 c19 c20 c21 c22 c23 c24; have HQ := nq; clear nq; have c0 := pat_c0 HQ.out.box; have c1 := pat_c1 HQ.out.box; have c2 := pat_c2 HQ.out.box; have c3 := pat_c3 HQ.out.box; have c4 := pat_c4 HQ.out.box; have c5 := pat_c5 HQ.out.box; have c6 := pat_c6 HQ.out.box; have c7 := pat_c7 HQ.out.box; have c8 := pat_c8 HQ.out.box; have c9 := pat_c9 HQ.out.box; have c10 := pat_c10 HQ.out.box; have c11 := pat_c11 HQ.out.box; have c12 := pat_c12 HQ.out.box; have c13 := pat_c13 HQ.out.box; have c14 := pat_c14 HQ.out.box; have c15 := pat_c15 HQ.out.box; have c16 := pat_c16 HQ.out.box; have c17 := pat_c17 HQ.out.box; have c18 := pat_c18 HQ.out.box; have c19 := pat_c19 HQ.out.box; have c20 := pat_c20 HQ.out.box; have c21 := pat_c21 HQ.out.box; have c22 := pat_c22 HQ.out.box; have c23 := pat_c23 HQ.out.box; have c24 := pat_c24 HQ.out.box) | (go_at_call 30; (with_reducible refine (text_calls M neg _ (Glob_below HG.out HQ.out.below) (HM.out.below HQ.out.below) H2.out).mono ?_); rintro e w1 ⟨rfl, hb⟩; have nq := aMk (HQ.out.step hb); clear HQ hb c0 c1 c2 c3 c4 c5 c6 c7 c8 c9 c10 c11 c12 c13 c14 c15 c16 c17 c18 c19 c20 c21 c22 c23 c24; have HQ := nq; clear nq; have c0 := pat_c0 HQ.out.box; have c1 := pat_c1 HQ.out.box; have c2 := pat_c2 HQ.out.box; have c3 := pat_c3 HQ.out.box; have c4 := pat_c4 HQ.out.box; have c5 := pat_c5 HQ.out.box; have c6 := pat_c6 HQ.out.box; have c7 := pat_c7 HQ.out.box; have c8 := pat_c8 HQ.out.box; have c9 := pat_c9 HQ.out.box; have c10 := pat_c10 HQ.out.box; have c11 := pat_c11 HQ.out.box; have c12 := pat_c12 HQ.out.box; have c13 := pat_c13 HQ.out.box; have c14 := pat_c14 HQ.out.box; have c15 := pat_c15 HQ.out.box; have c16 := pat_c16 HQ.out.box; have c17 := pat_c17 HQ.out.box; have c18 := pat_c18 HQ.out.box; have c19 := pat_c19 HQ.out.box; have c20 := pat_c20 HQ.out.box; have c21 := pat_c21 HQ.out.box; have c22 := pat_c22 HQ.out.box; have c23 := pat_c23 HQ.out.box; have c24 := pat_c24 HQ.out.box))
  go_ret
  exact ⟨ret_str HE.out.symm, HQ.out.below⟩
 | false =>
  have HE := aMk (show wholeS ⟨pos, false, neg⟩ = textS pos by unfold wholeS; rw [if_neg (fun e => Bool.noConfusion e)])
  clear hl hm hG h1 h2
  go_enter Try.func20, Try.ntmps20
  go_wp2_with (first | ((with_reducible refine gate_dst (N := 1) rfl ?_); refine box_event ?hg (N := 1) ?hd (cs := patC L M ⟨pos, false, neg⟩) (t := 26) ?hr ?_; (case hd => rfl); (case hg => rfl); (case hr => first | (go_simp; done) | (go_simp; rfl)); intro gb hgb w1 hbox hbb; subst hgb; have HQ : Aside0 (PW w w1 L M ⟨pos, false, neg⟩) := ⟨⟨hbox, hbb⟩⟩; clear hbox hbb; have c0 := pat_c0 HQ.out.box; have c1 := pat_c1 HQ.out.box; have c2 := pat_c2 HQ.out.box; have c3 := pat_c3 HQ.out.box; have c4 := pat_c4 HQ.out.box; have c5 := pat_c5 HQ.out.box; have c6 := pat_c6 HQ.out.box; have c7 := pat_c7 HQ.out.box; have c8 := pat_c8 HQ.out.box; have c9 := pat_c9 HQ.out.box; have c10 := pat_c10 HQ.out.box; have c11 := pat_c11 HQ.out.box; have c12 := pat_c12 HQ.out.box; have c13 := pat_c13 HQ.out.box; have c14 := pat_c14 HQ.out.box; have c15 := pat_c15 HQ.out.box; have c16 := pat_c16 HQ.out.box; have c17 := pat_c17 HQ.out.box; have c18 := pat_c18 HQ.out.box; have c19 := pat_c19 HQ.out.box; have c20 := pat_c20 HQ.out.box; have c21 := pat_c21 HQ.out.box; have c22 := pat_c22 HQ.out.box; have c23 := pat_c23 HQ.out.box; have c24 := pat_c24 HQ.out.box) | (go_at_call 30; (with_reducible refine (text_calls L pos _ (Glob_below HG.out HQ.out.below) (HL.out.below HQ.out.below) H1.out).mono ?_); rintro e w1 ⟨rfl, hb⟩; have nq := aMk (HQ.out.step hb); clear HQ hb c0 c1 c2 c3 c4 c5 c6 c7 c8 c9 c10 c11 c12 c13 c14 c15 c16 c17 c18 c19 c20 c21 c22 c23 c24; have HQ := nq; clear nq; have c0 := pat_c0 HQ.out.box; have c1 := pat_c1 HQ.out.box; have c2 := pat_c2 HQ.out.box; have c3 := pat_c3 HQ.out.box; have c4 := pat_c4 HQ.out.box; have c5 := pat_c5 HQ.out.box; have c6 := pat_c6 HQ.out.box; have c7 := pat_c7 HQ.out.box; have c8 := pat_c8 HQ.out.box; have c9 := pat_c9 HQ.out.box; have c10 := pat_c10 HQ.out.box; have c11 := pat_c11 HQ.out.box; have c12 := pat_c12 HQ.out.box; have c13 := pat_c13 HQ.out.box; have c14 := pat_c14 HQ.out.box; have c15 := pat_c15 HQ.out.box; have c16 := pat_c16 HQ.out.box; have c17 := pat_c17 HQ.out.box; have c18 := pat_c18 HQ.out.box; have c19 := pat_c19 HQ.out.box; have c20 := pat_c20 HQ.out.box; have c21 := pat_c21 HQ.out.box; have c22 := pat_c22 HQ.out.box; have c23 := pat_c23 HQ.out.box; have c24 := pat_c24 HQ.out.box))
  go_ret
  exact ⟨ret_str HE.out.symm, HQ.out.below⟩
theorem form_good {w : World} {L M : Sl} {x : Pt} (hl : SubOk w L x.pos) (hm : SubOk w M x.neg) (h : formB x = true) : Good x.pos ∧ (x.ng = true → Good x.neg) := by
 unfold formB at h
 rw [Bool.and_eq_true] at h
 exact ⟨good_of hl.p hl.s h.1, fun e => good_of hm.p hm.s (by have := h.2; rw [if_pos e] at this; exact this)⟩
theorem len_yes {n : Nat} (h : n > 128) : decide (128 < (n : Int)) = true := dTr (by omega)
theorem len_no {n : Nat} (h : ¬ n > 128) : decide (128 < (n : Int)) = false := dFa (by omega)
set_option maxHeartbeats 16000000 in
set_option maxRecDepth 100000 in
theorem pcheck_walk (L M : Sl) (pos : Sb) (ng : Bool) (neg : Sb) (w : World) (hG : Glob w) (hl : SubOk w L pos) (hm : SubOk w M neg) : Calls Try.prog 11 #[patV L M ⟨pos, ng, neg⟩] w fun e w' => e = .returned (.int .i64 (checkP ⟨pos, ng, neg⟩)) ∧ Below w.heap.size w w' := by
 have HL := aMk hl
 have HM := aMk hm
 have HG := aMk hG
 clear hl hm hG
 rcases Bool.eq_false_or_eq_true (halfS pos) with k1 | k1
 case inr =>
  have HE := aMk (show checkP ⟨pos, ng, neg⟩ = 141 by simp [checkP, formB, k1])
  go_enter Try.func11, Try.ntmps11
  go_wp2_with (first | ((with_reducible refine gate_dst (N := 1) rfl ?_); refine box_event ?hg (N := 1) ?hd (cs := patC L M ⟨pos, ng, neg⟩) (t := 26) ?hr ?_; (case hd => rfl); (case hg => rfl); (case hr => first | (go_simp; done) | (go_simp; rfl)); intro gb hgb w1 hbox hbb; subst hgb; have HQ : Aside0 (PW w w1 L M ⟨pos, ng, neg⟩) := ⟨⟨hbox, hbb⟩⟩; clear hbox hbb; have c0 := pat_c0 HQ.out.box; have c1 := pat_c1 HQ.out.box; have c2 := pat_c2 HQ.out.box; have c3 := pat_c3 HQ.out.box; have c4 := pat_c4 HQ.out.box; have c5 := pat_c5 HQ.out.box; have c6 := pat_c6 HQ.out.box; have c7 := pat_c7 HQ.out.box; have c8 := pat_c8 HQ.out.box; have c9 := pat_c9 HQ.out.box; have c10 := pat_c10 HQ.out.box; have c11 := pat_c11 HQ.out.box; have c12 := pat_c12 HQ.out.box; have c13 := pat_c13 HQ.out.box; have c14 := pat_c14 HQ.out.box; have c15 := pat_c15 HQ.out.box; have c16 := pat_c16 HQ.out.box; have c17 := pat_c17 HQ.out.box; have c18 := pat_c18 HQ.out.box; have c19 := pat_c19 HQ.out.box; have c20 := pat_c20 HQ.out.box; have c21 := pat_c21 HQ.out.box; have c22 := pat_c22 HQ.out.box; have c23 := pat_c23 HQ.out.box; have c24 := pat_c24 HQ.out.box) | (go_at_call 23; (with_reducible refine (half_calls L pos _ (HL.out.below HQ.out.below)).mono ?_); rintro e w1 ⟨rfl, hb⟩; have nq := aMk (HQ.out.step hb); clear HQ hb c0 c1 c2 c3 c4 c5 c6 c7 c8 c9 c10 c11 c12 c13 c14 c15 c16 c17 c18 c19 c20 c21 c22 c23 c24; have HQ := nq; clear nq; have c0 := pat_c0 HQ.out.box; have c1 := pat_c1 HQ.out.box; have c2 := pat_c2 HQ.out.box; have c3 := pat_c3 HQ.out.box; have c4 := pat_c4 HQ.out.box; have c5 := pat_c5 HQ.out.box; have c6 := pat_c6 HQ.out.box; have c7 := pat_c7 HQ.out.box; have c8 := pat_c8 HQ.out.box; have c9 := pat_c9 HQ.out.box; have c10 := pat_c10 HQ.out.box; have c11 := pat_c11 HQ.out.box; have c12 := pat_c12 HQ.out.box; have c13 := pat_c13 HQ.out.box; have c14 := pat_c14 HQ.out.box; have c15 := pat_c15 HQ.out.box; have c16 := pat_c16 HQ.out.box; have c17 := pat_c17 HQ.out.box; have c18 := pat_c18 HQ.out.box; have c19 := pat_c19 HQ.out.box; have c20 := pat_c20 HQ.out.box; have c21 := pat_c21 HQ.out.box; have c22 := pat_c22 HQ.out.box; have c23 := pat_c23 HQ.out.box; have c24 := pat_c24 HQ.out.box))
  go_ret
  exact ⟨ret_int HE.out.symm, HQ.out.below⟩
 cases ng with
 | true =>
  rcases Bool.eq_false_or_eq_true (halfS neg) with k2 | k2
  case inr =>
   have HE := aMk (show checkP ⟨pos, true, neg⟩ = 141 from aP131)
   go_enter Try.func11, Try.ntmps11
   go_wp2_with (first | ((with_reducible refine gate_dst (N := 1) rfl ?_); refine box_event ?hg (N := 1) ?hd (cs := patC L M ⟨pos, true, neg⟩) (t := 26) ?hr ?_; (case hd => rfl); (case hg => rfl); (case hr => first | (go_simp; done) | (go_simp; rfl)); intro gb hgb w1 hbox hbb; subst hgb; have HQ : Aside0 (PW w w1 L M ⟨pos, true, neg⟩) := ⟨⟨hbox, hbb⟩⟩; clear hbox hbb; have c0 := pat_c0 HQ.out.box; have c1 := pat_c1 HQ.out.box; have c2 := pat_c2 HQ.out.box; have c3 := pat_c3 HQ.out.box; have c4 := pat_c4 HQ.out.box; have c5 := pat_c5 HQ.out.box; have c6 := pat_c6 HQ.out.box; have c7 := pat_c7 HQ.out.box; have c8 := pat_c8 HQ.out.box; have c9 := pat_c9 HQ.out.box; have c10 := pat_c10 HQ.out.box; have c11 := pat_c11 HQ.out.box; have c12 := pat_c12 HQ.out.box; have c13 := pat_c13 HQ.out.box; have c14 := pat_c14 HQ.out.box; have c15 := pat_c15 HQ.out.box; have c16 := pat_c16 HQ.out.box; have c17 := pat_c17 HQ.out.box; have c18 := pat_c18 HQ.out.box; have c19 := pat_c19 HQ.out.box; have c20 := pat_c20 HQ.out.box; have c21 := pat_c21 HQ.out.box; have c22 := pat_c22 HQ.out.box; have c23 := pat_c23 HQ.out.box; have c24 := pat_c24 HQ.out.box) | (go_at_call 23; (with_reducible refine (half_calls L pos _ (HL.out.below HQ.out.below)).mono ?_); rintro e w1 ⟨rfl, hb⟩; have nq := aMk (HQ.out.step hb); clear HQ hb c0 c1 c2 c3 c4 c5 c6 c7 c8 c9 c10 c11 c12 c13 c14 c15 c16 c17 c18 c19 c20 c21 c22 c23 c24; have HQ := nq; clear nq; have c0 := pat_c0 HQ.out.box; have c1 := pat_c1 HQ.out.box; have c2 := pat_c2 HQ.out.box; have c3 := pat_c3 HQ.out.box; have c4 := pat_c4 HQ.out.box; have c5 := pat_c5 HQ.out.box; have c6 := pat_c6 HQ.out.box; have c7 := pat_c7 HQ.out.box; have c8 := pat_c8 HQ.out.box; have c9 := pat_c9 HQ.out.box; have c10 := pat_c10 HQ.out.box; have c11 := pat_c11 HQ.out.box; have c12 := pat_c12 HQ.out.box; have c13 := pat_c13 HQ.out.box; have c14 := pat_c14 HQ.out.box; have c15 := pat_c15 HQ.out.box; have c16 := pat_c16 HQ.out.box; have c17 := pat_c17 HQ.out.box; have c18 := pat_c18 HQ.out.box; have c19 := pat_c19 HQ.out.box; have c20 := pat_c20 HQ.out.box; have c21 := pat_c21 HQ.out.box; have c22 := pat_c22 HQ.out.box; have c23 := pat_c23 HQ.out.box; have c24 := pat_c24 HQ.out.box) | (go_at_call 23; (with_reducible refine (half_calls M neg _ (HM.out.below HQ.out.below)).mono ?_); rintro e w1 ⟨rfl, hb⟩; have nq := aMk (HQ.out.step hb); clear HQ hb c0 c1 c2 c3 c4 c5 c6 c7 c8 c9 c10 c11 c12 c13 c14 c15 c16 c17 c18 c19 c20 c21 c22 c23 c24; have HQ := nq; clear nq; have c0 := pat_c0 HQ.out.box; have c1 := pat_c1 HQ.out.box; have c2 := pat_c2 HQ.out.box; have c3 := pat_c3 HQ.out.box; have c4 := pat_c4 HQ.out.box; have c5 := pat_c5 HQ.out.box; have c6 := pat_c6 HQ.out.box; have c7 := pat_c7 HQ.out.box; have c8 := pat_c8 HQ.out.box; have c9 := pat_c9 HQ.out.box; have c10 := pat_c10 HQ.out.box; have c11 := pat_c11 HQ.out.box; have c12 := pat_c12 HQ.out.box; have c13 := pat_c13 HQ.out.box; have c14 := pat_c14 HQ.out.box; have c15 := pat_c15 HQ.out.box; have c16 := pat_c16 HQ.out.box; have c17 := pat_c17 HQ.out.box; have c18 := pat_c18 HQ.out.box; have c19 := pat_c19 HQ.out.box; have c20 := pat_c20 HQ.out.box; have c21 := pat_c21 HQ.out.box; have c22 := pat_c22 HQ.out.box; have c23 := pat_c23 HQ.out.box; have c24 := pat_c24 HQ.out.box))
   go_ret
   exact ⟨ret_int HE.out.symm, HQ.out.below⟩
  have HF := form_good HL.out HM.out (show formB ⟨pos, true, neg⟩ = true by simp [formB, k1, k2])
  have H1 : Aside0 (Good pos) := ⟨HF.1⟩
  have H2 : Aside0 (Good neg) := ⟨HF.2 rfl⟩
  have HE := aMk (show checkP ⟨pos, true, neg⟩ = if (wholeS ⟨pos, true, neg⟩).size > 128 then 142 else 0 from aP131)
  clear HF
  by_cases hs : (wholeS ⟨pos, true, neg⟩).size > 128
  all_goals
   first | rw [if_pos hs] at HE | rw [if_neg hs] at HE
   first | have d1 := len_yes hs | have d1 := len_no hs
   clear hs
   go_enter Try.func11, Try.ntmps11
   go_wp2_with (first | ((with_reducible refine gate_dst (N := 1) rfl ?_); refine box_event ?hg (N := 1) ?hd (cs := patC L M ⟨pos, true, neg⟩) (t := 26) ?hr ?_; (case hd => rfl); (case hg => rfl); (case hr => first | (go_simp; done) | (go_simp; rfl)); intro gb hgb w1 hbox hbb; subst hgb; have HQ : Aside0 (PW w w1 L M ⟨pos, true, neg⟩) := ⟨⟨hbox, hbb⟩⟩; clear hbox hbb; have c0 := pat_c0 HQ.out.box; have c1 := pat_c1 HQ.out.box; have c2 := pat_c2 HQ.out.box; have c3 := pat_c3 HQ.out.box; have c4 := pat_c4 HQ.out.box; have c5 := pat_c5 HQ.out.box; have c6 := pat_c6 HQ.out.box; have c7 := pat_c7 HQ.out.box; have c8 := pat_c8 HQ.out.box; have c9 := pat_c9 HQ.out.box; have c10 := pat_c10 HQ.out.box; have c11 := pat_c11 HQ.out.box; have c12 := pat_c12 HQ.out.box; have c13 := pat_c13 HQ.out.box; have c14 := pat_c14 HQ.out.box; have c15 := pat_c15 HQ.out.box; have c16 := pat_c16 HQ.out.box; have c17 := pat_c17 HQ.out.box; have c18 := pat_c18 HQ.out.box; have c19 := pat_c19 HQ.out.box; have c20 := pat_c20 HQ.out.box; have c21 := pat_c21 HQ.out.box; have c22 := pat_c22 HQ.out.box; have c23 := pat_c23 HQ.out.box; have c24 := pat_c24 HQ.out.box) | ((with_reducible refine gate_dst (N := 28) rfl ?_); refine wpList_load_row rfl 26 (.tmp 1) rfl w.heap.size rfl 26 (patC L M ⟨pos, true, neg⟩) (0, 0) _ HQ.out.box Try.underlying26 rfl info26 ?_) | (go_at_call 23; (with_reducible refine (half_calls L pos _ (HL.out.below HQ.out.below)).mono ?_); rintro e w1 ⟨rfl, hb⟩; have nq := aMk (HQ.out.step hb); clear HQ hb c0 c1 c2 c3 c4 c5 c6 c7 c8 c9 c10 c11 c12 c13 c14 c15 c16 c17 c18 c19 c20 c21 c22 c23 c24; have HQ := nq; clear nq; have c0 := pat_c0 HQ.out.box; have c1 := pat_c1 HQ.out.box; have c2 := pat_c2 HQ.out.box; have c3 := pat_c3 HQ.out.box; have c4 := pat_c4 HQ.out.box; have c5 := pat_c5 HQ.out.box; have c6 := pat_c6 HQ.out.box; have c7 := pat_c7 HQ.out.box; have c8 := pat_c8 HQ.out.box; have c9 := pat_c9 HQ.out.box; have c10 := pat_c10 HQ.out.box; have c11 := pat_c11 HQ.out.box; have c12 := pat_c12 HQ.out.box; have c13 := pat_c13 HQ.out.box; have c14 := pat_c14 HQ.out.box; have c15 := pat_c15 HQ.out.box; have c16 := pat_c16 HQ.out.box; have c17 := pat_c17 HQ.out.box; have c18 := pat_c18 HQ.out.box; have c19 := pat_c19 HQ.out.box; have c20 := pat_c20 HQ.out.box; have c21 := pat_c21 HQ.out.box; have c22 := pat_c22 HQ.out.box; have c23 := pat_c23 HQ.out.box; have c24 := pat_c24 HQ.out.box) | (go_at_call 23; (with_reducible refine (half_calls M neg _ (HM.out.below HQ.out.below)).mono ?_); rintro e w1 ⟨rfl, hb⟩; have nq := aMk (HQ.out.step hb); clear HQ hb c0 c1 c2 c3 c4 c5 c6 c7 c8 c9 c10 c11 c12 c13 c14 c15 c16 c17 c18 c19 c20 c21 c22 c23 c24; have HQ := nq; clear nq; have c0 := pat_c0 HQ.out.box; have c1 := pat_c1 HQ.out.box; have c2 := pat_c2 HQ.out.box; have c3 := pat_c3 HQ.out.box; have c4 := pat_c4 HQ.out.box; have c5 := pat_c5 HQ.out.box; have c6 := pat_c6 HQ.out.box; have c7 := pat_c7 HQ.out.box; have c8 := pat_c8 HQ.out.box; have c9 := pat_c9 HQ.out.box; have c10 := pat_c10 HQ.out.box; have c11 := pat_c11 HQ.out.box; have c12 := pat_c12 HQ.out.box; have c13 := pat_c13 HQ.out.box; have c14 := pat_c14 HQ.out.box; have c15 := pat_c15 HQ.out.box; have c16 := pat_c16 HQ.out.box; have c17 := pat_c17 HQ.out.box; have c18 := pat_c18 HQ.out.box; have c19 := pat_c19 HQ.out.box; have c20 := pat_c20 HQ.out.box; have c21 := pat_c21 HQ.out.box; have c22 := pat_c22 HQ.out.box; have c23 := pat_c23 HQ.out.box; have c24 := pat_c24 HQ.out.box) | (go_at_call 20; (with_reducible refine (whole_walk L M pos true neg _ (Glob_below HG.out HQ.out.below) (HL.out.below HQ.out.below) (HM.out.below HQ.out.below) H1.out (fun _ => H2.out)).mono ?_); rintro e w1 ⟨rfl, hb⟩; have nq := aMk (HQ.out.step hb); clear HQ hb c0 c1 c2 c3 c4 c5 c6 c7 c8 c9 c10 c11 c12 c13 c14 c15 c16 c17 c18 c19 c20 c21 c22 c23 c24; have HQ := nq; clear nq; have c0 := pat_c0 HQ.out.box; have c1 := pat_c1 HQ.out.box; have c2 := pat_c2 HQ.out.box; have c3 := pat_c3 HQ.out.box; have c4 := pat_c4 HQ.out.box; have c5 := pat_c5 HQ.out.box; have c6 := pat_c6 HQ.out.box; have c7 := pat_c7 HQ.out.box; have c8 := pat_c8 HQ.out.box; have c9 := pat_c9 HQ.out.box; have c10 := pat_c10 HQ.out.box; have c11 := pat_c11 HQ.out.box; have c12 := pat_c12 HQ.out.box; have c13 := pat_c13 HQ.out.box; have c14 := pat_c14 HQ.out.box; have c15 := pat_c15 HQ.out.box; have c16 := pat_c16 HQ.out.box; have c17 := pat_c17 HQ.out.box; have c18 := pat_c18 HQ.out.box; have c19 := pat_c19 HQ.out.box; have c20 := pat_c20 HQ.out.box; have c21 := pat_c21 HQ.out.box; have c22 := pat_c22 HQ.out.box; have c23 := pat_c23 HQ.out.box; have c24 := pat_c24 HQ.out.box))
   go_ret
   exact ⟨ret_int HE.out.symm, HQ.out.below⟩
 | false =>
  rcases Bool.eq_false_or_eq_true (zeroB neg) with k2 | k2
  case inr =>
   have HE := aMk (show checkP ⟨pos, false, neg⟩ = 141 from aP131)
   go_enter Try.func11, Try.ntmps11
   go_wp2_with (first | ((with_reducible refine gate_dst (N := 1) rfl ?_); refine box_event ?hg (N := 1) ?hd (cs := patC L M ⟨pos, false, neg⟩) (t := 26) ?hr ?_; (case hd => rfl); (case hg => rfl); (case hr => first | (go_simp; done) | (go_simp; rfl)); intro gb hgb w1 hbox hbb; subst hgb; have HQ : Aside0 (PW w w1 L M ⟨pos, false, neg⟩) := ⟨⟨hbox, hbb⟩⟩; clear hbox hbb; have c0 := pat_c0 HQ.out.box; have c1 := pat_c1 HQ.out.box; have c2 := pat_c2 HQ.out.box; have c3 := pat_c3 HQ.out.box; have c4 := pat_c4 HQ.out.box; have c5 := pat_c5 HQ.out.box; have c6 := pat_c6 HQ.out.box; have c7 := pat_c7 HQ.out.box; have c8 := pat_c8 HQ.out.box; have c9 := pat_c9 HQ.out.box; have c10 := pat_c10 HQ.out.box; have c11 := pat_c11 HQ.out.box; have c12 := pat_c12 HQ.out.box; have c13 := pat_c13 HQ.out.box; have c14 := pat_c14 HQ.out.box; have c15 := pat_c15 HQ.out.box; have c16 := pat_c16 HQ.out.box; have c17 := pat_c17 HQ.out.box; have c18 := pat_c18 HQ.out.box; have c19 := pat_c19 HQ.out.box; have c20 := pat_c20 HQ.out.box; have c21 := pat_c21 HQ.out.box; have c22 := pat_c22 HQ.out.box; have c23 := pat_c23 HQ.out.box; have c24 := pat_c24 HQ.out.box) | (go_at_call 23; (with_reducible refine (half_calls L pos _ (HL.out.below HQ.out.below)).mono ?_); rintro e w1 ⟨rfl, hb⟩; have nq := aMk (HQ.out.step hb); clear HQ hb c0 c1 c2 c3 c4 c5 c6 c7 c8 c9 c10 c11 c12 c13 c14 c15 c16 c17 c18 c19 c20 c21 c22 c23 c24; have HQ := nq; clear nq; have c0 := pat_c0 HQ.out.box; have c1 := pat_c1 HQ.out.box; have c2 := pat_c2 HQ.out.box; have c3 := pat_c3 HQ.out.box; have c4 := pat_c4 HQ.out.box; have c5 := pat_c5 HQ.out.box; have c6 := pat_c6 HQ.out.box; have c7 := pat_c7 HQ.out.box; have c8 := pat_c8 HQ.out.box; have c9 := pat_c9 HQ.out.box; have c10 := pat_c10 HQ.out.box; have c11 := pat_c11 HQ.out.box; have c12 := pat_c12 HQ.out.box; have c13 := pat_c13 HQ.out.box; have c14 := pat_c14 HQ.out.box; have c15 := pat_c15 HQ.out.box; have c16 := pat_c16 HQ.out.box; have c17 := pat_c17 HQ.out.box; have c18 := pat_c18 HQ.out.box; have c19 := pat_c19 HQ.out.box; have c20 := pat_c20 HQ.out.box; have c21 := pat_c21 HQ.out.box; have c22 := pat_c22 HQ.out.box; have c23 := pat_c23 HQ.out.box; have c24 := pat_c24 HQ.out.box) | (go_at_call 24; (with_reducible refine (zero_calls M neg _).mono ?_); rintro e w1 ⟨rfl, hb⟩; have nq := aMk (HQ.out.step hb); clear HQ hb c0 c1 c2 c3 c4 c5 c6 c7 c8 c9 c10 c11 c12 c13 c14 c15 c16 c17 c18 c19 c20 c21 c22 c23 c24; have HQ := nq; clear nq; have c0 := pat_c0 HQ.out.box; have c1 := pat_c1 HQ.out.box; have c2 := pat_c2 HQ.out.box; have c3 := pat_c3 HQ.out.box; have c4 := pat_c4 HQ.out.box; have c5 := pat_c5 HQ.out.box; have c6 := pat_c6 HQ.out.box; have c7 := pat_c7 HQ.out.box; have c8 := pat_c8 HQ.out.box; have c9 := pat_c9 HQ.out.box; have c10 := pat_c10 HQ.out.box; have c11 := pat_c11 HQ.out.box; have c12 := pat_c12 HQ.out.box; have c13 := pat_c13 HQ.out.box; have c14 := pat_c14 HQ.out.box; have c15 := pat_c15 HQ.out.box; have c16 := pat_c16 HQ.out.box; have c17 := pat_c17 HQ.out.box; have c18 := pat_c18 HQ.out.box; have c19 := pat_c19 HQ.out.box; have c20 := pat_c20 HQ.out.box; have c21 := pat_c21 HQ.out.box; have c22 := pat_c22 HQ.out.box; have c23 := pat_c23 HQ.out.box; have c24 := pat_c24 HQ.out.box))
   go_ret
   exact ⟨ret_int HE.out.symm, HQ.out.below⟩
  have HF := form_good HL.out HM.out (show formB ⟨pos, false, neg⟩ = true by simp [formB, k1, k2])
  have H1 : Aside0 (Good pos) := ⟨HF.1⟩
  have HE := aMk (show checkP ⟨pos, false, neg⟩ = if (wholeS ⟨pos, false, neg⟩).size > 128 then 142 else 0 from aP131)
  clear HF
  by_cases hs : (wholeS ⟨pos, false, neg⟩).size > 128
  all_goals
   first | rw [if_pos hs] at HE | rw [if_neg hs] at HE
   first | have d1 := len_yes hs | have d1 := len_no hs
   clear hs
   go_enter Try.func11, Try.ntmps11
   go_wp2_with (first | ((with_reducible refine gate_dst (N := 1) rfl ?_); refine box_event ?hg (N := 1) ?hd (cs := patC L M ⟨pos, false, neg⟩) (t := 26) ?hr ?_; (case hd => rfl); (case hg => rfl); (case hr => first | (go_simp; done) | (go_simp; rfl)); intro gb hgb w1 hbox hbb; subst hgb; have HQ : Aside0 (PW w w1 L M ⟨pos, false, neg⟩) := ⟨⟨hbox, hbb⟩⟩; clear hbox hbb; have c0 := pat_c0 HQ.out.box; have c1 := pat_c1 HQ.out.box; have c2 := pat_c2 HQ.out.box; have c3 := pat_c3 HQ.out.box; have c4 := pat_c4 HQ.out.box; have c5 := pat_c5 HQ.out.box; have c6 := pat_c6 HQ.out.box; have c7 := pat_c7 HQ.out.box; have c8 := pat_c8 HQ.out.box; have c9 := pat_c9 HQ.out.box; have c10 := pat_c10 HQ.out.box; have c11 := pat_c11 HQ.out.box; have c12 := pat_c12 HQ.out.box; have c13 := pat_c13 HQ.out.box; have c14 := pat_c14 HQ.out.box; have c15 := pat_c15 HQ.out.box; have c16 := pat_c16 HQ.out.box; have c17 := pat_c17 HQ.out.box; have c18 := pat_c18 HQ.out.box; have c19 := pat_c19 HQ.out.box; have c20 := pat_c20 HQ.out.box; have c21 := pat_c21 HQ.out.box; have c22 := pat_c22 HQ.out.box; have c23 := pat_c23 HQ.out.box; have c24 := pat_c24 HQ.out.box) | ((with_reducible refine gate_dst (N := 28) rfl ?_); refine wpList_load_row rfl 26 (.tmp 1) rfl w.heap.size rfl 26 (patC L M ⟨pos, false, neg⟩) (0, 0) _ HQ.out.box Try.underlying26 rfl info26 ?_) | (go_at_call 23; (with_reducible refine (half_calls L pos _ (HL.out.below HQ.out.below)).mono ?_); rintro e w1 ⟨rfl, hb⟩; have nq := aMk (HQ.out.step hb); clear HQ hb c0 c1 c2 c3 c4 c5 c6 c7 c8 c9 c10 c11 c12 c13 c14 c15 c16 c17 c18 c19 c20 c21 c22 c23 c24; have HQ := nq; clear nq; have c0 := pat_c0 HQ.out.box; have c1 := pat_c1 HQ.out.box; have c2 := pat_c2 HQ.out.box; have c3 := pat_c3 HQ.out.box; have c4 := pat_c4 HQ.out.box; have c5 := pat_c5 HQ.out.box; have c6 := pat_c6 HQ.out.box; have c7 := pat_c7 HQ.out.box; have c8 := pat_c8 HQ.out.box; have c9 := pat_c9 HQ.out.box; have c10 := pat_c10 HQ.out.box; have c11 := pat_c11 HQ.out.box; have c12 := pat_c12 HQ.out.box; have c13 := pat_c13 HQ.out.box; have c14 := pat_c14 HQ.out.box; have c15 := pat_c15 HQ.out.box; have c16 := pat_c16 HQ.out.box; have c17 := pat_c17 HQ.out.box; have c18 := pat_c18 HQ.out.box; have c19 := pat_c19 HQ.out.box; have c20 := pat_c20 HQ.out.box; have c21 := pat_c21 HQ.out.box; have c22 := pat_c22 HQ.out.box; have c23 := pat_c23 HQ.out.box; have c24 := pat_c24 HQ.out.box) | (go_at_call 24; (with_reducible refine (zero_calls M neg _).mono ?_); rintro e w1 ⟨rfl, hb⟩; have nq := aMk (HQ.out.step hb); clear HQ hb c0 c1 c2 c3 c4 c5 c6 c7 c8 c9 c10 c11 c12 c13 c14 c15 c16 c17 c18 c19 c20 c21 c22 c23 c24; have HQ := nq; clear nq; have c0 := pat_c0 HQ.out.box; have c1 := pat_c1 HQ.out.box; have c2 := pat_c2 HQ.out.box; have c3 := pat_c3 HQ.out.box; have c4 := pat_c4 HQ.out.box; have c5 := pat_c5 HQ.out.box; have c6 := pat_c6 HQ.out.box; have c7 := pat_c7 HQ.out.box; have c8 := pat_c8 HQ.out.box; have c9 := pat_c9 HQ.out.box; have c10 := pat_c10 HQ.out.box; have c11 := pat_c11 HQ.out.box; have c12 := pat_c12 HQ.out.box; have c13 := pat_c13 HQ.out.box; have c14 := pat_c14 HQ.out.box; have c15 := pat_c15 HQ.out.box; have c16 := pat_c16 HQ.out.box; have c17 := pat_c17 HQ.out.box; have c18 := pat_c18 HQ.out.box; have c19 := pat_c19 HQ.out.box; have c20 := pat_c20 HQ.out.box; have c21 := pat_c21 HQ.out.box; have c22 := pat_c22 HQ.out.box; have c23 := pat_c23 HQ.out.box; have c24 := pat_c24 HQ.out.box) | (go_at_call 20; (with_reducible refine (whole_walk L M pos false neg _ (Glob_below HG.out HQ.out.below) (HL.out.below HQ.out.below) (HM.out.below HQ.out.below) H1.out (fun e => Bool.noConfusion e)).mono ?_); rintro e w1 ⟨rfl, hb⟩; have nq := aMk (HQ.out.step hb); clear HQ hb c0 c1 c2 c3 c4 c5 c6 c7 c8 c9 c10 c11 c12 c13 c14 c15 c16 c17 c18 c19 c20 c21 c22 c23 c24; have HQ := nq; clear nq; have c0 := pat_c0 HQ.out.box; have c1 := pat_c1 HQ.out.box; have c2 := pat_c2 HQ.out.box; have c3 := pat_c3 HQ.out.box; have c4 := pat_c4 HQ.out.box; have c5 := pat_c5 HQ.out.box; have c6 := pat_c6 HQ.out.box; have c7 := pat_c7 HQ.out.box; have c8 := pat_c8 HQ.out.box; have c9 := pat_c9 HQ.out.box; have c10 := pat_c10 HQ.out.box; have c11 := pat_c11 HQ.out.box; have c12 := pat_c12 HQ.out.box; have c13 := pat_c13 HQ.out.box; have c14 := pat_c14 HQ.out.box; have c15 := pat_c15 HQ.out.box; have c16 := pat_c16 HQ.out.box; have c17 := pat_c17 HQ.out.box; have c18 := pat_c18 HQ.out.box; have c19 := pat_c19 HQ.out.box; have c20 := pat_c20 HQ.out.box; have c21 := pat_c21 HQ.out.box; have c22 := pat_c22 HQ.out.box; have c23 := pat_c23 HQ.out.box; have c24 := pat_c24 HQ.out.box))
   go_ret
   exact ⟨ret_int HE.out.symm, HQ.out.below⟩
set_option maxHeartbeats 8000000 in
set_option maxRecDepth 100000 in
theorem pprint_walk (L M : Sl) (pos : Sb) (ng : Bool) (neg : Sb) (w : World) (hG : Glob w) (hl : SubOk w L pos) (hm : SubOk w M neg) : Calls Try.prog 9 #[patV L M ⟨pos, ng, neg⟩] w fun e w' => e = .returned (.tuple #[.string (printP ⟨pos, ng, neg⟩).1, .int .i64 (printP ⟨pos, ng, neg⟩).2]) ∧ Below w.heap.size w w' := by
 have HL := aMk hl
 have HM := aMk hm
 have HG := aMk hG
 by_cases hc : checkP ⟨pos, ng, neg⟩ = 0
 ·have HE := aMk (show printP ⟨pos, ng, neg⟩ = (wholeS ⟨pos, ng, neg⟩, 0) by unfold printP; rw [if_pos hc])
  have hf : formB ⟨pos, ng, neg⟩ = true := by
   unfold checkP at hc
   split at hc
   ·assumption
   ·exact absurd hc (by decide)
  have HF := form_good hl hm hf
  have H1 : Aside0 (Good pos) := ⟨HF.1⟩
  have H2 : Aside0 (ng = true → Good neg) := ⟨HF.2⟩
  have d1 : (checkP ⟨pos, ng, neg⟩ != 0) = false := by rw [hc]; rfl
  clear hl hm hG hc hf HF
  go_enter Try.func9, Try.ntmps9
  go_wp2_with (first | ((with_reducible refine gate_dst (N := 1) rfl ?_); refine box_event ?hg (N := 1) ?hd (cs := patC L M ⟨pos, ng, neg⟩) (t := 26) ?hr ?_; (case hd => rfl); (case hg => rfl); (case hr => first | (go_simp; done) | (go_simp; rfl)); intro gb hgb w1 hbox hbb; subst hgb; have HQ : Aside0 (PW w w1 L M ⟨pos, ng, neg⟩) := ⟨⟨hbox, hbb⟩⟩; clear hbox hbb; have c0 := pat_c0 HQ.out.box; have c1 := pat_c1 HQ.out.box; have c2 := pat_c2 HQ.out.box; have c3 := pat_c3 HQ.out.box; have c4 := pat_c4 HQ.out.box; have c5 := pat_c5 HQ.out.box; have c6 := pat_c6 HQ.out.box; have c7 := pat_c7 HQ.out.box; have c8 := pat_c8 HQ.out.box; have c9 := pat_c9 HQ.out.box; have c10 := pat_c10 HQ.out.box; have c11 := pat_c11 HQ.out.box; have c12 := pat_c12 HQ.out.box; have c13 := pat_c13 HQ.out.box; have c14 := pat_c14 HQ.out.box; have c15 := pat_c15 HQ.out.box; have c16 := pat_c16 HQ.out.box; have c17 := pat_c17 HQ.out.box; have c18 := pat_c18 HQ.out.box; have c19 := pat_c19 HQ.out.box; have c20 := pat_c20 HQ.out.box; have c21 := pat_c21 HQ.out.box; have c22 := pat_c22 HQ.out.box; have c23 := pat_c23 HQ.out.box; have c24 := pat_c24 HQ.out.box) | ((with_reducible refine gate_dst (N := 5) rfl ?_); refine wpList_load_row rfl 26 (.tmp 1) rfl w.heap.size rfl 26 (patC L M ⟨pos, ng, neg⟩) (0, 0) _ HQ.out.box Try.underlying26 rfl info26 ?_) | ((with_reducible refine gate_dst (N := 10) rfl ?_); refine wpList_load_row rfl 26 (.tmp 1) rfl w.heap.size rfl 26 (patC L M ⟨pos, ng, neg⟩) (0, 0) _ HQ.out.box Try.underlying26 rfl info26 ?_) | (go_at_call 11; (with_reducible refine (pcheck_walk L M pos ng neg _ (Glob_below HG.out HQ.out.below) (HL.out.below HQ.out.below) (HM.out.below HQ.out.below)).mono ?_); rintro e w1 ⟨rfl, hb⟩; have nq := aMk (HQ.out.step hb); clear HQ hb c0 c1 c2 c3 c4 c5 c6 c7 c8 c9 c10 c11 c12 c13 c14 c15 c16 c17 c18 c19 c20 c21 c22 c23 c24; have HQ := nq; clear nq; have c0 := pat_c0 HQ.out.box; have c1 := pat_c1 HQ.out.box; have c2 := pat_c2 HQ.out.box; have c3 := pat_c3 HQ.out.box; have c4 := pat_c4 HQ.out.box; have c5 := pat_c5 HQ.out.box; have c6 := pat_c6 HQ.out.box; have c7 := pat_c7 HQ.out.box; have c8 := pat_c8 HQ.out.box; have c9 := pat_c9 HQ.out.box; have c10 := pat_c10 HQ.out.box; have c11 := pat_c11 HQ.out.box; have c12 := pat_c12 HQ.out.box; have c13 := pat_c13 HQ.out.box; have c14 := pat_c14 HQ.out.box; have c15 := pat_c15 HQ.out.box; have c16 := pat_c16 HQ.out.box; have c17 := pat_c17 HQ.out.box; have c18 := pat_c18 HQ.out.box; have c19 := pat_c19 HQ.out.box; have c20 := pat_c20 HQ.out.box; have c21 := pat_c21 HQ.out.box; have c22 := pat_c22 HQ.out.box; have c23 := pat_c23 HQ.out.box; have c24 := pat_c24 HQ.out.box) | (go_at_call 20; (with_reducible refine (whole_walk L M pos ng neg _ (Glob_below HG.out HQ.out.below) (HL.out.below HQ.out.below) (HM.out.below HQ.out.below) H1.out H2.out).mono ?_); rintro e w1 ⟨rfl, hb⟩; have nq := aMk (HQ.out.step hb); clear HQ hb c0 c1 c2 c3 c4 c5 c6 c7 c8 c9 c10 c11 c12 c13 c14 c15 c16 c17 c18 c19 c20 c21 c22 c23 c24; have HQ := nq; clear nq; have c0 := pat_c0 HQ.out.box; have c1 := pat_c1 HQ.out.box; have c2 := pat_c2 HQ.out.box; have c3 := pat_c3 HQ.out.box; have c4 := pat_c4 HQ.out.box; have c5 := pat_c5 HQ.out.box; have c6 := pat_c6 HQ.out.box; have c7 := pat_c7 HQ.out.box; have c8 := pat_c8 HQ.out.box; have c9 := pat_c9 HQ.out.box; have c10 := pat_c10 HQ.out.box; have c11 := pat_c11 HQ.out.box; have c12 := pat_c12 HQ.out.box; have c13 := pat_c13 HQ.out.box; have c14 := pat_c14 HQ.out.box; have c15 := pat_c15 HQ.out.box; have c16 := pat_c16 HQ.out.box; have c17 := pat_c17 HQ.out.box; have c18 := pat_c18 HQ.out.box; have c19 := pat_c19 HQ.out.box; have c20 := pat_c20 HQ.out.box; have c21 := pat_c21 HQ.out.box; have c22 := pat_c22 HQ.out.box; have c23 := pat_c23 HQ.out.box; have c24 := pat_c24 HQ.out.box))
  go_ret2
  exact ⟨by rw [HE.out]; rfl, HQ.out.below⟩
 ·have HE := aMk (show printP ⟨pos, ng, neg⟩ = (⟨#[]⟩, checkP ⟨pos, ng, neg⟩) by unfold printP; rw [if_neg hc])
  have d1 : (checkP ⟨pos, ng, neg⟩ != 0) = true := bnT hc
  clear hl hm hG hc
  go_enter Try.func9, Try.ntmps9
  go_wp2_with (first | ((with_reducible refine gate_dst (N := 1) rfl ?_); refine box_event ?hg (N := 1) ?hd (cs := patC L M ⟨pos, ng, neg⟩) (t := 26) ?hr ?_; (case hd => rfl); (case hg => rfl); (case hr => first | (go_simp; done) | (go_simp; rfl)); intro gb hgb w1 hbox hbb; subst hgb; have HQ : Aside0 (PW w w1 L M ⟨pos, ng, neg⟩) := ⟨⟨hbox, hbb⟩⟩; clear hbox hbb; have c0 := pat_c0 HQ.out.box; have c1 := pat_c1 HQ.out.box; have c2 := pat_c2 HQ.out.box; have c3 := pat_c3 HQ.out.box; have c4 := pat_c4 HQ.out.box; have c5 := pat_c5 HQ.out.box; have c6 := pat_c6 HQ.out.box; have c7 := pat_c7 HQ.out.box; have c8 := pat_c8 HQ.out.box; have c9 := pat_c9 HQ.out.box; have c10 := pat_c10 HQ.out.box; have c11 := pat_c11 HQ.out.box; have c12 := pat_c12 HQ.out.box; have c13 := pat_c13 HQ.out.box; have c14 := pat_c14 HQ.out.box; have c15 := pat_c15 HQ.out.box; have c16 := pat_c16 HQ.out.box; have c17 := pat_c17 HQ.out.box; have c18 := pat_c18 HQ.out.box; have c19 := pat_c19 HQ.out.box; have c20 := pat_c20 HQ.out.box; have c21 := pat_c21 HQ.out.box; have c22 := pat_c22 HQ.out.box; have c23 := pat_c23 HQ.out.box; have c24 := pat_c24 HQ.out.box) | ((with_reducible refine gate_dst (N := 5) rfl ?_); refine wpList_load_row rfl 26 (.tmp 1) rfl w.heap.size rfl 26 (patC L M ⟨pos, ng, neg⟩) (0, 0) _ HQ.out.box Try.underlying26 rfl info26 ?_) | (go_at_call 11; (with_reducible refine (pcheck_walk L M pos ng neg _ (Glob_below HG.out HQ.out.below) (HL.out.below HQ.out.below) (HM.out.below HQ.out.below)).mono ?_); rintro e w1 ⟨rfl, hb⟩; have nq := aMk (HQ.out.step hb); clear HQ hb c0 c1 c2 c3 c4 c5 c6 c7 c8 c9 c10 c11 c12 c13 c14 c15 c16 c17 c18 c19 c20 c21 c22 c23 c24; have HQ := nq; clear nq; have c0 := pat_c0 HQ.out.box; have c1 := pat_c1 HQ.out.box; have c2 := pat_c2 HQ.out.box; have c3 := pat_c3 HQ.out.box; have c4 := pat_c4 HQ.out.box; have c5 := pat_c5 HQ.out.box; have c6 := pat_c6 HQ.out.box; have c7 := pat_c7 HQ.out.box; have c8 := pat_c8 HQ.out.box; have c9 := pat_c9 HQ.out.box; have c10 := pat_c10 HQ.out.box; have c11 := pat_c11 HQ.out.box; have c12 := pat_c12 HQ.out.box; have c13 := pat_c13 HQ.out.box; have c14 := pat_c14 HQ.out.box; have c15 := pat_c15 HQ.out.box; have c16 := pat_c16 HQ.out.box; have c17 := pat_c17 HQ.out.box; have c18 := pat_c18 HQ.out.box; have c19 := pat_c19 HQ.out.box; have c20 := pat_c20 HQ.out.box; have c21 := pat_c21 HQ.out.box; have c22 := pat_c22 HQ.out.box; have c23 := pat_c23 HQ.out.box; have c24 := pat_c24 HQ.out.box))
  go_ret2
  exact ⟨by rw [HE.out]; rfl, HQ.out.below⟩
end Go.Proofs.Ytacnjemndfmbhaa.Q
end
section
namespace Go.Proofs.Ytacnjemndfmbhaa.Q
open Go.RowKit Go.Proofs.Ytacnjemndfmbhaa.A Go.Proofs.YtacnjemndfmbhaaW.PrintWords Go.Proofs.YtacnjemndfmbhaaW.PrintLast Go.Proofs.YtacnjemndfmbhaaW.PrintMore
set_option linter.unusedVariables false
set_option linter.unusedSimpArgs false
def RowIn (w : World) (base : Nat) (ok : Nat → Prop) (A : Option Addr) (xs : List S53) : Prop := ∃ c, Kd.R k53 53 w base ok (.slice A xs.length c) xs
theorem RowIn.C {w : World} {base : Nat} {ok : Nat → Prop} {A : Option Addr} {xs : List S53} (h : RowIn w base ok A xs) : Kd.C k53 w A xs.length xs := by
 obtain ⟨c, h⟩ := h
 exact (Kd.R_reads' h).2.2
theorem RowIn.below {w w1 : World} {base : Nat} {ok : Nat → Prop} {A : Option Addr} {xs : List S53} (h : RowIn w base ok A xs) (hb : Below w.heap.size w w1) : RowIn w1 base ok A xs := by
 obtain ⟨c, h⟩ := h
 exact ⟨c, Kd.R_below h hb⟩
theorem RowIn.nil (w : World) (base : Nat) (ok : Nat → Prop) : RowIn w base ok none [] := ⟨0, Kd.R_nil _ _ _ _ _⟩
theorem ne5348 : ∀ q, q ∈ (53 : Nat) :: k53.E → q ≠ 48 := by
 intro q hq
 have : q = 53 := aP94
 rw [this]; decide
theorem row_set {w : World} {base g : Nat} {ok : Nat → Prop} {A : Option Addr} {xs : List S53} {cs : Array Value} (h : RowIn w base ok A xs) (hb : w.heap[g]? = some (.cells cs 48 (0, 0))) (i : Nat) (v : Value) : RowIn (w.setCell ⟨g, i, none⟩ v) base ok A xs := by
 obtain ⟨c, h⟩ := h
 exact ⟨c, Kd.R_set h hb ne5348 i v⟩
theorem size_put (w : World) (a : Addr) (v : Value) : (w.setCell a v).heap.size = w.heap.size := by simp [World.setCell]
@[reducible] def scC (L : Sl) (s : ByteArray) (p : Int) (h : Sb) (n : Int) : Array Value := #[.string s, .int .i64 p, .slice L.A h.p.length L.c, .slice L.B h.s.length L.d, .int .i64 h.im, .int .i64 h.fn, .int .i64 h.fx, .int .i64 h.pr, .int .i64 h.se, .int .i64 h.em, .bool h.ep, .string h.pad, .int .i64 h.pa, .int .i64 h.wd, .int .i64 n]
structure Mk where
 m : Nat
 R : World
structure CW (w0 w : World) (g : Nat) (m : Mk) (L : Sl) (s : ByteArray) (p : Int) (h : Sb) (n : Int) : Prop where
 ge : w0.heap.size ≤ g
 blk : w.heap[g]? = some (.cells (scC L s p h n) 48 (0, 0))
 rp : RowIn w w0.heap.size (fun k => k < m.m) L.A h.p
 rs : RowIn w w0.heap.size (fun k => m.m ≤ k) L.B h.s
 below : Below w0.heap.size w0 w
 mw : m.m ≤ w.heap.size
 pc : h.p.length ≤ L.c
 sc : h.s.length ≤ L.d
 rz : m.R.heap.size ≤ w.heap.size
 kept : ∀ k, k < m.R.heap.size → k ≠ g → w.heap[k]? = m.R.heap[k]?
def Fl (w0 w : World) (g : Nat) (R : World) : Prop := Below w0.heap.size w0 w ∧ R.heap.size ≤ w.heap.size ∧ ∀ k, k < R.heap.size → k ≠ g → w.heap[k]? = R.heap[k]?
namespace CW
variable {w0 w w1 : World} {g : Nat} {m : Mk} {L : Sl} {s : ByteArray} {p : Int} {h : Sb} {n : Int} (hh : CW w0 w g m L s p h n)
include hh
theorem fl : Fl w0 w g m.R := ⟨hh.below, hh.rz, hh.kept⟩
theorem step (hb : Below w.heap.size w w1) : CW w0 w1 g m L s p h n := ⟨hh.ge, blk_below hh.blk hb, hh.rp.below hb, hh.rs.below hb, below_step hh.below hb, Nat.le_trans hh.mw hb.size, hh.pc, hh.sc, Nat.le_trans hh.rz hb.size, fun k h1 h2 => (hb.block k (Nat.lt_of_lt_of_le h1 hh.rz)).trans (hh.kept k h1 h2)⟩
theorem drew1 : CW w0 w.drew g m L s p h n := hh.step (below_drew1 (Below.refl _ _))
theorem drewN (k : Nat) : CW w0 (w.drewN k) g m L s p h n := hh.step (pw_below_drewN (Below.refl _ _) k)
theorem c0 : w.cell? ⟨g, 0, none⟩ = some (.string s) := (blk_cell hh.blk 0).trans rfl
theorem c1 : w.cell? ⟨g, 1, none⟩ = some (.int .i64 p) := (blk_cell hh.blk 1).trans rfl
theorem c2 : w.cell? ⟨g, 2, none⟩ = some (.slice L.A h.p.length L.c) := (blk_cell hh.blk 2).trans rfl
theorem c3 : w.cell? ⟨g, 3, none⟩ = some (.slice L.B h.s.length L.d) := (blk_cell hh.blk 3).trans rfl
theorem c4 : w.cell? ⟨g, 4, none⟩ = some (.int .i64 h.im) := (blk_cell hh.blk 4).trans rfl
theorem c5 : w.cell? ⟨g, 5, none⟩ = some (.int .i64 h.fn) := (blk_cell hh.blk 5).trans rfl
theorem c6 : w.cell? ⟨g, 6, none⟩ = some (.int .i64 h.fx) := (blk_cell hh.blk 6).trans rfl
theorem c7 : w.cell? ⟨g, 7, none⟩ = some (.int .i64 h.pr) := (blk_cell hh.blk 7).trans rfl
theorem c8 : w.cell? ⟨g, 8, none⟩ = some (.int .i64 h.se) := (blk_cell hh.blk 8).trans rfl
theorem c9 : w.cell? ⟨g, 9, none⟩ = some (.int .i64 h.em) := (blk_cell hh.blk 9).trans rfl
theorem c10 : w.cell? ⟨g, 10, none⟩ = some (.bool h.ep) := (blk_cell hh.blk 10).trans rfl
theorem c11 : w.cell? ⟨g, 11, none⟩ = some (.string h.pad) := (blk_cell hh.blk 11).trans rfl
theorem c12 : w.cell? ⟨g, 12, none⟩ = some (.int .i64 h.pa) := (blk_cell hh.blk 12).trans rfl
theorem c13 : w.cell? ⟨g, 13, none⟩ = some (.int .i64 h.wd) := (blk_cell hh.blk 13).trans rfl
theorem c14 : w.cell? ⟨g, 14, none⟩ = some (.int .i64 n) := (blk_cell hh.blk 14).trans rfl
theorem fz (i : Nat) : w.frozen? ⟨g, i, none⟩ = false := blk_frozen hh.blk i
theorem set_im (v : Int) : CW w0 (w.setCell ⟨g, 4, none⟩ (.int .i64 v)) g m L s p {h with im := v} n := ⟨hh.ge, blk_put hh.blk 4 _ rfl, row_set hh.rp hh.blk 4 _, row_set hh.rs hh.blk 4 _, below_set hh.below hh.ge, aP132, hh.pc, hh.sc, aP133, fun k h1 h2 => (Below.heap_setCell w _ _ k h2).trans (hh.kept k h1 h2)⟩
theorem set_fn (v : Int) : CW w0 (w.setCell ⟨g, 5, none⟩ (.int .i64 v)) g m L s p {h with fn := v} n := ⟨hh.ge, blk_put hh.blk 5 _ rfl, row_set hh.rp hh.blk 5 _, row_set hh.rs hh.blk 5 _, below_set hh.below hh.ge, aP132, hh.pc, hh.sc, aP133, fun k h1 h2 => (Below.heap_setCell w _ _ k h2).trans (hh.kept k h1 h2)⟩
theorem set_fx (v : Int) : CW w0 (w.setCell ⟨g, 6, none⟩ (.int .i64 v)) g m L s p {h with fx := v} n := ⟨hh.ge, blk_put hh.blk 6 _ rfl, row_set hh.rp hh.blk 6 _, row_set hh.rs hh.blk 6 _, below_set hh.below hh.ge, aP132, hh.pc, hh.sc, aP133, fun k h1 h2 => (Below.heap_setCell w _ _ k h2).trans (hh.kept k h1 h2)⟩
theorem set_pr (v : Int) : CW w0 (w.setCell ⟨g, 7, none⟩ (.int .i64 v)) g m L s p {h with pr := v} n := ⟨hh.ge, blk_put hh.blk 7 _ rfl, row_set hh.rp hh.blk 7 _, row_set hh.rs hh.blk 7 _, below_set hh.below hh.ge, aP132, hh.pc, hh.sc, aP133, fun k h1 h2 => (Below.heap_setCell w _ _ k h2).trans (hh.kept k h1 h2)⟩
theorem set_se (v : Int) : CW w0 (w.setCell ⟨g, 8, none⟩ (.int .i64 v)) g m L s p {h with se := v} n := ⟨hh.ge, blk_put hh.blk 8 _ rfl, row_set hh.rp hh.blk 8 _, row_set hh.rs hh.blk 8 _, below_set hh.below hh.ge, aP132, hh.pc, hh.sc, aP133, fun k h1 h2 => (Below.heap_setCell w _ _ k h2).trans (hh.kept k h1 h2)⟩
theorem set_em (v : Int) : CW w0 (w.setCell ⟨g, 9, none⟩ (.int .i64 v)) g m L s p {h with em := v} n := ⟨hh.ge, blk_put hh.blk 9 _ rfl, row_set hh.rp hh.blk 9 _, row_set hh.rs hh.blk 9 _, below_set hh.below hh.ge, aP132, hh.pc, hh.sc, aP133, fun k h1 h2 => (Below.heap_setCell w _ _ k h2).trans (hh.kept k h1 h2)⟩
theorem set_ep (v : Bool) : CW w0 (w.setCell ⟨g, 10, none⟩ (.bool v)) g m L s p {h with ep := v} n := ⟨hh.ge, blk_put hh.blk 10 _ rfl, row_set hh.rp hh.blk 10 _, row_set hh.rs hh.blk 10 _, below_set hh.below hh.ge, aP132, hh.pc, hh.sc, aP133, fun k h1 h2 => (Below.heap_setCell w _ _ k h2).trans (hh.kept k h1 h2)⟩
theorem set_pad (v : ByteArray) : CW w0 (w.setCell ⟨g, 11, none⟩ (.string v)) g m L s p {h with pad := v} n := ⟨hh.ge, blk_put hh.blk 11 _ rfl, row_set hh.rp hh.blk 11 _, row_set hh.rs hh.blk 11 _, below_set hh.below hh.ge, aP132, hh.pc, hh.sc, aP133, fun k h1 h2 => (Below.heap_setCell w _ _ k h2).trans (hh.kept k h1 h2)⟩
theorem set_pa (v : Int) : CW w0 (w.setCell ⟨g, 12, none⟩ (.int .i64 v)) g m L s p {h with pa := v} n := ⟨hh.ge, blk_put hh.blk 12 _ rfl, row_set hh.rp hh.blk 12 _, row_set hh.rs hh.blk 12 _, below_set hh.below hh.ge, aP132, hh.pc, hh.sc, aP133, fun k h1 h2 => (Below.heap_setCell w _ _ k h2).trans (hh.kept k h1 h2)⟩
theorem set_wd (v : Int) : CW w0 (w.setCell ⟨g, 13, none⟩ (.int .i64 v)) g m L s p {h with wd := v} n := ⟨hh.ge, blk_put hh.blk 13 _ rfl, row_set hh.rp hh.blk 13 _, row_set hh.rs hh.blk 13 _, below_set hh.below hh.ge, aP132, hh.pc, hh.sc, aP133, fun k h1 h2 => (Below.heap_setCell w _ _ k h2).trans (hh.kept k h1 h2)⟩
theorem set_at (v : Int) : CW w0 (w.setCell ⟨g, 1, none⟩ (.int .i64 v)) g m L s v h n := ⟨hh.ge, blk_put hh.blk 1 _ rfl, row_set hh.rp hh.blk 1 _, row_set hh.rs hh.blk 1 _, below_set hh.below hh.ge, aP132, hh.pc, hh.sc, aP133, fun k h1 h2 => (Below.heap_setCell w _ _ k h2).trans (hh.kept k h1 h2)⟩
theorem set_long (v : Int) : CW w0 (w.setCell ⟨g, 14, none⟩ (.int .i64 v)) g m L s p h v := ⟨hh.ge, blk_put hh.blk 14 _ rfl, row_set hh.rp hh.blk 14 _, row_set hh.rs hh.blk 14 _, below_set hh.below hh.ge, aP132, hh.pc, hh.sc, aP133, fun k h1 h2 => (Below.heap_setCell w _ _ k h2).trans (hh.kept k h1 h2)⟩
end CW
def bAt (s : ByteArray) (p b : Int) : Bool := decide (p < (s.size : Int)) && bt s p == b
def nextP (s : ByteArray) (p b : Int) : Int := if bAt s p b = true then p + 1 else p
theorem nextP_yes {s : ByteArray} {p b : Int} (h : bAt s p b = true) : nextP s p b = p + 1 := by unfold nextP; rw [if_pos h]
theorem nextP_no {s : ByteArray} {p b : Int} (h : bAt s p b = false) : nextP s p b = p := by unfold nextP; rw [if_neg (by rw [h]; decide)]
def runF (s : ByteArray) (b : Int) : Nat → Int → Int
 | 0, _ => 0
 | d + 1, p => if bAt s p b = true then 1 + runF s b d (p + 1) else 0
def runN (s : ByteArray) (b : Int) (p : Int) : Int := runF s b ((s.size : Int) - p).toNat p
theorem runF_range (s : ByteArray) (b : Int) : ∀ (d : Nat) (p : Int), 0 ≤ runF s b d p ∧ (p ≤ s.size → p + runF s b d p ≤ s.size)
 | 0, p => ⟨Int.le_refl _, fun h => by simp [runF]; exact h⟩
 | d + 1, p => by
  obtain ⟨h1, h2⟩ := runF_range s b d (p + 1)
  unfold runF
  split
  ·rename_i h
   simp only [bAt, Bool.and_eq_true, decide_eq_true_eq] at h
   exact ⟨by omega, fun _ => by have := h2 (by omega); omega⟩
  ·exact ⟨Int.le_refl _, fun h => by omega⟩
set_option maxHeartbeats 4000000 in
set_option maxRecDepth 100000 in
theorem next_calls {w0 w : World} {g : Nat} {m : Mk} {L : Sl} {s : ByteArray} {p : Int} {h : Sb} {n : Int} (hh : CW w0 w g m L s p h n) (b : Int) (h0 : 0 ≤ p) (hs : s.size ≤ 128) :
  Calls Try.prog 27 #[.pointer (some ⟨g, 0, none⟩), .int .u8 b] w fun e w' => e = .returned (.bool (bAt s p b)) ∧ CW w0 w' g m L s (nextP s p b) h n := by
 have HC := aMk hh
 have e0 := HC.out.c0
 have e1 := HC.out.c1
 have e2 := HC.out.c2
 have e3 := HC.out.c3
 have e4 := HC.out.c4
 have e5 := HC.out.c5
 have e6 := HC.out.c6
 have e7 := HC.out.c7
 have e8 := HC.out.c8
 have e9 := HC.out.c9
 have e10 := HC.out.c10
 have e11 := HC.out.c11
 have e12 := HC.out.c12
 have e13 := HC.out.c13
 have e14 := HC.out.c14
 have z1 := hh.fz 1
 have p5 := eq_true h0
 have hx5 := bt_at s p
 clear hh
 by_cases c3 : p < (s.size : Int)
 ·have q5 := eq_true c3
  have c3b0 : decide (p < (s.size : Int)) = true := dTr c3
  have hp1 : p ≤ 128 := by omega
  cases c6 : (bt s p == b)
  ·have HB := aMk (show bAt s p b = false by unfold bAt; rw [c3b0, c6]; rfl)
   clear c3 hp1
   go_enter Try.func27, Try.ntmps27
   go_wp2
   repeat (go_quiet (fail); try go_wp2)
   go_ret
   exact ⟨ret_bool HB.out.symm, by rw [nextP_no HB.out]; exact HC.out.drewN _⟩
  ·have HB := aMk (show bAt s p b = true by unfold bAt; rw [c3b0, c6]; rfl)
   clear c3
   go_enter Try.func27, Try.ntmps27
   go_wp2
   repeat (go_quiet (fail); try go_wp2)
   go_ret
   exact ⟨ret_bool HB.out.symm, by rw [nextP_yes HB.out]; exact (HC.out.drewN _).set_at _⟩
 ·have c3b0 : decide (p < (s.size : Int)) = false := dFa c3
  have HB := aMk (show bAt s p b = false by unfold bAt; rw [c3b0]; rfl)
  clear c3
  go_enter Try.func27, Try.ntmps27
  go_wp2
  repeat (go_quiet (fail); try go_wp2)
  go_ret
  exact ⟨ret_bool HB.out.symm, by rw [nextP_no HB.out]; exact HC.out.drewN _⟩
set_option maxHeartbeats 4000000 in
set_option maxRecDepth 100000 in
theorem many_calls {w0 w : World} {g : Nat} {m : Mk} {L : Sl} {s : ByteArray} {p : Int} {h : Sb} {n : Int} (hh : CW w0 w g m L s p h n) (b : Int) (h0 : 0 ≤ p) (hp : p ≤ s.size) (hs : s.size ≤ 128) :
  Calls Try.prog 66 #[.pointer (some ⟨g, 0, none⟩), .int .u8 b] w fun e w' => e = .returned (.int .i64 (runN s b p)) ∧ CW w0 w' g m L s (p + runN s b p) h n := by
 have HC := aMk hh
 have HP := aMk (show 0 ≤ p ∧ p ≤ s.size ∧ s.size ≤ 128 from ⟨h0, hp, hs⟩)
 clear hh h0 hp hs
 go_enter Try.func66, Try.ntmps66
 go_wp2
 go_loopg [5] ((s.size : Int) - p).toNat (fun gk v5 wr => ∃ (k q : Int), v5 = .int .i64 k ∧ Aside0 (q = p + k ∧ 0 ≤ k ∧ q ≤ s.size ∧ (gk : Int) = s.size - q) ∧ Aside0 (runN s b p = k + runF s b gk q) ∧ Aside0 (CW w0 wr g m L s q h n))
 case atStart => exact ⟨0, p, rfl, ⟨by have := HP.out; omega⟩, ⟨by unfold runN; omega⟩, HC⟩
 case round =>
  clear HC
  obtain ⟨k, q, rfl, HI, HR, HC⟩ := hrel
  cases gk with
  | zero =>
   have HB := aMk (show bAt s q b = false by unfold bAt; rw [dFa (by have := HI.out; omega)]; rfl)
   have HE := aMk (show runN s b p = k by rw [HR.out]; simp [runF])
   exact aP57
  | succ d =>
   cases hb : bAt s q b with
   | false =>
    have HB := aMk hb
    have HE := aMk (show runN s b p = k by rw [HR.out]; simp [runF, hb])
    clear hb
    exact aP57
   | true =>
    have HB := aMk hb
    have HE := aMk (show runN s b p = k + 1 + runF s b d (q + 1) by rw [HR.out]; simp only [runF, hb, if_true]; omega)
    have k0 : 0 ≤ k := HI.out.2.1
    have k1 : k ≤ 128 := aP134
    clear hb
    go_wp2_with (go_at_call 27; (with_reducible refine (next_calls HC.out b ?s1 HP.out.2.2).mono ?_); (case s1 => have := HI.out; have := HP.out; omega); rw [HB.out, nextP_yes HB.out]; rintro e w1 ⟨rfl, hc⟩; have nc := aMk hc; clear HC hc; have HC := nc; clear nc)
    go_roundg d
    case measure => omega
    case rel => exact ⟨k + 1, q + 1, aP92, ⟨by have := HI.out; omega⟩, HE, HC⟩
end Go.Proofs.Ytacnjemndfmbhaa.Q
end
section
namespace Go.Proofs.Ytacnjemndfmbhaa.Q
open Go.RowKit Go.Proofs.Ytacnjemndfmbhaa.A Go.Proofs.YtacnjemndfmbhaaW.PrintWords Go.Proofs.YtacnjemndfmbhaaW.PrintLast Go.Proofs.YtacnjemndfmbhaaW.PrintMore
set_option linter.unusedVariables false
set_option linter.unusedSimpArgs false
noncomputable def fillF (s : ByteArray) (p : Int) (h : Sb) (k : Int) : Option (Int × Sb) :=
 if bAt s p 42 = true then (if (runeS s (p + 1) == 0 || !h.pad.toList.isEmpty) = true then none else some (p + 1 + runeS s (p + 1), {h with pad := s.extract (p + 1).toNat (p + 1 + runeS s (p + 1)).toNat, pa := k})) else some (p, h)
def Done (w0 : World) (g : Nat) (m : Mk) (L : Sl) (s : ByteArray) (n : Int) (r : Option (Int × Sb)) (e : Ending) (w' : World) : Prop :=
 match r with
 | none => e = .returned (.bool false) ∧ Fl w0 w' g m.R
 | some x => e = .returned (.bool true) ∧ CW w0 w' g m L s x.1 x.2 n
theorem runeS_in (s : ByteArray) (p : Int) (h : runeS s p ≠ 0) : 1 ≤ runeS s p ∧ runeS s p ≤ 4 ∧ 0 ≤ p ∧ p + runeS s p ≤ s.size := by
 rw [runeS_eq] at h ⊢
 exact rune_pos s p h
set_option maxHeartbeats 8000000 in
set_option maxRecDepth 100000 in
theorem fill_calls {w0 w : World} {g : Nat} {m : Mk} {L : Sl} {s : ByteArray} {p : Int} {h : Sb} {n : Int} (hh : CW w0 w g m L s p h n) (k : Int) (h0 : 0 ≤ p) (hs : s.size ≤ 128) :
  Calls Try.prog 63 #[.pointer (some ⟨g, 0, none⟩), .int .i64 k] w (Done w0 g m L s n (fillF s p h k)) := by
 have HC := aMk hh
 have HP := aMk (show 0 ≤ p ∧ s.size ≤ 128 from ⟨h0, hs⟩)
 clear hh h0 hs
 cases hb : bAt s p 42 with
 | false =>
  have HB := aMk hb
  have HE := aMk (show fillF s p h k = some (p, h) by unfold fillF; rw [if_neg (by rw [hb]; decide)])
  clear hb
  rw [HE.out]
  go_enter Try.func63, Try.ntmps63
  go_wp2_with (go_at_call 27; (with_reducible refine (next_calls HC.out 42 HP.out.1 HP.out.2).mono ?_); rw [HB.out, nextP_no HB.out]; rintro e w1 ⟨rfl, hc⟩; have nc := aMk hc; clear HC hc; have HC := nc; clear nc)
  go_ret
  exact ⟨rfl, HC.out⟩
 | true =>
  have HB := aMk hb
  have HE := aMk (show fillF s p h k = if (runeS s (p + 1) == 0 || !h.pad.toList.isEmpty) = true then none else some (p + 1 + runeS s (p + 1), {h with pad := s.extract (p + 1).toNat (p + 1 + runeS s (p + 1)).toNat, pa := k}) by unfold fillF; rw [if_pos hb])
  clear hb
  have hs2 : s.size ≤ 281474976710656 := by have := HP.out; omega
  cases r1 : (runeS s (p + 1) == 0) with
  | true =>
   have HE2 := aMk (show fillF s p h k = none by rw [HE.out, r1]; rfl)
   rw [HE2.out]
   go_enter Try.func63, Try.ntmps63
   go_wp2_with (go_at_call 27; (with_reducible refine (next_calls HC.out 42 HP.out.1 HP.out.2).mono ?_); rw [HB.out, nextP_yes HB.out]; rintro e w1 ⟨rfl, hc⟩; have nc := aMk hc; clear HC hc; have HC := nc; clear nc)
   go_region_held3 (fun w' => w'.cell? ⟨g, 0, none⟩ = some (.string s) ∧ w'.cell? ⟨g, 1, none⟩ = some (.int .i64 (p + 1)))
    (first | exact ⟨HC.out.c0, HC.out.c1⟩)
    (first | (go_at_call 62; (with_reducible refine (rune_calls s (p + 1) _ hs2).mono ?_); rintro e w1 ⟨rfl, hb⟩; have nc := aMk ((aP135 : CW w0 _ g m L s (p + 1) h n).step hb); clear HC hb; have HC := nc; clear nc))
   go_wp2
   go_ret
   exact ⟨rfl, HC.out.fl⟩
  | false =>
   cases r2 : h.pad.toList.isEmpty with
   | false =>
    have HE2 := aMk (show fillF s p h k = none by rw [HE.out, r1, r2]; rfl)
    rw [HE2.out]
    go_enter Try.func63, Try.ntmps63
    go_wp2_with (go_at_call 27; (with_reducible refine (next_calls HC.out 42 HP.out.1 HP.out.2).mono ?_); rw [HB.out, nextP_yes HB.out]; rintro e w1 ⟨rfl, hc⟩; have nc := aMk hc; clear HC hc; have HC := nc; clear nc)
    go_region_held3 (fun w' => w'.cell? ⟨g, 0, none⟩ = some (.string s) ∧ w'.cell? ⟨g, 1, none⟩ = some (.int .i64 (p + 1)))
     (first | exact ⟨HC.out.c0, HC.out.c1⟩)
     (first | (go_at_call 62; (with_reducible refine (rune_calls s (p + 1) _ hs2).mono ?_); rintro e w1 ⟨rfl, hb⟩; have nc := aMk ((aP135 : CW w0 _ g m L s (p + 1) h n).step hb); clear HC hb; have HC := nc; clear nc))
    have e11 := HC.out.c11
    go_wp2
    go_ret
    exact ⟨rfl, HC.out.fl⟩
   | true =>
    have HR := aMk (runeS_in s (p + 1) (beq_eq_false_iff_ne.mp r1))
    have HE2 := aMk (show fillF s p h k = some (p + 1 + runeS s (p + 1), {h with pad := s.extract (p + 1).toNat (p + 1 + runeS s (p + 1)).toNat, pa := k}) by rw [HE.out, r1, r2]; rfl)
    rw [HE2.out]
    obtain ⟨q, hq⟩ : ∃ q, p + 1 + runeS s (p + 1) = q := ⟨_, rfl⟩
    rw [hq] at HR ⊢
    have hw : IntKind.i64.wrap (p + 1 + runeS s (p + 1)) = q := by rw [hq]; exact IntWalk.i64_in _ (aP136)
    have b1 : 0 ≤ p + 1 := by have := HP.out; omega
    have b2 : p + 1 ≤ q := by have := HR.out; omega
    have b3 : q ≤ (s.size : Int) := by have := HR.out; omega
    have b4 : (p + 1).toNat ≤ q.toNat := by omega
    have b5 : q.toNat ≤ s.size := by omega
    have b6 : 0 ≤ q := by omega
    clear hq
    go_enter Try.func63, Try.ntmps63
    go_wp2_with (go_at_call 27; (with_reducible refine (next_calls HC.out 42 HP.out.1 HP.out.2).mono ?_); rw [HB.out, nextP_yes HB.out]; rintro e w1 ⟨rfl, hc⟩; have nc := aMk hc; clear HC hc; have HC := nc; clear nc)
    go_region_held3 (fun w' => w'.cell? ⟨g, 0, none⟩ = some (.string s) ∧ w'.cell? ⟨g, 1, none⟩ = some (.int .i64 (p + 1)))
     (first | exact ⟨HC.out.c0, HC.out.c1⟩)
     (first | (go_at_call 62; (with_reducible refine (rune_calls s (p + 1) _ hs2).mono ?_); rintro e w1 ⟨rfl, hb⟩; have nc := aMk ((aP135 : CW w0 _ g m L s (p + 1) h n).step hb); clear HC hb; have HC := nc; clear nc))
    have e0 := HC.out.c0
    have e1 := HC.out.c1
    have e11 := HC.out.c11
    have e12 := HC.out.c12
    have z1 := HC.out.fz 1
    have z11 := HC.out.fz 11
    have z12 := HC.out.fz 12
    go_wp2
    go_region_held3 (fun w' => w'.cell? ⟨g, 0, none⟩ = some (.string s) ∧ w'.cell? ⟨g, 1, none⟩ = some (.int .i64 (p + 1)))
     (first | exact ⟨HC.out.c0, HC.out.c1⟩ | exact ⟨((HC.out.set_pad _).drew1).c0, ((HC.out.set_pad _).drew1).c1⟩ | exact ⟨(((HC.out.set_pad _).set_pa _).drew1).c0, (((HC.out.set_pad _).set_pa _).drew1).c1⟩)
     (fail)
    go_wp2
    go_ret
    exact ⟨rfl, ((((HC.out.set_pad _).set_pa k).set_at q).drew1)⟩
def fracF (s : ByteArray) (p : Int) (h : Sb) : Option (Int × Sb) :=
 if bAt s p 46 = true then (if (runN s 48 (p + 1) + runN s 35 (p + 1 + runN s 48 (p + 1)) == 0) = true then none else some (p + 1 + runN s 48 (p + 1) + runN s 35 (p + 1 + runN s 48 (p + 1)), {h with fn := runN s 48 (p + 1), fx := runN s 48 (p + 1) + runN s 35 (p + 1 + runN s 48 (p + 1))})) else some (p, h)
def expB (s : ByteArray) (p : Int) : Bool := Lib.hasPrefix (s.extract p.toNat s.size).data.toList [69, 48] || Lib.hasPrefix (s.extract p.toNat s.size).data.toList [69, 43, 48]
def expF (s : ByteArray) (p : Int) (h : Sb) : Int × Sb :=
 if expB s p = true then (nextP s (p + 1) 43 + runN s 48 (nextP s (p + 1) 43), {h with ep := bAt s (p + 1) 43, em := runN s 48 (nextP s (p + 1) 43)}) else (p, h)
def tailF (s : ByteArray) (p : Int) (h : Sb) : Option (Int × Sb) := (fracF s p h).map (fun x => expF s x.1 x.2)
def DoneL (w0 : World) (g : Nat) (m : Mk) (L : Sl) (s : ByteArray) (f : Int → Int) (r : Option (Int × Sb)) (e : Ending) (w' : World) : Prop :=
 match r with
 | none => e = .returned (.bool false) ∧ Fl w0 w' g m.R
 | some x => e = .returned (.bool true) ∧ CW w0 w' g m L s x.1 x.2 (f x.1)
theorem doneL_ret {w0 : World} {g : Nat} {m : Mk} {L : Sl} {s : ByteArray} {f : Int → Int} {r : Option (Int × Sb)} {e : Ending} {w' : World} (h : DoneL w0 g m L s f r e w') : e = .returned (.bool r.isSome) := by
 cases r with
 | none => exact h.1
 | some x => exact h.1
theorem done_ret {w0 : World} {g : Nat} {m : Mk} {L : Sl} {s : ByteArray} {n : Int} {r : Option (Int × Sb)} {e : Ending} {w' : World} (h : Done w0 g m L s n r e w') : e = .returned (.bool r.isSome) := by
 cases r with
 | none => exact h.1
 | some x => exact h.1
theorem run_range (s : ByteArray) (b p : Int) (hp : p ≤ s.size) : 0 ≤ runN s b p ∧ p + runN s b p ≤ s.size := by
 obtain ⟨h1, h2⟩ := runF_range s b ((s.size : Int) - p).toNat p
 exact ⟨h1, h2 hp⟩
theorem bAt_in {s : ByteArray} {p b : Int} (h : bAt s p b = true) : p + 1 ≤ s.size := by
 simp only [bAt, Bool.and_eq_true, decide_eq_true_eq] at h
 omega
theorem prefix_size {s : ByteArray} {p : Int} {l : List UInt8} (hl : l ≠ []) (h0 : 0 ≤ p) (h : Lib.hasPrefix (s.extract p.toNat s.size).data.toList l = true) : p + 1 ≤ s.size := by
 rcases l with _ | ⟨b, r⟩
 ·exact absurd rfl hl
 by_cases c : (s.size : Int) ≤ p
 ·have e : (s.extract p.toNat s.size).data.toList = [] := by
   apply List.eq_nil_of_length_eq_zero
   show (s.extract p.toNat s.size).data.toList.length = 0
   rw [Array.length_toList]
   show (s.extract p.toNat s.size).size = 0
   rw [ByteArray.size_extract]
   omega
  rw [e] at h
  exact absurd h (by simp [Lib.hasPrefix])
 ·omega
theorem next_range {s : ByteArray} {p b : Int} (hp : p ≤ s.size) : p ≤ nextP s p b ∧ nextP s p b ≤ s.size := by
 unfold nextP
 split
 ·have := bAt_in (by assumption); omega
 ·omega
theorem exp_in {s : ByteArray} {p : Int} (h0 : 0 ≤ p) (h : expB s p = true) : p + 1 ≤ s.size := by
 unfold expB at h
 rw [Bool.or_eq_true] at h
 rcases h with h | h
 ·exact prefix_size (by simp) h0 h
 ·exact prefix_size (by simp) h0 h
theorem exp_range {s : ByteArray} {q : Int} (h0 : 0 ≤ q) (h1 : q ≤ s.size) (h : Sb) : q ≤ (expF s q h).1 ∧ (expF s q h).1 ≤ s.size := by
 unfold expF
 split
 ·have hi := exp_in h0 (by assumption)
  have hn := next_range (b := 43) hi
  have hr := run_range s 48 _ hn.2
  exact ⟨by show q ≤ nextP s (q + 1) 43 + runN s 48 (nextP s (q + 1) 43); omega, hr.2⟩
 ·exact ⟨Int.le_refl _, h1⟩
set_option maxHeartbeats 8000000 in
set_option maxRecDepth 100000 in
theorem fraction_calls {w0 w : World} {g : Nat} {m : Mk} {L : Sl} {s : ByteArray} {p : Int} {h : Sb} {n : Int} (hh : CW w0 w g m L s p h n) (h0 : 0 ≤ p) (hp : p ≤ s.size) (hs : s.size ≤ 128) (hn : 0 ≤ n ∧ n ≤ 200) :
  Calls Try.prog 42 #[.pointer (some ⟨g, 0, none⟩)] w (DoneL w0 g m L s (fun q => n + (q - p)) (tailF s p h)) := by
 have HC := aMk hh
 have HP := aMk (show (0 ≤ p ∧ p ≤ s.size) ∧ s.size ≤ 128 from ⟨⟨h0, hp⟩, hs⟩)
 have HN := aMk hn
 clear hh h0 hp hs hn
 have e1 := HC.out.c1
 go_enter Try.func42, Try.ntmps42
 go_upto_if 10 with (first | (go_at_call 27; (with_reducible refine (next_calls HC.out 46 HP.out.1.1 HP.out.2).mono ?_); rintro e w1 ⟨rfl, hc⟩; have nc := aMk hc; clear HC hc e1; have HC := nc; clear nc))
 go_cut [] (fun wc => ∃ (q : Int) (h' : Sb), Aside0 (fracF s p h = some (q, h')) ∧ Aside0 (p ≤ q ∧ q ≤ s.size) ∧ Aside0 (CW w0 wc g m L s q h' n))
 case first =>
  cases hb : bAt s p 46 with
  | false =>
   have HF := aMk (show fracF s p h = some (p, h) by unfold fracF; rw [if_neg (by rw [hb]; decide)])
   rw [nextP_no hb] at HC
   clear hb
   go_wp2
   go_meet
   case rel => exact ⟨p, h, HF, ⟨by have := HP.out; omega⟩, HC⟩
  | true =>
   have HF := aMk (show fracF s p h = if (runN s 48 (p + 1) + runN s 35 (p + 1 + runN s 48 (p + 1)) == 0) = true then none else some (p + 1 + runN s 48 (p + 1) + runN s 35 (p + 1 + runN s 48 (p + 1)), {h with fn := runN s 48 (p + 1), fx := runN s 48 (p + 1) + runN s 35 (p + 1 + runN s 48 (p + 1))}) by unfold fracF; rw [if_pos hb])
   have hi := bAt_in hb
   rw [nextP_yes hb] at HC
   clear hb
   have r1 := run_range s 48 (p + 1) hi
   obtain ⟨a, ha⟩ : ∃ a, runN s 48 (p + 1) = a := ⟨_, rfl⟩
   rw [ha] at HF r1
   have r2 := run_range s 35 (p + 1 + a) r1.2
   obtain ⟨b, hb⟩ : ∃ b, runN s 35 (p + 1 + a) = b := ⟨_, rfl⟩
   rw [hb] at HF r2
   have HR := aMk (And.intro r1 r2)
   have HI := aMk hi
   have HA := aMk (And.intro ha hb)
   have k0 : 0 ≤ a := r1.1
   have k1 : a ≤ 128 := by have := HP.out; omega
   have k2 : 0 ≤ b := r2.1
   have k3 : b ≤ 128 := by have := HP.out; omega
   have hw : IntKind.i64.wrap (a + b) = a + b := IntWalk.i64_in _ (by omega)
   clear r1 r2 hi ha hb
   cases hz : (a + b == 0) with
   | true =>
    have HT := aMk (show tailF s p h = none by unfold tailF; rw [HF.out, if_pos hz]; rfl)
    go_wp2_with (first | (go_at_call 66; (with_reducible refine (many_calls HC.out 48 ?s1 HI.out HP.out.2).mono ?_); (case s1 => have := HP.out; omega); rw [HA.out.1]; rintro e w1 ⟨rfl, hc⟩; have nc := aMk (hc.set_fn a); have e5 := hc.c5; have z5 := hc.fz 5; clear HC hc; have HC := nc; clear nc))
    go_region_held3 (fun w' => w'.cell? ⟨g, 5, none⟩ = some (.int .i64 a)) (first | exact HC.out.c5 | exact (HC.out.set_fx _).c5 | exact (HC.out.set_fx _).drew1.c5) (first | (go_at_call 66; (with_reducible refine (many_calls (by first | exact HC.out | exact HC.out.drew1 | exact HC.out.drewN _ : CW w0 _ g m L s (p + 1 + a) _ n) 35 ?s1 HR.out.1.2 HP.out.2).mono ?_); (case s1 => have := HP.out; omega); rw [HA.out.2]; rintro e w1 ⟨rfl, hc⟩; have e6 := hc.c6; have z6 := hc.fz 6; have nc := aMk hc; clear HC hc; have HC := nc; clear nc))
    go_wp2
    go_ret
    rw [HT.out]
    exact ⟨rfl, by first | exact (HC.out.set_fx (a + b)).fl | exact (HC.out.set_fx (a + b)).drew1.fl | exact ((HC.out.set_fx (a + b)).drewN _).fl⟩
   | false =>
    have HF2 := aMk (show fracF s p h = some (p + 1 + a + b, {h with fn := a, fx := a + b}) by rw [HF.out, if_neg (by rw [hz]; decide)])
    go_wp2_with (first | (go_at_call 66; (with_reducible refine (many_calls HC.out 48 ?s1 HI.out HP.out.2).mono ?_); (case s1 => have := HP.out; omega); rw [HA.out.1]; rintro e w1 ⟨rfl, hc⟩; have nc := aMk (hc.set_fn a); have e5 := hc.c5; have z5 := hc.fz 5; clear HC hc; have HC := nc; clear nc))
    go_region_held3 (fun w' => w'.cell? ⟨g, 5, none⟩ = some (.int .i64 a)) (first | exact HC.out.c5 | exact (HC.out.set_fx _).c5 | exact (HC.out.set_fx _).drew1.c5) (first | (go_at_call 66; (with_reducible refine (many_calls (by first | exact HC.out | exact HC.out.drew1 | exact HC.out.drewN _ : CW w0 _ g m L s (p + 1 + a) _ n) 35 ?s1 HR.out.1.2 HP.out.2).mono ?_); (case s1 => have := HP.out; omega); rw [HA.out.2]; rintro e w1 ⟨rfl, hc⟩; have e6 := hc.c6; have z6 := hc.fz 6; have nc := aMk hc; clear HC hc; have HC := nc; clear nc))
    go_wp2
    go_meet
    case rel => exact ⟨p + 1 + a + b, _, HF2, ⟨by have := HR.out; omega⟩, ⟨by first | exact HC.out.set_fx (a + b) | exact (HC.out.set_fx (a + b)).drew1 | exact (HC.out.set_fx (a + b)).drewN _⟩⟩
 case rest =>
  obtain ⟨q, h', HF, HI, HC'⟩ := hcut
  clear HC
  have HC := HC'
  clear HC'
  have q0 : 0 ≤ q := by have := HP.out; have := HI.out; omega
  have q1 : q ≤ (s.size : Int) := HI.out.2
  have q2 : q.toNat ≤ s.size := by omega
  have q3 : q ≤ 128 := by have := HP.out; omega
  have q4 : 0 ≤ p := HP.out.1.1
  have q5 : p ≤ q := HI.out.1
  have n0 := HN.out.1
  have n1 := HN.out.2
  have HT := aMk (show tailF s p h = some (expF s q h') by unfold tailF; rw [HF.out]; rfl)
  obtain ⟨u, hu⟩ : ∃ u, s.extract q.toNat s.size = u := ⟨_, rfl⟩
  have HU := aMk hu
  have e0 := HC.out.c0
  have e1 := HC.out.c1
  have e14 := HC.out.c14
  have z14 := HC.out.fz 14
  clear HF
  go_wp2
  go_quiet (fail)
  have HX2 := aMk (show (Lib.hasPrefix u.data.toList [69, 48] || Lib.hasPrefix u.data.toList [69, 43, 48]) = expB s q by rw [← HU.out]; rfl)
  obtain ⟨wo, rfl⟩ : ∃ wo : World, wo = wc := ⟨_, rfl⟩
  go_upto_region 8 with (fail)
  go_cut [49] (fun v wc => v = .bool (expB s q) ∧ Aside0 (CW w0 wc g m L s q h' n))
  case first =>
   cases hx1 : Lib.hasPrefix u.data.toList [69, 48]
   all_goals cases hx2 : Lib.hasPrefix u.data.toList [69, 43, 48]
   all_goals
    have HX3 := HX2.out
    rw [hx1, hx2] at HX3
    have HX4 := aMk HX3
    clear HX3
    go_wp2_with (go_at_call 67; (with_reducible refine (Try.strings_HasPrefix u _ _).mono ?_); rintro e w1 ⟨rfl, rfl⟩)
    go_meet
    case rel => exact ⟨by rw [← HX4.out]; rfl, ⟨HC.out.drewN _⟩⟩
  case rest =>
   obtain ⟨rfl, HC'⟩ := hcut
   clear HC e0 e1 e14 z14
   have HC := HC'
   clear HC'
   have e1 := HC.out.c1
   have z1 := HC.out.fz 1
   obtain ⟨wp, rfl⟩ : ∃ wp : World, wp = wc := ⟨_, rfl⟩
   have HB := aMk (Eq.refl (expB s q))
   go_upto_if 49 with (fail)
   go_cut [] (fun wc => Aside0 (CW w0 wc g m L s (expF s q h').1 (expF s q h').2 n))
   case first =>
    cases hx : expB s q with
    | false =>
     have HX := aMk (show expF s q h' = (q, h') by unfold expF; rw [if_neg (by rw [hx]; decide)])
     go_wp2
     go_meet
     case rel => rw [HX.out]; exact HC
    | true =>
     have hi := exp_in q0 hx
     have nr := next_range (b := 43) hi
     have HX := aMk (show expF s q h' = (nextP s (q + 1) 43 + runN s 48 (nextP s (q + 1) 43), {h' with ep := bAt s (q + 1) 43, em := runN s 48 (nextP s (q + 1) 43)}) by unfold expF; rw [if_pos hx])
     have HI2 := aMk (And.intro hi nr)
     clear hx hi nr
     go_wp2_with (first | (go_at_call 27; (with_reducible refine (next_calls (HC.out.set_at (q + 1)) 43 ?s1 HP.out.2).mono ?_); (case s1 => omega); rintro e w1 ⟨rfl, hc⟩; have e10 := hc.c10; have z10 := hc.fz 10; have nc := aMk (hc.set_ep (bAt s (q + 1) 43)); clear HC hc e1 z1; have HC := nc; clear nc) | (go_at_call 66; (with_reducible refine (many_calls HC.out 48 ?s1 HI2.out.2.2 HP.out.2).mono ?_); (case s1 => have := HI2.out; omega); rintro e w1 ⟨rfl, hc⟩; have e9 := hc.c9; have z9 := hc.fz 9; have nc := aMk (hc.set_em (runN s 48 (nextP s (q + 1) 43))); clear HC hc; have HC := nc; clear nc))
     go_meet
     case rel => rw [HX.out]; exact HC
   case rest =>
    have hcut2 := hcut
    clear hcut HC e1 z1
    have HC := hcut2
    clear hcut2
    have HR := aMk (exp_range q0 q1 h')
    obtain ⟨y, hy⟩ : ∃ y, expF s q h' = y := ⟨_, rfl⟩
    rw [hy] at HC HR
    have HY := aMk (HT.out.trans (congrArg some hy))
    clear hy
    have k0 : q ≤ y.1 := HR.out.1
    have k1 : y.1 ≤ 128 := aP136
    have w1 : IntKind.i64.wrap (y.1 - p) = y.1 - p := IntWalk.i64_in _ (by omega)
    have w2 : IntKind.i64.wrap (n + (y.1 - p)) = n + (y.1 - p) := IntWalk.i64_in _ (by omega)
    go_wp2
    refine wp_region_still_tail 13 (by kernel_rfl) (by kernel_rfl) ?_
    simp only [List.take_succ_cons, List.take_zero, List.drop_succ_cons, List.drop_zero]
    have HD : Aside0 (CW w0 ({ wc with drawn := wc.drawn + 1 } : World) g m L s y.1 y.2 n) := ⟨HC.out.drew1⟩
    generalize ({ wc with drawn := wc.drawn + 1 } : World) = wd at HD ⊢
    have a1 := HD.out.c1
    have a14 := HD.out.c14
    have z14 := HD.out.fz 14
    repeat still_step
    refine wpStill_nil ?_
    go_wp2
    go_ret
    rw [HY.out]
    exact ⟨rfl, HD.out.set_long _⟩
def lastG (G : List Int) : Int := rd G ((G.length : Int) - 1)
def groupF (G : List Int) (z : Int) (h : Sb) : Option Sb :=
 if (decide (3 < G.length) || lastG G == 0) = true then none else some {h with im := z, pr := if 1 < G.length then lastG G else h.pr, se := if 2 < G.length then rd G 1 else h.se}
def RowI (w : World) (base : Nat) (A : Option Addr) (c : Nat) (G : List Int) : Prop := Kd.R (Kd.int .i64) 3 w base (fun _ => True) (.slice A G.length c) G
theorem ne348 : ∀ q, q ∈ (3 : Nat) :: (Kd.int .i64).E → q ≠ 48 := by
 intro q hq
 have : q = 3 := by simpa [Kd.int, Kd.scalar] using hq
 rw [this]; decide
theorem ne533 : ∀ q, q ∈ (53 : Nat) :: k53.E → q ≠ 3 := by
 intro q hq
 have : q = 53 := aP94
 rw [this]; decide
theorem RowI.set {w : World} {base g : Nat} {A : Option Addr} {c : Nat} {G : List Int} {cs : Array Value} (h : RowI w base A c G) (hb : w.heap[g]? = some (.cells cs 48 (0, 0))) (i : Nat) (v : Value) : RowI (w.setCell ⟨g, i, none⟩ v) base A c G := Kd.R_set h hb ne348 i v
theorem RowI.step {w w1 : World} {base : Nat} {A : Option Addr} {c : Nat} {G : List Int} (h : RowI w base A c G) (hb : Below w.heap.size w w1) : RowI w1 base A c G := Kd.R_below h hb
theorem RowI.form {w : World} {base : Nat} {A : Option Addr} {c : Nat} {G : List Int} (h : RowI w base A c G) (hp : 0 < G.length) : ∃ k, A = some ⟨k, 0, none⟩ ∧ base ≤ k := by
 obtain ⟨k, c', e, hb, _⟩ := Kd.R_form h hp
 injection e with e
 exact ⟨k, e, hb⟩
theorem RowI.at_ {w : World} {base k : Nat} {c : Nat} {G : List Int} (h : RowI w base (some ⟨k, 0, none⟩) c G) (j : Nat) (hj : j < G.length) : w.cell? ⟨k, j, none⟩ = some (.int .i64 (rd G j)) := by
 obtain ⟨ad, e, hx⟩ := Kd.at_int (Kd.R_reads' h).2.2 (j : Int) (by omega) (by omega)
 injection e with e
 subst e
 rw [add_plain, Int.toNat_natCast] at hx
 exact hx
theorem CW.grown {w0 w w1 : World} {g : Nat} {m : Mk} {L : Sl} {s : ByteArray} {p : Int} {h : Sb} {n : Int} (hh : CW w0 w g m L s p h n) {b : Nat} {v : Value} {ok : Nat → Prop} {G : List Int} (hv : Kd.R (Kd.int .i64) 3 w b ok v G) (hb : w0.heap.size ≤ b) (hrz : m.R.heap.size ≤ b) (hg : w.grownBy w1 v.ownBlock) : CW w0 w1 g m L s p h n := by
 have h1 := blk_grown hh.blk hg (Kd.R_ne hv hh.blk (by decide))
 obtain ⟨c1, hp⟩ := hh.rp
 obtain ⟨c2, hs⟩ := hh.rs
 obtain ⟨inner, ho⟩ := Kd.R_own hv
 exact ⟨hh.ge, h1, ⟨c1, Kd.R_over hp hv ne533 hg⟩, ⟨c2, Kd.R_over hs hv ne533 hg⟩, hh.below.grown hg hh.below.size (fun k hk => Nat.le_trans hb (own_base ho k hk)), Nat.le_trans hh.mw hg.size, hh.pc, hh.sc, Nat.le_trans hh.rz hg.size, fun k h1 h2 => (hg.block k (Nat.lt_of_lt_of_le h1 hh.rz) (fun e => by have := own_base ho k e.symm; omega)).trans (hh.kept k h1 h2)⟩
set_option maxHeartbeats 8000000 in
set_option maxRecDepth 100000 in
theorem grouped_calls {w0 w : World} {g : Nat} {m : Mk} {L : Sl} {s : ByteArray} {p : Int} {h : Sb} {n : Int} (hh : CW w0 w g m L s p h n) {base : Nat} {A : Option Addr} {c : Nat} {G : List Int} (ho : RowI w base A c G) (hG : 0 < G.length) (hl : G.length ≤ 1000) (z f : Int) (hf : 0 ≤ f ∧ f ≤ p ∧ p ≤ 128) :
  Calls Try.prog 65 #[.pointer (some ⟨g, 0, none⟩), .slice A G.length c, .int .i64 z, .int .i64 f] w (DoneL w0 g m L s (fun q => q - f) ((groupF G z h).map (fun y => (p, y)))) := by
 have HC := aMk hh
 have HO := aMk ho
 obtain ⟨k, rfl, hk⟩ := ho.form hG
 obtain ⟨f0, f1, f2⟩ := hf
 have hw0 : IntKind.i64.wrap (p - f) = p - f := IntWalk.i64_in _ (by omega)
 obtain ⟨j, hj⟩ : ∃ j : Nat, G.length = j + 1 := ⟨G.length - 1, by omega⟩
 have hw1 : IntKind.i64.wrap ((G.length : Int) - 1) = (j : Int) := by rw [show (G.length : Int) - 1 = (j : Int) by omega]; exact IntWalk.i64_in _ (by omega)
 have j0 := eq_true (show 0 ≤ (j : Int) by omega)
 have j1 := eq_true (show (j : Int) < (G.length : Int) by omega)
 have hlast : lastG G = rd G j := by unfold lastG; rw [show (G.length : Int) - 1 = (j : Int) by omega]
 have xj := ho.at_ j (by omega)
 have HJ := aMk (And.intro hj hlast)
 have HL := aMk (And.intro hG hl)
 clear hj hlast hl hG ho hh
 cases d3 : decide (3 < G.length) with
 | true =>
  have d3' : decide (3 < (G.length : Int)) = true := dTr (by have := of_decide_eq_true d3; omega)
  have HE := aMk (show groupF G z h = none by unfold groupF; rw [d3]; rfl)
  clear d3
  go_enter Try.func65, Try.ntmps65
  go_wp2
  go_ret
  rw [HE.out]
  exact ⟨rfl, HC.out.fl⟩
 | false =>
  have d3' : decide (3 < (G.length : Int)) = false := dFa (by have := of_decide_eq_false d3; omega)
  cases hz : (rd G j == 0) with
  | true =>
   have HE := aMk (show groupF G z h = none by unfold groupF; rw [HJ.out.2, hz, Bool.or_true]; rfl)
   clear d3
   go_enter Try.func65, Try.ntmps65
   go_wp2
   go_ret
   rw [HE.out]
   exact ⟨rfl, HC.out.fl⟩
  | false =>
   have HE := aMk (show groupF G z h = some {h with im := z, pr := if 1 < G.length then rd G j else h.pr, se := if 2 < G.length then rd G 1 else h.se} by unfold groupF; rw [HJ.out.2, hz, d3]; rfl)
   have z4 := HC.out.fz 4
   have e4 := HC.out.c4
   have HO4 := aMk (HO.out.set HC.out.blk 4 (.int .i64 z))
   have HC4 := aMk (HC.out.set_im z)
   have x4 := HO4.out.at_ j (by have := HJ.out; omega)
   have e7 := HC4.out.c7
   have z7 := HC4.out.fz 7
   by_cases d1 : 1 < G.length
   ·have d1' : decide (1 < (G.length : Int)) = true := dTr (by omega)
    have HO7 := aMk (HO4.out.set HC4.out.blk 7 (.int .i64 (rd G j)))
    have HC7 := aMk (HC4.out.set_pr (rd G j))
    have x7 := HO7.out.at_ 1 d1
    have e8 := HC7.out.c8
    have z8 := HC7.out.fz 8
    have g1 := eq_true (show (1 : Int) < (G.length : Int) by omega)
    by_cases d2 : 2 < G.length
    ·have d2' : decide (2 < (G.length : Int)) = true := dTr (by omega)
     have HE2 := aMk (show groupF G z h = some {h with im := z, pr := rd G j, se := rd G 1} by rw [HE.out, if_pos d1, if_pos d2])
     have HC8 := aMk (HC7.out.set_se (rd G 1))
     have e1 := HC8.out.c1
     have e14 := HC8.out.c14
     have z14 := HC8.out.fz 14
     clear d3 d1 d2
     go_enter Try.func65, Try.ntmps65
     go_wp2
     go_ret
     rw [HE2.out]
     exact ⟨rfl, HC8.out.set_long _⟩
    ·have d2' : decide (2 < (G.length : Int)) = false := dFa (by omega)
     have HE2 := aMk (show groupF G z h = some {h with im := z, pr := rd G j} by rw [HE.out, if_pos d1, if_neg d2])
     have e1 := HC7.out.c1
     have e14 := HC7.out.c14
     have z14 := HC7.out.fz 14
     clear d3 d1 d2
     go_enter Try.func65, Try.ntmps65
     go_wp2
     go_ret
     rw [HE2.out]
     exact ⟨rfl, HC7.out.set_long _⟩
   ·have d1' : decide (1 < (G.length : Int)) = false := dFa (by omega)
    have d2' : decide (2 < (G.length : Int)) = false := dFa (by omega)
    have HE2 := aMk (show groupF G z h = some {h with im := z} by rw [HE.out, if_neg d1, if_neg (by omega)])
    have e1 := HC4.out.c1
    have e14 := HC4.out.c14
    have z14 := HC4.out.fz 14
    clear d3 d1
    go_enter Try.func65, Try.ntmps65
    go_wp2
    go_ret
    rw [HE2.out]
    exact ⟨rfl, HC4.out.set_long _⟩
end Go.Proofs.Ytacnjemndfmbhaa.Q
end
section
namespace Go.Proofs.Ytacnjemndfmbhaa.Q
open Go.RowKit Go.Proofs.Ytacnjemndfmbhaa.A Go.Proofs.YtacnjemndfmbhaaW.PrintWords Go.Proofs.YtacnjemndfmbhaaW.PrintLast Go.Proofs.YtacnjemndfmbhaaW.PrintMore
set_option linter.unusedVariables false
theorem parse_calls (s : ByteArray) (w : World) (hG : Glob w) (hs : s.size ≤ 1048576) : Calls Try.prog 85 #[.string s] w fun e w' => ∃ A c, e = .returned (.tuple #[.slice A (parseT s).1.length (parseT s).1.length, .int .i64 (parseT s).2]) ∧ Kd.R k53 53 w' w.heap.size (fun k => w.heap.size ≤ k) (.slice A (parseT s).1.length c) (parseT s).1 ∧ Below w.heap.size w w' := by
 refine (parse_own s (parseT s).1 (parseT s).2 w hG (by rw [parseT_eq]; exact affixParse_eq s hs)).mono ?_
 rintro e w' ⟨v, he, ⟨A, c, hv, hr⟩, hb⟩
 subst hv
 exact ⟨A, c, he, hr, hb⟩
theorem parse_ok (s : ByteArray) (h : (parseT s).2 = 0) : checkS (parseT s).1 = 0 := by
 rw [parseT_eq] at h ⊢
 rw [checkS_eq]
 obtain ⟨_, l, t, _, _, h4, _⟩ := A.parse_ok s (L := (A.parseT s).1) (Prod.ext rfl h)
 exact h4
theorem parse_none (s : ByteArray) (h : (parseT s).2 ≠ 0) : (parseT s).1 = [] := by
 rw [parseT_eq] at h ⊢
 exact parse_error s h
theorem tok_nil : TokOk [] := by unfold TokOk Texts; simp
theorem parse_tok (s : ByteArray) (hs : s.size ≤ 1048576) : TokOk (parseT s).1 := by
 by_cases h : (parseT s).2 = 0
 ·rw [parseT_eq] at h ⊢
  obtain ⟨_, l, t, _, _, _, h5, h6⟩ := A.parse_ok s (L := (A.parseT s).1) (Prod.ext rfl h)
  exact ⟨fun t ht => Nat.le_trans (h5 t ht) (by omega), by omega⟩
 ·rw [parse_none s h]
  exact tok_nil
theorem check_nil : checkS [] = 0 := by rw [checkS_eq]; decide +kernel
end Go.Proofs.Ytacnjemndfmbhaa.Q
end
section
namespace Go.Proofs.Ytacnjemndfmbhaa.Q
open Go.RowKit Go.Proofs.Ytacnjemndfmbhaa.A Go.Proofs.YtacnjemndfmbhaaW.PrintWords Go.Proofs.YtacnjemndfmbhaaW.PrintLast Go.Proofs.YtacnjemndfmbhaaW.PrintMore
set_option linter.unusedVariables false
set_option linter.unusedSimpArgs false
def stopB (st : ByteArray) (b : Int) : Bool := decide (0 ≤ Lib.indexByte st.data.toList b.toNat.toUInt8)
def stopF (s st : ByteArray) : Nat → Bool → Int → Int
 | 0, _, p => p
 | d + 1, q, p => if bt s p = 39 then stopF s st d (!q) (p + 1) else if (!q && stopB st (bt s p)) = true then p else stopF s st d q (p + 1)
def stopN (s st : ByteArray) (p : Int) : Int := stopF s st ((s.size : Int) - p).toNat false p
theorem stopF_range (s st : ByteArray) : ∀ (d : Nat) (q : Bool) (p : Int), p ≤ stopF s st d q p ∧ stopF s st d q p ≤ p + d
 | 0, q, p => by simp [stopF]
 | d + 1, q, p => by
  unfold stopF
  split
  ·have := stopF_range s st d (!q) (p + 1); omega
  ·split
   ·omega
   ·have := stopF_range s st d q (p + 1); omega
theorem row_in {w w1 : World} {X : World} {A : Option Addr} {c : Nat} {xs : List S53} (hx : w.heap.size ≤ X.heap.size) (hr : Kd.R k53 53 w1 X.heap.size (fun k => X.heap.size ≤ k) (.slice A xs.length c) xs) : RowIn w1 w.heap.size (fun k => w.heap.size ≤ k) A xs :=
 ⟨c, Kd.R_mono (Kd.R_lower hr hx) (fun k hk => Nat.le_trans hx hk)⟩
set_option maxHeartbeats 8000000 in
set_option maxRecDepth 100000 in
theorem tokens_calls {w0 w : World} {g : Nat} {m : Mk} {L : Sl} {s : ByteArray} {p : Int} {h : Sb} {n : Int} (hG : Glob w0) (hh : CW w0 w g m L s p h n) (st : ByteArray) (h0 : 0 ≤ p) (hp : p ≤ s.size) (hs : s.size ≤ 128) :
  Calls Try.prog 64 #[.pointer (some ⟨g, 0, none⟩), .string st] w fun e w' => ∃ A, e = .returned (.tuple #[.slice A (parseT (s.extract p.toNat (stopN s st p).toNat)).1.length (parseT (s.extract p.toNat (stopN s st p).toNat)).1.length, .bool ((parseT (s.extract p.toNat (stopN s st p).toNat)).2 == 0)]) ∧ RowIn w' w.heap.size (fun k => w.heap.size ≤ k) A (parseT (s.extract p.toNat (stopN s st p).toNat)).1 ∧ CW w0 w' g m L s (stopN s st p) h n := by
 have HC := aMk hh
 have HG := aMk hG
 obtain ⟨E, hE⟩ : ∃ E, stopN s st p = E := ⟨_, rfl⟩
 have hr := stopF_range s st ((s.size : Int) - p).toNat false p
 rw [show stopF s st ((s.size : Int) - p).toNat false p = E from hE] at hr
 have HP := aMk (show (0 ≤ p ∧ p ≤ E ∧ E ≤ s.size) ∧ s.size ≤ 128 ∧ (s.extract p.toNat E.toNat).size ≤ 1048576 from ⟨by omega, hs, aP99⟩)
 have HW := aMk (Nat.le_refl w.heap.size)
 have HE0 := aMk (show stopF s st ((s.size : Int) - p).toNat false p = E from hE)
 rw [hE]
 clear hh h0 hp hs hG hE hr
 have e0 := HC.out.c0
 have e1 := HC.out.c1
 go_enter Try.func64, Try.ntmps64
 go_wp2
 go_loopg [7] ((s.size : Int) - p).toNat (fun gk v7 wr => ∃ (q : Bool) (i : Int), v7 = .bool q ∧ Aside0 (p ≤ i ∧ (gk : Int) = s.size - i) ∧ Aside0 (stopF s st gk q i = E) ∧ Aside0 (w.heap.size ≤ wr.heap.size) ∧ Aside0 (CW w0 wr g m L s i h n))
 case atStart => exact ⟨false, p, rfl, ⟨by have := HP.out; omega⟩, HE0, HW, HC⟩
 case round =>
  clear HC HE0 HW e0 e1
  obtain ⟨q, i, rfl, HI, HE, HW, HC⟩ := hrel
  have e0 := HC.out.c0
  have e1 := HC.out.c1
  have z1 := HC.out.fz 1
  cases gk with
  | zero =>
   have hi : i = E := HE.out
   subst hi
   have d0 : decide (i < (s.size : Int)) = false := dFa (by have := HI.out; omega)
   have b1 : 0 ≤ p := HP.out.1.1
   have b2 : p ≤ i := HP.out.1.2.1
   have b3 : i ≤ (s.size : Int) := HP.out.1.2.2
   have b4 : p.toNat ≤ i.toNat := by omega
   have b5 : i.toNat ≤ s.size := by omega
   have b6 : 0 ≤ i := by omega
   go_wp2
   repeat (go_quiet (fail); try go_wp2)
   exact aP58
  | succ d =>
   have b0 : 0 ≤ i := aP134
   have b1 := eq_true b0
   have b2 : i < (s.size : Int) := by have := HI.out; omega
   have b3 := eq_true b2
   have d0 : decide (i < (s.size : Int)) = true := dTr b2
   have hx := bt_at s i
   have b4 : i ≤ 128 := by have := HP.out; omega
   have H := HE.out
   unfold stopF at H
   clear HE b2
   cases c1 : (bt s i == 39) with
   | true =>
    rw [if_pos (beq_iff_eq.mp c1)] at H
    have HE := aMk H
    clear H
    go_wp2
    repeat (go_quiet (fail); try go_wp2)
    go_roundg d
    case measure => omega
    case rel => exact ⟨!q, i + 1, aP92, ⟨by have := HI.out; omega⟩, HE, ⟨by rw [size_put]; exact HW.out⟩, ⟨(HC.out.drewN _).set_at _⟩⟩
   | false =>
    rw [if_neg (beq_eq_false_iff_ne.mp c1)] at H
    cases q with
    | true =>
     rw [if_neg (by simp)] at H
     have HE := aMk H
     clear H
     go_wp2
     repeat (go_quiet (fail); try go_wp2)
     go_roundg d
     case measure => omega
     case rel => exact ⟨true, i + 1, aP92, ⟨by have := HI.out; omega⟩, HE, ⟨by rw [size_put]; exact HW.out⟩, ⟨(HC.out.drewN _).set_at _⟩⟩
    | false =>
     cases c2 : stopB st (bt s i) with
     | false =>
      rw [if_neg (by rw [c2]; decide)] at H
      have HE := aMk H
      have c3 : decide (0 ≤ Lib.indexByte st.data.toList (bt s i).toNat.toUInt8) = false := c2
      clear H
      go_wp2
      repeat (go_quiet (fail); try go_wp2_with (go_at_call 84; (with_reducible refine (Try.strings_IndexByte st (bt s i) _).mono ?_); rintro e w1 ⟨rfl, rfl⟩))
      go_roundg d
      case measure => omega
      case rel => exact ⟨false, i + 1, aP92, ⟨by have := HI.out; omega⟩, HE, ⟨by rw [size_put]; exact HW.out⟩, ⟨(HC.out.drewN _).set_at _⟩⟩
     | true =>
      rw [if_pos (by rw [c2]; rfl)] at H
      subst H
      have c3 : decide (0 ≤ Lib.indexByte st.data.toList (bt s i).toNat.toUInt8) = true := c2
      have q1 : 0 ≤ p := HP.out.1.1
      have q2 : p ≤ i := HP.out.1.2.1
      have q3 : i ≤ (s.size : Int) := HP.out.1.2.2
      have q4 : p.toNat ≤ i.toNat := by omega
      have q5 : i.toNat ≤ s.size := by omega
      go_wp2
      repeat (go_quiet (fail); try go_wp2_with (go_at_call 84; (with_reducible refine (Try.strings_IndexByte st (bt s i) _).mono ?_); rintro e w1 ⟨rfl, rfl⟩))
      exact aP58
end Go.Proofs.Ytacnjemndfmbhaa.Q
end
