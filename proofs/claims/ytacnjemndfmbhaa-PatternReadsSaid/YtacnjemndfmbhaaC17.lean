import Derived.Deep.CutBlock
import Derived.Test.YtacnjemndfmbhaaC13
import Derived.Test.YtacnjemndfmbhaaC15
import Derived.Test.YtacnjemndfmbhaaC16
namespace Go.Proofs.Ytacnjemndfmbhaa
open Go.RowKit
theorem aP73 {p : Prop} (h : p := by exact bodyPost_ret (results_ct results16 _ _ w.heap.size 26 (patC Lz Lz zeroPt) (0, 0) _ rfl (setRow_heap _ _ _ _ _ _ NZ.out.res) Try.underlying26 rfl info26) rfl (doneQ_zero HE3.out (below_setRow NZ.out.below (Nat.le_refl _)))) : p := h
theorem aP71 {p : Prop} (h : p := by
    go_enter Try.func21, Try.ntmps21
    go_wp2_with (first | ((with_reducible refine gate_dst (N := 1) rfl ?_); refine box_event ?hg (N := 1) ?hd (cs := patC L M ⟨pos, false, neg⟩) (t := 26) ?hr ?_; (case hd => rfl); (case hg => rfl); (case hr => first | (go_simp; done) | (go_simp; rfl)); intro gb hgb w1 hbox hbb; subst hgb; have HQ : Aside0 (PW w w1 L M ⟨pos, false, neg⟩) := ⟨⟨hbox, hbb⟩⟩; clear hbox hbb; have c0 := pat_c0 HQ.out.box; have c1 := pat_c1 HQ.out.box; have c2 := pat_c2 HQ.out.box; have c3 := pat_c3 HQ.out.box; have c4 := pat_c4 HQ.out.box; have c5 := pat_c5 HQ.out.box; have c6 := pat_c6 HQ.out.box; have c7 := pat_c7 HQ.out.box; have c8 := pat_c8 HQ.out.box; have c9 := pat_c9 HQ.out.box; have c10 := pat_c10 HQ.out.box; have c11 := pat_c11 HQ.out.box; have c12 := pat_c12 HQ.out.box; have c13 := pat_c13 HQ.out.box; have c14 := pat_c14 HQ.out.box; have c15 := pat_c15 HQ.out.box; have c16 := pat_c16 HQ.out.box; have c17 := pat_c17 HQ.out.box; have c18 := pat_c18 HQ.out.box; have c19 := pat_c19 HQ.out.box; have c20 := pat_c20 HQ.out.box; have c21 := pat_c21 HQ.out.box; have c22 := pat_c22 HQ.out.box; have c23 := pat_c23 HQ.out.box; have c24 := pat_c24 HQ.out.box) | (go_at_call 31; (with_reducible refine (rhalf_calls L pos _ (HL.out.below HQ.out.below)).mono ?_); rintro e w1 ⟨rfl, hb⟩; have nq := aMk (HQ.out.step hb); clear HQ hb c0 c1 c2 c3 c4 c5 c6 c7 c8 c9 c10 c11 c12 c13 c14 c15 c16 c17 c18 c19 c20 c21 c22 c23 c24; have HQ := nq; clear nq; have c0 := pat_c0 HQ.out.box; have c1 := pat_c1 HQ.out.box; have c2 := pat_c2 HQ.out.box; have c3 := pat_c3 HQ.out.box; have c4 := pat_c4 HQ.out.box; have c5 := pat_c5 HQ.out.box; have c6 := pat_c6 HQ.out.box; have c7 := pat_c7 HQ.out.box; have c8 := pat_c8 HQ.out.box; have c9 := pat_c9 HQ.out.box; have c10 := pat_c10 HQ.out.box; have c11 := pat_c11 HQ.out.box; have c12 := pat_c12 HQ.out.box; have c13 := pat_c13 HQ.out.box; have c14 := pat_c14 HQ.out.box; have c15 := pat_c15 HQ.out.box; have c16 := pat_c16 HQ.out.box; have c17 := pat_c17 HQ.out.box; have c18 := pat_c18 HQ.out.box; have c19 := pat_c19 HQ.out.box; have c20 := pat_c20 HQ.out.box; have c21 := pat_c21 HQ.out.box; have c22 := pat_c22 HQ.out.box; have c23 := pat_c23 HQ.out.box; have c24 := pat_c24 HQ.out.box) | (go_at_call 18; (with_reducible refine (samezero_calls M neg _ (HM.out.below HQ.out.below).r).mono ?_); rintro e w1 ⟨rfl, hb⟩; have nq := aMk (HQ.out.step hb); clear HQ hb c0 c1 c2 c3 c4 c5 c6 c7 c8 c9 c10 c11 c12 c13 c14 c15 c16 c17 c18 c19 c20 c21 c22 c23 c24; have HQ := nq; clear nq; have c0 := pat_c0 HQ.out.box; have c1 := pat_c1 HQ.out.box; have c2 := pat_c2 HQ.out.box; have c3 := pat_c3 HQ.out.box; have c4 := pat_c4 HQ.out.box; have c5 := pat_c5 HQ.out.box; have c6 := pat_c6 HQ.out.box; have c7 := pat_c7 HQ.out.box; have c8 := pat_c8 HQ.out.box; have c9 := pat_c9 HQ.out.box; have c10 := pat_c10 HQ.out.box; have c11 := pat_c11 HQ.out.box; have c12 := pat_c12 HQ.out.box; have c13 := pat_c13 HQ.out.box; have c14 := pat_c14 HQ.out.box; have c15 := pat_c15 HQ.out.box; have c16 := pat_c16 HQ.out.box; have c17 := pat_c17 HQ.out.box; have c18 := pat_c18 HQ.out.box; have c19 := pat_c19 HQ.out.box; have c20 := pat_c20 HQ.out.box; have c21 := pat_c21 HQ.out.box; have c22 := pat_c22 HQ.out.box; have c23 := pat_c23 HQ.out.box; have c24 := pat_c24 HQ.out.box))
    go_ret
    exact ⟨ret_int HE.out.symm, HQ.out.below⟩) : p := h
theorem aP72 {p : Prop} (h : p := by
    go_enter Try.func21, Try.ntmps21
    go_wp2_with (first | ((with_reducible refine gate_dst (N := 1) rfl ?_); refine box_event ?hg (N := 1) ?hd (cs := patC L M ⟨pos, true, neg⟩) (t := 26) ?hr ?_; (case hd => rfl); (case hg => rfl); (case hr => first | (go_simp; done) | (go_simp; rfl)); intro gb hgb w1 hbox hbb; subst hgb; have HQ : Aside0 (PW w w1 L M ⟨pos, true, neg⟩) := ⟨⟨hbox, hbb⟩⟩; clear hbox hbb; have c0 := pat_c0 HQ.out.box; have c1 := pat_c1 HQ.out.box; have c2 := pat_c2 HQ.out.box; have c3 := pat_c3 HQ.out.box; have c4 := pat_c4 HQ.out.box; have c5 := pat_c5 HQ.out.box; have c6 := pat_c6 HQ.out.box; have c7 := pat_c7 HQ.out.box; have c8 := pat_c8 HQ.out.box; have c9 := pat_c9 HQ.out.box; have c10 := pat_c10 HQ.out.box; have c11 := pat_c11 HQ.out.box; have c12 := pat_c12 HQ.out.box; have c13 := pat_c13 HQ.out.box; have c14 := pat_c14 HQ.out.box; have c15 := pat_c15 HQ.out.box; have c16 := pat_c16 HQ.out.box; have c17 := pat_c17 HQ.out.box; have c18 := pat_c18 HQ.out.box; have c19 := pat_c19 HQ.out.box; have c20 := pat_c20 HQ.out.box; have c21 := pat_c21 HQ.out.box; have c22 := pat_c22 HQ.out.box; have c23 := pat_c23 HQ.out.box; have c24 := pat_c24 HQ.out.box) | (go_at_call 31; (with_reducible refine (rhalf_calls L pos _ (HL.out.below HQ.out.below)).mono ?_); rintro e w1 ⟨rfl, hb⟩; have nq := aMk (HQ.out.step hb); clear HQ hb c0 c1 c2 c3 c4 c5 c6 c7 c8 c9 c10 c11 c12 c13 c14 c15 c16 c17 c18 c19 c20 c21 c22 c23 c24; have HQ := nq; clear nq; have c0 := pat_c0 HQ.out.box; have c1 := pat_c1 HQ.out.box; have c2 := pat_c2 HQ.out.box; have c3 := pat_c3 HQ.out.box; have c4 := pat_c4 HQ.out.box; have c5 := pat_c5 HQ.out.box; have c6 := pat_c6 HQ.out.box; have c7 := pat_c7 HQ.out.box; have c8 := pat_c8 HQ.out.box; have c9 := pat_c9 HQ.out.box; have c10 := pat_c10 HQ.out.box; have c11 := pat_c11 HQ.out.box; have c12 := pat_c12 HQ.out.box; have c13 := pat_c13 HQ.out.box; have c14 := pat_c14 HQ.out.box; have c15 := pat_c15 HQ.out.box; have c16 := pat_c16 HQ.out.box; have c17 := pat_c17 HQ.out.box; have c18 := pat_c18 HQ.out.box; have c19 := pat_c19 HQ.out.box; have c20 := pat_c20 HQ.out.box; have c21 := pat_c21 HQ.out.box; have c22 := pat_c22 HQ.out.box; have c23 := pat_c23 HQ.out.box; have c24 := pat_c24 HQ.out.box) | (go_at_call 31; (with_reducible refine (rhalf_calls M neg _ (HM.out.below HQ.out.below)).mono ?_); rintro e w1 ⟨rfl, hb⟩; have nq := aMk (HQ.out.step hb); clear HQ hb c0 c1 c2 c3 c4 c5 c6 c7 c8 c9 c10 c11 c12 c13 c14 c15 c16 c17 c18 c19 c20 c21 c22 c23 c24; have HQ := nq; clear nq; have c0 := pat_c0 HQ.out.box; have c1 := pat_c1 HQ.out.box; have c2 := pat_c2 HQ.out.box; have c3 := pat_c3 HQ.out.box; have c4 := pat_c4 HQ.out.box; have c5 := pat_c5 HQ.out.box; have c6 := pat_c6 HQ.out.box; have c7 := pat_c7 HQ.out.box; have c8 := pat_c8 HQ.out.box; have c9 := pat_c9 HQ.out.box; have c10 := pat_c10 HQ.out.box; have c11 := pat_c11 HQ.out.box; have c12 := pat_c12 HQ.out.box; have c13 := pat_c13 HQ.out.box; have c14 := pat_c14 HQ.out.box; have c15 := pat_c15 HQ.out.box; have c16 := pat_c16 HQ.out.box; have c17 := pat_c17 HQ.out.box; have c18 := pat_c18 HQ.out.box; have c19 := pat_c19 HQ.out.box; have c20 := pat_c20 HQ.out.box; have c21 := pat_c21 HQ.out.box; have c22 := pat_c22 HQ.out.box; have c23 := pat_c23 HQ.out.box; have c24 := pat_c24 HQ.out.box) | (go_at_call 18; (with_reducible refine (samezero_calls M neg _ (HM.out.below HQ.out.below).r).mono ?_); rintro e w1 ⟨rfl, hb⟩; have nq := aMk (HQ.out.step hb); clear HQ hb c0 c1 c2 c3 c4 c5 c6 c7 c8 c9 c10 c11 c12 c13 c14 c15 c16 c17 c18 c19 c20 c21 c22 c23 c24; have HQ := nq; clear nq; have c0 := pat_c0 HQ.out.box; have c1 := pat_c1 HQ.out.box; have c2 := pat_c2 HQ.out.box; have c3 := pat_c3 HQ.out.box; have c4 := pat_c4 HQ.out.box; have c5 := pat_c5 HQ.out.box; have c6 := pat_c6 HQ.out.box; have c7 := pat_c7 HQ.out.box; have c8 := pat_c8 HQ.out.box; have c9 := pat_c9 HQ.out.box; have c10 := pat_c10 HQ.out.box; have c11 := pat_c11 HQ.out.box; have c12 := pat_c12 HQ.out.box; have c13 := pat_c13 HQ.out.box; have c14 := pat_c14 HQ.out.box; have c15 := pat_c15 HQ.out.box; have c16 := pat_c16 HQ.out.box; have c17 := pat_c17 HQ.out.box; have c18 := pat_c18 HQ.out.box; have c19 := pat_c19 HQ.out.box; have c20 := pat_c20 HQ.out.box; have c21 := pat_c21 HQ.out.box; have c22 := pat_c22 HQ.out.box; have c23 := pat_c23 HQ.out.box; have c24 := pat_c24 HQ.out.box))
    go_ret
    exact ⟨ret_int HE.out.symm, HQ.out.below⟩) : p := h
end Go.Proofs.Ytacnjemndfmbhaa
section
namespace Go.Proofs.Ytacnjemndfmbhaa.Q
open Go.RowKit Go.Proofs.Ytacnjemndfmbhaa.A Go.Proofs.YtacnjemndfmbhaaW.PrintWords Go.Proofs.YtacnjemndfmbhaaW.PrintLast Go.Proofs.YtacnjemndfmbhaaW.PrintMore
set_option linter.unusedVariables false
set_option linter.unusedSimpArgs false
theorem PW.drew1 {w0 w : World} {L M : Sl} {x : Pt} (h : PW w0 w L M x) : PW w0 w.drew L M x := h.step (below_drew1 (Below.refl _ _))
theorem PW.drewN {w0 w : World} {L M : Sl} {x : Pt} (h : PW w0 w L M x) (n : Nat) : PW w0 (w.drewN n) L M x := h.step (pw_below_drewN (Below.refl _ _) n)
set_option maxHeartbeats 8000000 in
set_option maxRecDepth 100000 in
theorem rwhole_walk (L M : Sl) (pos : Sb) (ng : Bool) (neg : Sb) (w : World) (hl : SubOk w L pos) (hm : SubOk w M neg) (h1 : Good pos) (h2 : ng = true → Good neg) : Calls Try.prog 22 #[patV L M ⟨pos, ng, neg⟩] w fun e w' => e = .returned (.string (wholeS ⟨pos, ng, neg⟩)) ∧ Below w.heap.size w w' := by
 have HL := aMk hl
 have HM := aMk hm
 have H1 := aMk h1
 cases ng with
 | true =>
  have H2 := aMk (h2 rfl)
  have HE := aMk (show wholeS ⟨pos, true, neg⟩ = textS pos ++ ⟨#[59]⟩ ++ textS neg by unfold wholeS; rw [if_pos rfl]; apply bytes_inj; simp [ByteArray.data_append])
  have z1 := text_size hl h1
  have z2 := text_size hm H2.out
  have z3 := eq_false (Nat.not_lt.2 (show (textS pos).size + 1 ≤ 9223372036854775807 by omega))
  have z4 := eq_false (Nat.not_lt.2 (show (textS pos).size + 1 + (textS neg).size ≤ 9223372036854775807 by omega))
  clear hl hm h1 h2 z1 z2
  go_enter Try.func22, Try.ntmps22
  go_wp2_with (first | ((with_reducible refine gate_dst (N := 1) rfl ?_); refine box_event ?hg (N := 1) ?hd (cs := patC L M ⟨pos, true, neg⟩) (t := 26) ?hr ?_; (case hd => rfl); (case hg => rfl); (case hr => first | (go_simp; done) | (go_simp; rfl)); intro gb hgb w1 hbox hbb; subst hgb; have HQ : Aside0 (PW w w1 L M ⟨pos, true, neg⟩) := ⟨⟨hbox, hbb⟩⟩; clear hbox hbb; have c0 := pat_c0 HQ.out.box; have c1 := pat_c1 HQ.out.box; have c2 := pat_c2 HQ.out.box; have c3 := pat_c3 HQ.out.box; have c4 := pat_c4 HQ.out.box; have c5 := pat_c5 HQ.out.box; have c6 := pat_c6 HQ.out.box; have c7 := pat_c7 HQ.out.box; have c8 := pat_c8 HQ.out.box; have c9 := pat_c9 HQ.out.box; have c10 := pat_c10 HQ.out.box; have c11 := pat_c11 HQ.out.box; have c12 := pat_c12 HQ.out.box; have c13 := pat_c13 HQ.out.box; have c14 := pat_c14 HQ.out.box; have c15 := pat_c15 HQ.out.box; have c16 := pat_c16 HQ.out.box; have c17 := pat_c17 HQ.out.box; have c18 := pat_c18 HQ.out.box; have c19 := pat_c19 HQ.out.box; have c20 := pat_c20 HQ.out.box; have c21 := pat_c21 HQ.out.box; have c22 := pat_c22 HQ.out.box; have c23 := pat_c23 HQ.out.box; have c24 := pat_c24 HQ.out.box))
  clear c0 c1 c2 c3 c4 c5 c6 c7 c8 c9 c10 c11 c12 c13 c14 c15 c16 c17 c18 c19 c20 c21 c22 c23 c24
  go_region_held3 (fun w' => w'.cell? ⟨w.heap.size, 0, none⟩ = some (.slice L.A pos.p.length L.c) ∧ w'.cell? ⟨w.heap.size, 1, none⟩ = some (.slice L.B pos.s.length L.d) ∧ w'.cell? ⟨w.heap.size, 2, none⟩ = some (.int .i64 pos.im) ∧ w'.cell? ⟨w.heap.size, 3, none⟩ = some (.int .i64 pos.fn) ∧ w'.cell? ⟨w.heap.size, 4, none⟩ = some (.int .i64 pos.fx) ∧ w'.cell? ⟨w.heap.size, 5, none⟩ = some (.int .i64 pos.pr) ∧ w'.cell? ⟨w.heap.size, 6, none⟩ = some (.int .i64 pos.se) ∧ w'.cell? ⟨w.heap.size, 7, none⟩ = some (.int .i64 pos.em) ∧ w'.cell? ⟨w.heap.size, 8, none⟩ = some (.bool pos.ep) ∧ w'.cell? ⟨w.heap.size, 9, none⟩ = some (.string pos.pad) ∧ w'.cell? ⟨w.heap.size, 10, none⟩ = some (.int .i64 pos.pa) ∧ w'.cell? ⟨w.heap.size, 11, none⟩ = some (.int .i64 pos.wd) ∧ w'.cell? ⟨w.heap.size, 13, none⟩ = some (.slice M.A neg.p.length M.c) ∧ w'.cell? ⟨w.heap.size, 14, none⟩ = some (.slice M.B neg.s.length M.d) ∧ w'.cell? ⟨w.heap.size, 15, none⟩ = some (.int .i64 neg.im) ∧ w'.cell? ⟨w.heap.size, 16, none⟩ = some (.int .i64 neg.fn) ∧ w'.cell? ⟨w.heap.size, 17, none⟩ = some (.int .i64 neg.fx) ∧ w'.cell? ⟨w.heap.size, 18, none⟩ = some (.int .i64 neg.pr) ∧ w'.cell? ⟨w.heap.size, 19, none⟩ = some (.int .i64 neg.se) ∧ w'.cell? ⟨w.heap.size, 20, none⟩ = some (.int .i64 neg.em) ∧ w'.cell? ⟨w.heap.size, 21, none⟩ = some (.bool neg.ep) ∧ w'.cell? ⟨w.heap.size, 22, none⟩ = some (.string neg.pad) ∧ w'.cell? ⟨w.heap.size, 23, none⟩ = some (.int .i64 neg.pa) ∧ w'.cell? ⟨w.heap.size, 24, none⟩ = some (.int .i64 neg.wd))
   (first | exact ⟨pat_c0 HQ.out.box, pat_c1 HQ.out.box, pat_c2 HQ.out.box, pat_c3 HQ.out.box, pat_c4 HQ.out.box, pat_c5 HQ.out.box, pat_c6 HQ.out.box, pat_c7 HQ.out.box, pat_c8 HQ.out.box, pat_c9 HQ.out.box, pat_c10 HQ.out.box, pat_c11 HQ.out.box, pat_c13 HQ.out.box, pat_c14 HQ.out.box, pat_c15 HQ.out.box, pat_c16 HQ.out.box, pat_c17 HQ.out.box, pat_c18 HQ.out.box, pat_c19 HQ.out.box, pat_c20 HQ.out.box, pat_c21 HQ.out.box, pat_c22 HQ.out.box, pat_c23 HQ.out.box, pat_c24 HQ.out.box⟩)
   (first | (go_at_call 32; (with_reducible refine (rtext_calls L pos _ (HL.out.below (aP130)) H1.out).mono ?_); rintro e w1 ⟨rfl, hb⟩; have nq := aMk ((by first | exact HQ.out | exact HQ.out.drew1 | exact HQ.out.drewN _ : PW w _ L M ⟨pos, true, neg⟩).step hb); clear HQ hb; have HQ := nq; clear nq) | (go_at_call 32; (with_reducible refine (rtext_calls M neg _ (HM.out.below (aP130)) H2.out).mono ?_); rintro e w1 ⟨rfl, hb⟩; have nq := aMk ((by first | exact HQ.out | exact HQ.out.drew1 | exact HQ.out.drewN _ : PW w _ L M ⟨pos, true, neg⟩).step hb); clear HQ hb; have HQ := nq; clear nq))
  go_wp2
  go_ret
  exact ⟨ret_str HE.out.symm, HQ.out.below⟩
 | false =>
  have HE := aMk (show wholeS ⟨pos, false, neg⟩ = textS pos by unfold wholeS; rw [if_neg (fun e => Bool.noConfusion e)])
  clear hl hm h1 h2
  go_enter Try.func22, Try.ntmps22
  go_wp2_with (first | ((with_reducible refine gate_dst (N := 1) rfl ?_); refine box_event ?hg (N := 1) ?hd (cs := patC L M ⟨pos, false, neg⟩) (t := 26) ?hr ?_; (case hd => rfl); (case hg => rfl); (case hr => first | (go_simp; done) | (go_simp; rfl)); intro gb hgb w1 hbox hbb; subst hgb; have HQ : Aside0 (PW w w1 L M ⟨pos, false, neg⟩) := ⟨⟨hbox, hbb⟩⟩; clear hbox hbb; have c0 := pat_c0 HQ.out.box; have c1 := pat_c1 HQ.out.box; have c2 := pat_c2 HQ.out.box; have c3 := pat_c3 HQ.out.box; have c4 := pat_c4 HQ.out.box; have c5 := pat_c5 HQ.out.box; have c6 := pat_c6 HQ.out.box; have c7 := pat_c7 HQ.out.box; have c8 := pat_c8 HQ.out.box; have c9 := pat_c9 HQ.out.box; have c10 := pat_c10 HQ.out.box; have c11 := pat_c11 HQ.out.box; have c12 := pat_c12 HQ.out.box; have c13 := pat_c13 HQ.out.box; have c14 := pat_c14 HQ.out.box; have c15 := pat_c15 HQ.out.box; have c16 := pat_c16 HQ.out.box; have c17 := pat_c17 HQ.out.box; have c18 := pat_c18 HQ.out.box; have c19 := pat_c19 HQ.out.box; have c20 := pat_c20 HQ.out.box; have c21 := pat_c21 HQ.out.box; have c22 := pat_c22 HQ.out.box; have c23 := pat_c23 HQ.out.box; have c24 := pat_c24 HQ.out.box) | (go_at_call 32; (with_reducible refine (rtext_calls L pos _ (HL.out.below HQ.out.below) H1.out).mono ?_); rintro e w1 ⟨rfl, hb⟩; have nq := aMk (HQ.out.step hb); clear HQ hb c0 c1 c2 c3 c4 c5 c6 c7 c8 c9 c10 c11 c12 c13 c14 c15 c16 c17 c18 c19 c20 c21 c22 c23 c24; have HQ := nq; clear nq; have c0 := pat_c0 HQ.out.box; have c1 := pat_c1 HQ.out.box; have c2 := pat_c2 HQ.out.box; have c3 := pat_c3 HQ.out.box; have c4 := pat_c4 HQ.out.box; have c5 := pat_c5 HQ.out.box; have c6 := pat_c6 HQ.out.box; have c7 := pat_c7 HQ.out.box; have c8 := pat_c8 HQ.out.box; have c9 := pat_c9 HQ.out.box; have c10 := pat_c10 HQ.out.box; have c11 := pat_c11 HQ.out.box; have c12 := pat_c12 HQ.out.box; have c13 := pat_c13 HQ.out.box; have c14 := pat_c14 HQ.out.box; have c15 := pat_c15 HQ.out.box; have c16 := pat_c16 HQ.out.box; have c17 := pat_c17 HQ.out.box; have c18 := pat_c18 HQ.out.box; have c19 := pat_c19 HQ.out.box; have c20 := pat_c20 HQ.out.box; have c21 := pat_c21 HQ.out.box; have c22 := pat_c22 HQ.out.box; have c23 := pat_c23 HQ.out.box; have c24 := pat_c24 HQ.out.box))
  go_ret
  exact ⟨ret_str HE.out.symm, HQ.out.below⟩
set_option maxHeartbeats 16000000 in
set_option maxRecDepth 100000 in
theorem rcheck_walk (L M : Sl) (pos : Sb) (ng : Bool) (neg : Sb) (w : World) (hl : SubOk w L pos) (hm : SubOk w M neg) : Calls Try.prog 21 #[patV L M ⟨pos, ng, neg⟩] w fun e w' => e = .returned (.int .i64 (checkP ⟨pos, ng, neg⟩)) ∧ Below w.heap.size w w' := by
 have HL := aMk hl
 have HM := aMk hm
 clear hl hm
 cases ng with
 | true =>
  rcases Bool.eq_false_or_eq_true (halfS pos) with k1 | k1
  case inr =>
   have HE := aMk (show checkP ⟨pos, true, neg⟩ = 141 by simp [checkP, formB, k1])
   exact aP72
  rcases Bool.eq_false_or_eq_true (halfS neg) with k2 | k2
  case inr =>
   have HE := aMk (show checkP ⟨pos, true, neg⟩ = 141 from aP131)
   exact aP72
  have HF := form_good HL.out HM.out (show formB ⟨pos, true, neg⟩ = true by simp [formB, k1, k2])
  have H1 : Aside0 (Good pos) := ⟨HF.1⟩
  have H2 : Aside0 (Good neg) := ⟨HF.2 rfl⟩
  have HE := aMk (show checkP ⟨pos, true, neg⟩ = if (wholeS ⟨pos, true, neg⟩).size > 128 then 142 else 0 from aP131)
  clear HF
  by_cases hs : (wholeS ⟨pos, true, neg⟩).size > 128
  all_goals
   first | rw [if_pos hs] at HE | rw [if_neg hs] at HE
   first | have d1 := len_yes hs | have d1 := len_no hs
   clear hs
   go_enter Try.func21, Try.ntmps21
   go_wp2_with (first | ((with_reducible refine gate_dst (N := 1) rfl ?_); refine box_event ?hg (N := 1) ?hd (cs := patC L M ⟨pos, true, neg⟩) (t := 26) ?hr ?_; (case hd => rfl); (case hg => rfl); (case hr => first | (go_simp; done) | (go_simp; rfl)); intro gb hgb w1 hbox hbb; subst hgb; have HQ : Aside0 (PW w w1 L M ⟨pos, true, neg⟩) := ⟨⟨hbox, hbb⟩⟩; clear hbox hbb; have c0 := pat_c0 HQ.out.box; have c1 := pat_c1 HQ.out.box; have c2 := pat_c2 HQ.out.box; have c3 := pat_c3 HQ.out.box; have c4 := pat_c4 HQ.out.box; have c5 := pat_c5 HQ.out.box; have c6 := pat_c6 HQ.out.box; have c7 := pat_c7 HQ.out.box; have c8 := pat_c8 HQ.out.box; have c9 := pat_c9 HQ.out.box; have c10 := pat_c10 HQ.out.box; have c11 := pat_c11 HQ.out.box; have c12 := pat_c12 HQ.out.box; have c13 := pat_c13 HQ.out.box; have c14 := pat_c14 HQ.out.box; have c15 := pat_c15 HQ.out.box; have c16 := pat_c16 HQ.out.box; have c17 := pat_c17 HQ.out.box; have c18 := pat_c18 HQ.out.box; have c19 := pat_c19 HQ.out.box; have c20 := pat_c20 HQ.out.box; have c21 := pat_c21 HQ.out.box; have c22 := pat_c22 HQ.out.box; have c23 := pat_c23 HQ.out.box; have c24 := pat_c24 HQ.out.box) | ((with_reducible refine gate_dst (N := 23) rfl ?_); refine wpList_load_row rfl 26 (.tmp 1) rfl w.heap.size rfl 26 (patC L M ⟨pos, true, neg⟩) (0, 0) _ HQ.out.box Try.underlying26 rfl info26 ?_) | (go_at_call 31; (with_reducible refine (rhalf_calls L pos _ (HL.out.below HQ.out.below)).mono ?_); rintro e w1 ⟨rfl, hb⟩; have nq := aMk (HQ.out.step hb); clear HQ hb c0 c1 c2 c3 c4 c5 c6 c7 c8 c9 c10 c11 c12 c13 c14 c15 c16 c17 c18 c19 c20 c21 c22 c23 c24; have HQ := nq; clear nq; have c0 := pat_c0 HQ.out.box; have c1 := pat_c1 HQ.out.box; have c2 := pat_c2 HQ.out.box; have c3 := pat_c3 HQ.out.box; have c4 := pat_c4 HQ.out.box; have c5 := pat_c5 HQ.out.box; have c6 := pat_c6 HQ.out.box; have c7 := pat_c7 HQ.out.box; have c8 := pat_c8 HQ.out.box; have c9 := pat_c9 HQ.out.box; have c10 := pat_c10 HQ.out.box; have c11 := pat_c11 HQ.out.box; have c12 := pat_c12 HQ.out.box; have c13 := pat_c13 HQ.out.box; have c14 := pat_c14 HQ.out.box; have c15 := pat_c15 HQ.out.box; have c16 := pat_c16 HQ.out.box; have c17 := pat_c17 HQ.out.box; have c18 := pat_c18 HQ.out.box; have c19 := pat_c19 HQ.out.box; have c20 := pat_c20 HQ.out.box; have c21 := pat_c21 HQ.out.box; have c22 := pat_c22 HQ.out.box; have c23 := pat_c23 HQ.out.box; have c24 := pat_c24 HQ.out.box) | (go_at_call 31; (with_reducible refine (rhalf_calls M neg _ (HM.out.below HQ.out.below)).mono ?_); rintro e w1 ⟨rfl, hb⟩; have nq := aMk (HQ.out.step hb); clear HQ hb c0 c1 c2 c3 c4 c5 c6 c7 c8 c9 c10 c11 c12 c13 c14 c15 c16 c17 c18 c19 c20 c21 c22 c23 c24; have HQ := nq; clear nq; have c0 := pat_c0 HQ.out.box; have c1 := pat_c1 HQ.out.box; have c2 := pat_c2 HQ.out.box; have c3 := pat_c3 HQ.out.box; have c4 := pat_c4 HQ.out.box; have c5 := pat_c5 HQ.out.box; have c6 := pat_c6 HQ.out.box; have c7 := pat_c7 HQ.out.box; have c8 := pat_c8 HQ.out.box; have c9 := pat_c9 HQ.out.box; have c10 := pat_c10 HQ.out.box; have c11 := pat_c11 HQ.out.box; have c12 := pat_c12 HQ.out.box; have c13 := pat_c13 HQ.out.box; have c14 := pat_c14 HQ.out.box; have c15 := pat_c15 HQ.out.box; have c16 := pat_c16 HQ.out.box; have c17 := pat_c17 HQ.out.box; have c18 := pat_c18 HQ.out.box; have c19 := pat_c19 HQ.out.box; have c20 := pat_c20 HQ.out.box; have c21 := pat_c21 HQ.out.box; have c22 := pat_c22 HQ.out.box; have c23 := pat_c23 HQ.out.box; have c24 := pat_c24 HQ.out.box) | (go_at_call 18; (with_reducible refine (samezero_calls M neg _ (HM.out.below HQ.out.below).r).mono ?_); rintro e w1 ⟨rfl, hb⟩; have nq := aMk (HQ.out.step hb); clear HQ hb c0 c1 c2 c3 c4 c5 c6 c7 c8 c9 c10 c11 c12 c13 c14 c15 c16 c17 c18 c19 c20 c21 c22 c23 c24; have HQ := nq; clear nq; have c0 := pat_c0 HQ.out.box; have c1 := pat_c1 HQ.out.box; have c2 := pat_c2 HQ.out.box; have c3 := pat_c3 HQ.out.box; have c4 := pat_c4 HQ.out.box; have c5 := pat_c5 HQ.out.box; have c6 := pat_c6 HQ.out.box; have c7 := pat_c7 HQ.out.box; have c8 := pat_c8 HQ.out.box; have c9 := pat_c9 HQ.out.box; have c10 := pat_c10 HQ.out.box; have c11 := pat_c11 HQ.out.box; have c12 := pat_c12 HQ.out.box; have c13 := pat_c13 HQ.out.box; have c14 := pat_c14 HQ.out.box; have c15 := pat_c15 HQ.out.box; have c16 := pat_c16 HQ.out.box; have c17 := pat_c17 HQ.out.box; have c18 := pat_c18 HQ.out.box; have c19 := pat_c19 HQ.out.box; have c20 := pat_c20 HQ.out.box; have c21 := pat_c21 HQ.out.box; have c22 := pat_c22 HQ.out.box; have c23 := pat_c23 HQ.out.box; have c24 := pat_c24 HQ.out.box) | (go_at_call 22; (with_reducible refine (rwhole_walk L M pos true neg _ (HL.out.below HQ.out.below) (HM.out.below HQ.out.below) H1.out (fun _ => H2.out)).mono ?_); rintro e w1 ⟨rfl, hb⟩; have nq := aMk (HQ.out.step hb); clear HQ hb c0 c1 c2 c3 c4 c5 c6 c7 c8 c9 c10 c11 c12 c13 c14 c15 c16 c17 c18 c19 c20 c21 c22 c23 c24; have HQ := nq; clear nq; have c0 := pat_c0 HQ.out.box; have c1 := pat_c1 HQ.out.box; have c2 := pat_c2 HQ.out.box; have c3 := pat_c3 HQ.out.box; have c4 := pat_c4 HQ.out.box; have c5 := pat_c5 HQ.out.box; have c6 := pat_c6 HQ.out.box; have c7 := pat_c7 HQ.out.box; have c8 := pat_c8 HQ.out.box; have c9 := pat_c9 HQ.out.box; have c10 := pat_c10 HQ.out.box; have c11 := pat_c11 HQ.out.box; have c12 := pat_c12 HQ.out.box; have c13 := pat_c13 HQ.out.box; have c14 := pat_c14 HQ.out.box; have c15 := pat_c15 HQ.out.box; have c16 := pat_c16 HQ.out.box; have c17 := pat_c17 HQ.out.box; have c18 := pat_c18 HQ.out.box; have c19 := pat_c19 HQ.out.box; have c20 := pat_c20 HQ.out.box; have c21 := pat_c21 HQ.out.box; have c22 := pat_c22 HQ.out.box; have c23 := pat_c23 HQ.out.box; have c24 := pat_c24 HQ.out.box))
   go_ret
   exact ⟨ret_int HE.out.symm, HQ.out.below⟩
 | false =>
  rcases Bool.eq_false_or_eq_true (halfS pos) with k1 | k1
  case inr =>
   have HE := aMk (show checkP ⟨pos, false, neg⟩ = 141 by simp [checkP, formB, k1])
   exact aP71
  rcases Bool.eq_false_or_eq_true (zeroB neg) with k2 | k2
  case inr =>
   have HE := aMk (show checkP ⟨pos, false, neg⟩ = 141 from aP131)
   exact aP71
  have HF := form_good HL.out HM.out (show formB ⟨pos, false, neg⟩ = true by simp [formB, k1, k2])
  have H1 : Aside0 (Good pos) := ⟨HF.1⟩
  have HE := aMk (show checkP ⟨pos, false, neg⟩ = if (wholeS ⟨pos, false, neg⟩).size > 128 then 142 else 0 from aP131)
  clear HF
  by_cases hs : (wholeS ⟨pos, false, neg⟩).size > 128
  all_goals
   first | rw [if_pos hs] at HE | rw [if_neg hs] at HE
   first | have d1 := len_yes hs | have d1 := len_no hs
   clear hs
   go_enter Try.func21, Try.ntmps21
   go_wp2_with (first | ((with_reducible refine gate_dst (N := 1) rfl ?_); refine box_event ?hg (N := 1) ?hd (cs := patC L M ⟨pos, false, neg⟩) (t := 26) ?hr ?_; (case hd => rfl); (case hg => rfl); (case hr => first | (go_simp; done) | (go_simp; rfl)); intro gb hgb w1 hbox hbb; subst hgb; have HQ : Aside0 (PW w w1 L M ⟨pos, false, neg⟩) := ⟨⟨hbox, hbb⟩⟩; clear hbox hbb; have c0 := pat_c0 HQ.out.box; have c1 := pat_c1 HQ.out.box; have c2 := pat_c2 HQ.out.box; have c3 := pat_c3 HQ.out.box; have c4 := pat_c4 HQ.out.box; have c5 := pat_c5 HQ.out.box; have c6 := pat_c6 HQ.out.box; have c7 := pat_c7 HQ.out.box; have c8 := pat_c8 HQ.out.box; have c9 := pat_c9 HQ.out.box; have c10 := pat_c10 HQ.out.box; have c11 := pat_c11 HQ.out.box; have c12 := pat_c12 HQ.out.box; have c13 := pat_c13 HQ.out.box; have c14 := pat_c14 HQ.out.box; have c15 := pat_c15 HQ.out.box; have c16 := pat_c16 HQ.out.box; have c17 := pat_c17 HQ.out.box; have c18 := pat_c18 HQ.out.box; have c19 := pat_c19 HQ.out.box; have c20 := pat_c20 HQ.out.box; have c21 := pat_c21 HQ.out.box; have c22 := pat_c22 HQ.out.box; have c23 := pat_c23 HQ.out.box; have c24 := pat_c24 HQ.out.box) | ((with_reducible refine gate_dst (N := 23) rfl ?_); refine wpList_load_row rfl 26 (.tmp 1) rfl w.heap.size rfl 26 (patC L M ⟨pos, false, neg⟩) (0, 0) _ HQ.out.box Try.underlying26 rfl info26 ?_) | (go_at_call 31; (with_reducible refine (rhalf_calls L pos _ (HL.out.below HQ.out.below)).mono ?_); rintro e w1 ⟨rfl, hb⟩; have nq := aMk (HQ.out.step hb); clear HQ hb c0 c1 c2 c3 c4 c5 c6 c7 c8 c9 c10 c11 c12 c13 c14 c15 c16 c17 c18 c19 c20 c21 c22 c23 c24; have HQ := nq; clear nq; have c0 := pat_c0 HQ.out.box; have c1 := pat_c1 HQ.out.box; have c2 := pat_c2 HQ.out.box; have c3 := pat_c3 HQ.out.box; have c4 := pat_c4 HQ.out.box; have c5 := pat_c5 HQ.out.box; have c6 := pat_c6 HQ.out.box; have c7 := pat_c7 HQ.out.box; have c8 := pat_c8 HQ.out.box; have c9 := pat_c9 HQ.out.box; have c10 := pat_c10 HQ.out.box; have c11 := pat_c11 HQ.out.box; have c12 := pat_c12 HQ.out.box; have c13 := pat_c13 HQ.out.box; have c14 := pat_c14 HQ.out.box; have c15 := pat_c15 HQ.out.box; have c16 := pat_c16 HQ.out.box; have c17 := pat_c17 HQ.out.box; have c18 := pat_c18 HQ.out.box; have c19 := pat_c19 HQ.out.box; have c20 := pat_c20 HQ.out.box; have c21 := pat_c21 HQ.out.box; have c22 := pat_c22 HQ.out.box; have c23 := pat_c23 HQ.out.box; have c24 := pat_c24 HQ.out.box) | (go_at_call 18; (with_reducible refine (samezero_calls M neg _ (HM.out.below HQ.out.below).r).mono ?_); rintro e w1 ⟨rfl, hb⟩; have nq := aMk (HQ.out.step hb); clear HQ hb c0 c1 c2 c3 c4 c5 c6 c7 c8 c9 c10 c11 c12 c13 c14 c15 c16 c17 c18 c19 c20 c21 c22 c23 c24; have HQ := nq; clear nq; have c0 := pat_c0 HQ.out.box; have c1 := pat_c1 HQ.out.box; have c2 := pat_c2 HQ.out.box; have c3 := pat_c3 HQ.out.box; have c4 := pat_c4 HQ.out.box; have c5 := pat_c5 HQ.out.box; have c6 := pat_c6 HQ.out.box; have c7 := pat_c7 HQ.out.box; have c8 := pat_c8 HQ.out.box; have c9 := pat_c9 HQ.out.box; have c10 := pat_c10 HQ.out.box; have c11 := pat_c11 HQ.out.box; have c12 := pat_c12 HQ.out.box; have c13 := pat_c13 HQ.out.box; have c14 := pat_c14 HQ.out.box; have c15 := pat_c15 HQ.out.box; have c16 := pat_c16 HQ.out.box; have c17 := pat_c17 HQ.out.box; have c18 := pat_c18 HQ.out.box; have c19 := pat_c19 HQ.out.box; have c20 := pat_c20 HQ.out.box; have c21 := pat_c21 HQ.out.box; have c22 := pat_c22 HQ.out.box; have c23 := pat_c23 HQ.out.box; have c24 := pat_c24 HQ.out.box) | (go_at_call 22; (with_reducible refine (rwhole_walk L M pos false neg _ (HL.out.below HQ.out.below) (HM.out.below HQ.out.below) H1.out (fun e => Bool.noConfusion e)).mono ?_); rintro e w1 ⟨rfl, hb⟩; have nq := aMk (HQ.out.step hb); clear HQ hb c0 c1 c2 c3 c4 c5 c6 c7 c8 c9 c10 c11 c12 c13 c14 c15 c16 c17 c18 c19 c20 c21 c22 c23 c24; have HQ := nq; clear nq; have c0 := pat_c0 HQ.out.box; have c1 := pat_c1 HQ.out.box; have c2 := pat_c2 HQ.out.box; have c3 := pat_c3 HQ.out.box; have c4 := pat_c4 HQ.out.box; have c5 := pat_c5 HQ.out.box; have c6 := pat_c6 HQ.out.box; have c7 := pat_c7 HQ.out.box; have c8 := pat_c8 HQ.out.box; have c9 := pat_c9 HQ.out.box; have c10 := pat_c10 HQ.out.box; have c11 := pat_c11 HQ.out.box; have c12 := pat_c12 HQ.out.box; have c13 := pat_c13 HQ.out.box; have c14 := pat_c14 HQ.out.box; have c15 := pat_c15 HQ.out.box; have c16 := pat_c16 HQ.out.box; have c17 := pat_c17 HQ.out.box; have c18 := pat_c18 HQ.out.box; have c19 := pat_c19 HQ.out.box; have c20 := pat_c20 HQ.out.box; have c21 := pat_c21 HQ.out.box; have c22 := pat_c22 HQ.out.box; have c23 := pat_c23 HQ.out.box; have c24 := pat_c24 HQ.out.box))
   go_ret
   exact ⟨ret_int HE.out.symm, HQ.out.below⟩
theorem run_inv {s : ByteArray} (hs : s.size ≤ 128) : ∀ (k i : Nat) (y y' : St), i + k = 8 → InvP s i y → runS s ((List.range' i k)) y = some y' → InvP s 8 y'
 | 0, i, y, y', hi, h, hr => by
  obtain rfl : i = 8 := by omega
  obtain rfl := Option.some.inj hr
  exact h
 | k + 1, i, y, y', hi, h, hr => by
  obtain ⟨u, hu, hr2⟩ := Option.bind_eq_some_iff.mp (show (stepS s i y).bind (runS s (List.range' (i + 1) k)) = some y' from hr)
  exact run_inv hs k (i + 1) u y' (by omega) (inv_step hs (by omega) h hu).1 hr2
theorem run_inv0 {s : ByteArray} (hs : s.size ≤ 128) {p : Int} (h0 : 0 ≤ p) (hp : p ≤ s.size) {y : St} (h : runS s (stepsFrom 0) ⟨p, zeroSb2, 0⟩ = some y) : InvP s 8 y :=
 run_inv hs 8 0 _ y rfl ⟨h0, hp, tok_nil, check_nil, tok_nil, check_nil, fun _ => rfl, fun e => by omega, fun e => by omega⟩ h
theorem OwnP.moved {w w1 : World} {base : Nat} {L M : Sl} {x : Pt} (h : OwnP w base L M x) (hm : ∀ (k : Nat) (cs : Array Value), w.heap[k]? = some (.cells cs 53 (0, 0)) → w1.heap[k]? = w.heap[k]?) : OwnP w1 base L M x :=
 ⟨row_moved h.pp hm, row_moved h.ps hm, row_moved h.np hm, row_moved h.ns hm, h.c1, h.c2, h.c3, h.c4⟩
theorem OwnP.below {w w1 : World} {base : Nat} {L M : Sl} {x : Pt} (h : OwnP w base L M x) (hb : Below w.heap.size w w1) : OwnP w1 base L M x :=
 ⟨h.pp.below hb, h.ps.below hb, h.np.below hb, h.ns.below hb, h.c1, h.c2, h.c3, h.c4⟩
structure Sm (x : Sb) : Prop where
 tp : TokOk x.p
 ts : TokOk x.s
 pad : x.pad.size ≤ 128
theorem Sm.width {s : ByteArray} {p : Int} {y : St} (hs : s.size ≤ 128) (hr : runS s (stepsFrom 0) ⟨p, zeroSb2, 0⟩ = some y) (hv : InvP s 8 y) : Sm (widthS y) := by
 have hw := width_same y
 exact ⟨by rw [hw.1]; exact hv.tp, by rw [hw.2.1]; exact hv.ts, by rw [hw.2.2]; exact run_pad hs _ _ _ (by show (0 : Nat) ≤ 128; omega) hr⟩
theorem Sm.zero : Sm zeroSb2 := ⟨tok_nil, tok_nil, by decide⟩
structure QW (w0 w : World) (k : Nat) (L M : Sl) (x : Pt) : Prop where
 res : w.heap[w0.heap.size]? = some (.cells (patC Lz Lz zeroPt) 26 (0, 0))
 box : w.heap[k]? = some (.cells (patC L M x) 26 (0, 0))
 below : Below w0.heap.size w0 w
 own : OwnP w w0.heap.size L M x
 lt : w0.heap.size < k
 hp : Sm x.pos
 hn : Sm x.neg
namespace QW
variable {w0 w w1 : World} {k : Nat} {L M : Sl} {x : Pt} (h : QW w0 w k L M x)
include h
theorem step (hb : Below w.heap.size w w1) : QW w0 w1 k L M x := ⟨blk_below h.res hb, blk_below h.box hb, below_step h.below hb, h.own.below hb, h.lt, h.hp, h.hn⟩
theorem okp : SubOk w L x.pos := subOk_of h.own.pp h.own.ps h.own.c1 h.own.c2 h.hp.tp h.hp.ts h.hp.pad
theorem okn : SubOk w M x.neg := subOk_of h.own.np h.own.ns h.own.c3 h.own.c4 h.hn.tp h.hn.ts h.hn.pad
theorem other {j : Nat} {cur cs : Array Value} (hj : w.heap[j]? = some (.cells cur 24 (0, 0))) (hl : w0.heap.size ≤ j) : QW w0 (w.setRow j cs) k L M x :=
 ⟨(setRow_other _ _ _ _ (blk_ne h.res hj (by decide))).trans h.res, (setRow_other _ _ _ _ (blk_ne h.box hj (by decide))).trans h.box, below_setRow h.below hl, h.own.moved (fun i ci hi => setRow_other _ _ _ _ (blk_ne hi hj (by decide))), h.lt, h.hp, h.hn⟩
theorem yes : QW w0 (w.setCell ⟨k, 12, none⟩ (.bool true)) k L M ⟨x.pos, true, x.neg⟩ := by
 have ho := h.own.moved (w1 := w.setCell ⟨k, 12, none⟩ (.bool true)) (fun i ci hi => Below.heap_setCell w _ _ i (blk_ne hi h.box (by decide)))
 exact ⟨(Below.heap_setCell w _ _ _ (show w0.heap.size ≠ k by have := h.lt; omega)).trans h.res, blk_put h.box 12 _ rfl, below_set h.below (Nat.le_of_lt h.lt), ⟨ho.pp, ho.ps, ho.np, ho.ns, ho.c1, ho.c2, ho.c3, ho.c4⟩, h.lt, h.hp, h.hn⟩
theorem neg {M2 : Sl} {y : Sb} {cs : Array Value} (hcs : cs = patC L M2 ⟨x.pos, x.ng, y⟩) (r1 : RowIn w w0.heap.size (fun _ => True) M2.A y.p) (r2 : RowIn w w0.heap.size (fun _ => True) M2.B y.s) (c1 : y.p.length ≤ M2.c) (c2 : y.s.length ≤ M2.d) (hs : Sm y) : QW w0 (w.setRow k cs) k L M2 ⟨x.pos, x.ng, y⟩ := by
 subst hcs
 have hm : ∀ (i : Nat) (ci : Array Value), w.heap[i]? = some (.cells ci 53 (0, 0)) → (w.setRow k (patC L M2 ⟨x.pos, x.ng, y⟩)).heap[i]? = w.heap[i]? := fun i ci hi => setRow_other _ _ _ _ (blk_ne hi h.box (by decide))
 exact ⟨(setRow_other _ _ _ _ (by have := h.lt; omega)).trans h.res, setRow_heap _ _ _ _ _ _ h.box, below_setRow h.below (Nat.le_of_lt h.lt), ⟨row_moved h.own.pp hm, row_moved h.own.ps hm, row_moved r1 hm, row_moved r2 hm, h.own.c1, h.own.c2, c1, c2⟩, h.lt, h.hp, hs⟩
end QW
theorem results16 : Try.f16.results = #[.cell 2 26, .tmp 3] := by kernel_rfl
set_option maxHeartbeats 16000000 in
set_option maxRecDepth 100000 in
theorem rpparse_walk (s : ByteArray) (w : World) : Calls Try.prog 16 #[.string s] w (DoneQ w (parseP s)) := by
 go_enter Try.func16, Try.ntmps16
 go_upto_region 1 with (fail)
 go_cut [14] (fun v wc => v = .bool (decide (128 < (s.size : Int))) ∧ Aside0 (wc.heap[w.heap.size]? = some (.cells (patC Lz Lz zeroPt) 26 (0, 0))) ∧ Aside0 (Below w.heap.size w wc))
 case first =>
  have h1 := heap_alloc_new w (.cells (patC Lz Lz zeroPt) 26)
  have HA := aMk h1
  clear h1
  go_wp2
  go_meet
  case rel => exact ⟨rfl, HA, ⟨below_alloc (Below.refl _ _) _⟩⟩
 case rest =>
  obtain ⟨w1, rfl⟩ : ∃ w1 : World, w1 = wc := ⟨_, rfl⟩
  obtain ⟨rfl, HA, HB⟩ := hcut
  cases d : decide (128 < (s.size : Int)) with
  | true =>
   have HE := aMk (show parseP s = (zeroPt, 142) by unfold parseP; rw [if_pos (by have := of_decide_eq_true d; omega)])
   go_wp2_with (first | ((with_reducible refine gate_store (t := 26) (p := 2) rfl ?_); refine wpList_store_row rfl 26 (.tmp 2) (.tmp 15) rfl w.heap.size (patC Lz Lz zeroPt) rfl rfl 26 (patC Lz Lz zeroPt) HA.out info26 rfl (by simp [Value.oneCell']) ?_))
   exact bodyPost_ret (results_ct results16 _ _ w.heap.size 26 (patC Lz Lz zeroPt) (0, 0) _ rfl (setRow_heap _ _ _ _ _ _ HA.out) Try.underlying26 rfl info26) rfl (doneQ_zero HE.out (below_setRow HB.out (Nat.le_refl _)))
  | false =>
   have hs : s.size ≤ 128 := by have := of_decide_eq_false d; omega
   have HP := aMk hs
   have HE := aMk (show parseP s = (match scanA s 0 with
    | none => (zeroPt, 140)
    | some x => if bAt s x.1 59 = true then (match scanA s (x.1 + 1) with
     | none => (zeroPt, 140)
     | some y => finP s y.1 ⟨x.2, true, y.2⟩) else finP s x.1 ⟨x.2, false, zeroSb2⟩) by unfold parseP; rw [if_neg (by omega)]; rfl)
   clear hs
   cases hS : runS s (stepsFrom 0) ⟨0, zeroSb2, 0⟩ with
   | none =>
    have HE2 := aMk (show parseP s = (zeroPt, 140) by rw [HE.out]; unfold scanA; rw [hS]; rfl)
    go_wp2_with (first | (go_at_call 28; ((refine (read_calls s 0 _ (Int.le_refl _) (by omega) HP.out).mono ?_); rw [hS]; rintro e w2 ⟨hb, L, yn, qn, rfl⟩; have BA := aMk (blk_below HA.out hb); have BB := aMk (below_step HB.out hb); clear hb)) | ((with_reducible refine gate_dst (N := 4) rfl ?_); refine box_event ?hg (N := 4) ?hd (cs := subC Lz zeroSb2) (t := 24) ?hr ?_; (case hd => rfl); (case hg => rfl); (case hr => first | (go_simp; done) | (go_simp; rfl)); intro k4 hk4 w3 hbox hbb; have K4 := aMk hbox; have BA3 := aMk (blk_below BA.out hbb); have BB3 := aMk (below_step BB.out hbb); have HK4 := aMk (show w.heap.size ≤ k4 by have := blk_lt BA.out; omega); clear hbox hbb BA BB hk4) | ((with_reducible refine gate_store (t := 24) (p := 4) rfl ?_); refine wpList_store_row rfl 24 (.tmp 4) (.tmp 19) rfl k4 (subC L yn) rfl rfl 24 (subC Lz zeroSb2) K4.out info24 rfl (by simp [Value.oneCell']) ?_; generalize hW : World.setRow w3 k4 _ = w4; have BA4 : Aside0 (w4.heap[w.heap.size]? = some (.cells (patC Lz Lz zeroPt) 26 (0, 0))) := ⟨by rw [← hW]; exact (setRow_other _ _ _ _ (blk_ne BA3.out K4.out (by decide))).trans BA3.out⟩; have BB4 : Aside0 (Below w.heap.size w w4) := ⟨by rw [← hW]; exact below_setRow BB3.out HK4.out⟩; clear hW) | ((with_reducible refine gate_store (t := 26) (p := 2) rfl ?_); refine wpList_store_row rfl 26 (.tmp 2) (.tmp 24) rfl w.heap.size (patC Lz Lz zeroPt) rfl rfl 26 (patC Lz Lz zeroPt) BA4.out info26 rfl (by simp [Value.oneCell']) ?_))
    exact bodyPost_ret (results_ct results16 _ _ w.heap.size 26 (patC Lz Lz zeroPt) (0, 0) _ rfl (setRow_heap _ _ _ _ _ _ BA4.out) Try.underlying26 rfl info26) rfl (doneQ_zero HE2.out (below_setRow BB4.out (Nat.le_refl _)))
   | some y =>
    have HX := aMk (show scanA s 0 = some (y.p, widthS y) by unfold scanA; rw [hS]; rfl)
    have HV := aMk (run_inv0 HP.out (Int.le_refl _) (by omega) hS)
    have HSM := aMk (Sm.width HP.out hS HV.out)
    go_upto_region 7 with (first | (go_at_call 28; ((refine (read_calls s 0 _ (Int.le_refl _) (by omega) HP.out).mono ?_); rw [hS]; rintro e w2 ⟨hb, L, rfl, r1, r2, c1, c2⟩; have BA := aMk (blk_below HA.out hb); have BB := aMk (below_step HB.out hb); have RR := aMk (And.intro (r1.lower HB.out.size) (And.intro (r2.lower HB.out.size) (And.intro c1 c2))); clear hb r1 r2 c1 c2)) | ((with_reducible refine gate_dst (N := 4) rfl ?_); refine box_event ?hg (N := 4) ?hd (cs := subC Lz zeroSb2) (t := 24) ?hr ?_; (case hd => rfl); (case hg => rfl); (case hr => first | (go_simp; done) | (go_simp; rfl)); intro k4 hk4 w3 hbox hbb; have K4 := aMk hbox; have BA3 := aMk (blk_below BA.out hbb); have BB3 := aMk (below_step BB.out hbb); have HK4 := aMk (show w.heap.size ≤ k4 by have := blk_lt BA.out; omega); have RR3 := aMk (And.intro (RR.out.1.below hbb) (And.intro (RR.out.2.1.below hbb) RR.out.2.2)); clear hbox hbb BA BB RR hk4) | ((with_reducible refine gate_store (t := 24) (p := 4) rfl ?_); refine wpList_store_row rfl 24 (.tmp 4) (.tmp 19) rfl k4 (subC L (widthS y)) rfl rfl 24 (subC Lz zeroSb2) K4.out info24 rfl (by simp [Value.oneCell']) ?_; generalize hW : World.setRow w3 k4 _ = w4; have BA4 : Aside0 (w4.heap[w.heap.size]? = some (.cells (patC Lz Lz zeroPt) 26 (0, 0))) := ⟨by rw [← hW]; exact (setRow_other _ _ _ _ (blk_ne BA3.out K4.out (by decide))).trans BA3.out⟩; have BB4 : Aside0 (Below w.heap.size w w4) := ⟨by rw [← hW]; exact below_setRow BB3.out HK4.out⟩; have KK4 : Aside0 (w4.heap[k4]? = some (.cells (subC L (widthS y)) 24 (0, 0))) := ⟨by rw [← hW]; exact setRow_heap _ _ _ _ _ _ K4.out⟩; have RR4 : Aside0 (RowIn w4 w.heap.size (fun _ => True) L.A (widthS y).p ∧ RowIn w4 w.heap.size (fun _ => True) L.B (widthS y).s ∧ (widthS y).p.length ≤ L.c ∧ (widthS y).s.length ≤ L.d) := ⟨by rw [← hW]; exact ⟨row_moved RR3.out.1 (fun i ci hi => setRow_other _ _ _ _ (blk_ne hi K4.out (by decide))), row_moved RR3.out.2.1 (fun i ci hi => setRow_other _ _ _ _ (blk_ne hi K4.out (by decide))), RR3.out.2.2⟩⟩; clear hW K4 BA3 BB3 RR3) | ((with_reducible refine gate_dst (N := 25) rfl ?_); refine wpList_load_row rfl 24 (.tmp 4) rfl k4 rfl 24 (subC L (widthS y)) (0, 0) _ KK4.out Try.underlying24 rfl info24 ?_) | ((with_reducible refine gate_dst (N := 7) rfl ?_); refine box_event ?hg (N := 7) ?hd (cs := patC Lz Lz zeroPt) (t := 26) ?hr ?_; (case hd => rfl); (case hg => rfl); (case hr => first | (go_simp; done) | (go_simp; rfl)); intro k7 hk7 w5 hbox hbb; have K7 := aMk hbox; have BA5 := aMk (blk_below BA4.out hbb); have BB5 := aMk (below_step BB4.out hbb); have HK7 := aMk (show w.heap.size < k7 by have := blk_lt BA4.out; omega); have RR5 := aMk (And.intro (RR4.out.1.below hbb) (And.intro (RR4.out.2.1.below hbb) RR4.out.2.2)); clear hbox hbb BA4 BB4 RR4 hk7 KK4) | ((with_reducible refine gate_store (t := 26) (p := 7) rfl ?_); refine wpList_store_row rfl 26 (.tmp 7) (.tmp 26) rfl k7 (patC L Lz ⟨widthS y, false, zeroSb2⟩) rfl rfl 26 (patC Lz Lz zeroPt) K7.out info26 rfl (by simp [Value.oneCell']) ?_; generalize hW : World.setRow w5 k7 _ = w6; have NQ : Aside0 (QW w w6 k7 L Lz ⟨widthS y, false, zeroSb2⟩) := ⟨by rw [← hW]; have hm : ∀ (i : Nat) (ci : Array Value), w5.heap[i]? = some (.cells ci 53 (0, 0)) → (w5.setRow k7 (patC L Lz ⟨widthS y, false, zeroSb2⟩)).heap[i]? = w5.heap[i]? := fun i ci hi => setRow_other _ _ _ _ (blk_ne hi K7.out (by decide)); exact ⟨(setRow_other _ _ _ _ (by have := HK7.out; omega)).trans BA5.out, setRow_heap _ _ _ _ _ _ K7.out, below_setRow BB5.out (Nat.le_of_lt HK7.out), ⟨row_moved RR5.out.1 hm, row_moved RR5.out.2.1 hm, RowIn.nil _ _ _, RowIn.nil _ _ _, RR5.out.2.2.1, RR5.out.2.2.2, Nat.le_refl _, Nat.le_refl _⟩, HK7.out, HSM.out, Sm.zero⟩⟩; clear hW K7 BA5 BB5 RR5))
    clear hS
    simp only [Act.put, List.setIfInBounds_toArray, List.set_cons_succ, List.set_cons_zero]
    go_cut [36] (fun v wc => v = .bool (bAt s y.p 59) ∧ Aside0 (QW w wc k7 L Lz ⟨widthS y, false, zeroSb2⟩))
    case first =>
     have p5 : (0 ≤ y.p) = True := eq_true HV.out.p0
     have hx5 := bt_at s y.p
     by_cases c3 : y.p < (s.size : Int)
     ·have q5 := eq_true c3
      have c3b0 : decide (y.p < (s.size : Int)) = true := dTr c3
      cases c6 : (bt s y.p == 59)
      ·have HBT := aMk (show bAt s y.p 59 = false by unfold bAt; rw [c3b0, c6]; rfl)
       clear c3
       go_wp2
       go_meet
       case rel => exact ⟨by rw [HBT.out], NQ⟩
      ·have HBT := aMk (show bAt s y.p 59 = true by unfold bAt; rw [c3b0, c6]; rfl)
       clear c3
       go_wp2
       go_meet
       case rel => exact ⟨by rw [HBT.out], NQ⟩
     ·have c3b0 : decide (y.p < (s.size : Int)) = false := dFa c3
      have HBT := aMk (show bAt s y.p 59 = false by unfold bAt; rw [c3b0]; rfl)
      clear c3
      go_wp2
      go_meet
      case rel => exact ⟨by rw [HBT.out], NQ⟩
    case rest =>
     obtain ⟨w7, rfl⟩ : ∃ w7 : World, w7 = wc := ⟨_, rfl⟩
     obtain ⟨rfl, NR⟩ := hcut
     clear NQ
     go_upto_if 36 with (fail)
     rename_i K hK
     go_cut [5] (fun v wc => ∃ (q : Int) (x : Pt) (L2 M2 : Sl), v = .int .i64 q ∧ Aside0 (parseP s = finP s q x) ∧ Aside0 (QW w wc k7 L2 M2 x))
     case first =>
      cases hb : bAt s y.p 59 with
      | false =>
       have HM := aMk (show parseP s = finP s y.p ⟨widthS y, false, zeroSb2⟩ by rw [HE.out, HX.out]; show (if bAt s y.p 59 = true then _ else _) = _; rw [if_neg (by rw [hb]; decide)])
       go_wp2
       go_meet
       case rel => exact ⟨y.p, ⟨widthS y, false, zeroSb2⟩, L, Lz, rfl, HM, NR⟩
      | true =>
       have HIN := aMk (bAt_in hb)
       have HE1 := aMk (show parseP s = (match scanA s (y.p + 1) with | none => (zeroPt, 140) | some z => finP s z.1 ⟨widthS y, true, z.2⟩) by rw [HE.out, HX.out]; show (if bAt s y.p 59 = true then _ else _) = _; rw [if_pos hb])
       have wr1 : IntKind.i64.wrap (y.p + 1) = y.p + 1 := IntWalk.i64_in _ (by have := HV.out.p0; have := HV.out.p1; have := HP.out; omega)
       clear HE HX
       cases hS2 : runS s (stepsFrom 0) ⟨y.p + 1, zeroSb2, 0⟩ with
       | none =>
        have HE2 := aMk (show parseP s = (zeroPt, 140) by rw [HE1.out]; unfold scanA; rw [hS2]; rfl)
        go_wp2_with (first | (go_at_call 28; ((refine (read_calls s (y.p + 1) _ (by have := HV.out.p0; omega) HIN.out HP.out).mono ?_); rw [hS2]; rintro e w8 ⟨hb, L2, yn, qn, rfl⟩; have nq := aMk (NR.out.step hb); clear hb NR; have NR := nq; clear nq)) | ((with_reducible refine gate_dst (N := 8) rfl ?_); refine box_event ?hg (N := 8) ?hd (cs := subC Lz zeroSb2) (t := 24) ?hr ?_; (case hd => rfl); (case hg => rfl); (case hr => first | (go_simp; done) | (go_simp; rfl)); intro k8 hk8 w9 hbox hbb; have K8 := aMk hbox; have HK8 := aMk (show w.heap.size ≤ k8 by have := blk_lt NR.out.res; omega); have nq := aMk (NR.out.step hbb); clear NR hbox hk8; have NR := nq; clear nq; clear hbb) | ((with_reducible refine gate_store (t := 24) (p := 8) rfl ?_); refine wpList_store_row rfl 24 (.tmp 8) (.tmp 42) rfl k8 (subC L2 yn) rfl rfl 24 (subC Lz zeroSb2) K8.out info24 rfl (by simp [Value.oneCell']) ?_; generalize hW : World.setRow w9 k8 _ = w10; have NS : Aside0 (QW w w10 k7 L Lz ⟨widthS y, false, zeroSb2⟩) := ⟨by rw [← hW]; exact NR.out.other K8.out HK8.out⟩; clear hW NR) | ((with_reducible refine gate_store (t := 26) (p := 2) rfl ?_); refine wpList_store_row rfl 26 (.tmp 2) (.tmp 47) rfl w.heap.size (patC Lz Lz zeroPt) rfl rfl 26 (patC Lz Lz zeroPt) NS.out.res info26 rfl (by simp [Value.oneCell']) ?_))
        exact bodyPost_ret (results_ct results16 _ _ w.heap.size 26 (patC Lz Lz zeroPt) (0, 0) _ rfl (setRow_heap _ _ _ _ _ _ NS.out.res) Try.underlying26 rfl info26) rfl (doneQ_zero HE2.out (below_setRow NS.out.below (Nat.le_refl _)))
       | some y2 =>
        have HE2 := aMk (show parseP s = finP s y2.p ⟨widthS y, true, widthS y2⟩ by rw [HE1.out]; unfold scanA; rw [hS2]; rfl)
        have HSM2 := aMk (Sm.width HP.out hS2 (run_inv0 HP.out (by have := HV.out.p0; omega) HIN.out hS2))
        go_wp2_with (first | (go_at_call 28; ((refine (read_calls s (y.p + 1) _ (by have := HV.out.p0; omega) HIN.out HP.out).mono ?_); rw [hS2]; rintro e w8 ⟨hb, L2, rfl, r1, r2, c1, c2⟩; have RR := aMk (And.intro (r1.lower NR.out.below.size) (And.intro (r2.lower NR.out.below.size) (And.intro c1 c2))); have nq := aMk (NR.out.step hb); clear hb NR r1 r2 c1 c2; have NR := nq; clear nq)) | ((with_reducible refine gate_dst (N := 8) rfl ?_); refine box_event ?hg (N := 8) ?hd (cs := subC Lz zeroSb2) (t := 24) ?hr ?_; (case hd => rfl); (case hg => rfl); (case hr => first | (go_simp; done) | (go_simp; rfl)); intro k8 hk8 w9 hbox hbb; have K8 := aMk hbox; have HK8 := aMk (show w.heap.size ≤ k8 by have := blk_lt NR.out.res; omega); have nq := aMk (NR.out.step hbb); clear NR hbox hk8; have NR := nq; clear nq; have RR3 := aMk (And.intro (RR.out.1.below hbb) (And.intro (RR.out.2.1.below hbb) RR.out.2.2)); clear RR hbb) | ((with_reducible refine gate_store (t := 24) (p := 8) rfl ?_); refine wpList_store_row rfl 24 (.tmp 8) (.tmp 42) rfl k8 (subC L2 (widthS y2)) rfl rfl 24 (subC Lz zeroSb2) K8.out info24 rfl (by simp [Value.oneCell']) ?_; generalize hW : World.setRow w9 k8 _ = w10; have NS : Aside0 (QW w w10 k7 L Lz ⟨widthS y, false, zeroSb2⟩) := ⟨by rw [← hW]; exact NR.out.other K8.out HK8.out⟩; have KK8 : Aside0 (w10.heap[k8]? = some (.cells (subC L2 (widthS y2)) 24 (0, 0))) := ⟨by rw [← hW]; exact setRow_heap _ _ _ _ _ _ K8.out⟩; have RR4 : Aside0 (RowIn w10 w.heap.size (fun _ => True) L2.A (widthS y2).p ∧ RowIn w10 w.heap.size (fun _ => True) L2.B (widthS y2).s ∧ (widthS y2).p.length ≤ L2.c ∧ (widthS y2).s.length ≤ L2.d) := ⟨by rw [← hW]; exact ⟨row_moved RR3.out.1 (fun i ci hi => setRow_other _ _ _ _ (blk_ne hi K8.out (by decide))), row_moved RR3.out.2.1 (fun i ci hi => setRow_other _ _ _ _ (blk_ne hi K8.out (by decide))), RR3.out.2.2⟩⟩; have c12 := pat_c12 NS.out.box; have z12 := blk_frozen NS.out.box 12; clear RR3 K8; clear hW NR) | ((with_reducible refine gate_dst (N := 49) rfl ?_); refine wpList_load_row rfl 24 (.tmp 8) rfl k8 rfl 24 (subC L2 (widthS y2)) (0, 0) _ ((Below.heap_setCell w10 _ _ _ (fun e => blk_ne NS.out.box KK8.out (by decide) e.symm)).trans KK8.out) Try.underlying24 rfl info24 ?_) | ((with_reducible refine gate_store (t := 24) (p := 50) rfl ?_); refine wpList_store_mid rfl 24 (.tmp 50) (.tmp 49) rfl k7 13 (subC L2 (widthS y2)) rfl rfl 26 (patC L Lz ⟨widthS y, true, zeroSb2⟩) NS.out.yes.box info24 (Nat.le_of_ble_eq_true rfl) (by simp [Value.oneCell']) ?_))
        go_meet
        case rel => exact ⟨y2.p, ⟨widthS y, true, widthS y2⟩, L, L2, rfl, HE2, ⟨NS.out.yes.neg rfl (row_moved RR4.out.1 (fun i ci hi => Below.heap_setCell w10 _ _ i (blk_ne hi NS.out.box (by decide)))) (row_moved RR4.out.2.1 (fun i ci hi => Below.heap_setCell w10 _ _ i (blk_ne hi NS.out.box (by decide)))) RR4.out.2.2.1 RR4.out.2.2.2 HSM2.out⟩⟩
     case rest =>
      obtain ⟨w8, rfl⟩ : ∃ w8 : World, w8 = wc := ⟨_, rfl⟩
      refine hK _ _ ?_
      clear hK K
      obtain ⟨q, ⟨pos, ng, neg⟩, L2, M2, rfl, HFN, NZ⟩ := hcut
      clear NR HE HX HV HSM
      cases d2 : decide (q < (s.size : Int)) with
      | true =>
       have HE3 := aMk (show parseP s = (zeroPt, 140) by rw [HFN.out]; unfold finP; rw [if_pos (of_decide_eq_true d2)])
       go_wp2_with (first | ((with_reducible refine gate_store (t := 26) (p := 2) rfl ?_); refine wpList_store_row rfl 26 (.tmp 2) (.tmp 56) rfl w.heap.size (patC Lz Lz zeroPt) rfl rfl 26 (patC Lz Lz zeroPt) NZ.out.res info26 rfl (by simp [Value.oneCell']) ?_))
       exact aP73
      | false =>
       have HF2 := aMk (show parseP s = if checkP ⟨pos, ng, neg⟩ = 0 then (⟨pos, ng, neg⟩, 0) else (zeroPt, checkP ⟨pos, ng, neg⟩) by rw [HFN.out]; unfold finP; rw [if_neg (of_decide_eq_false d2)])
       obtain ⟨ec, hec⟩ : ∃ ec : Int, checkP ⟨pos, ng, neg⟩ = ec := ⟨_, rfl⟩
       have HEC := aMk hec
       clear hec HFN
       cases d3 : (ec != 0) with
       | true =>
        have HE3 := aMk (show parseP s = (zeroPt, ec) by rw [HF2.out, HEC.out, if_neg (bne_iff_ne.mp d3)])
        go_wp2_with (first | ((with_reducible refine gate_dst (N := 57) rfl ?_); refine wpList_load_row rfl 26 (.tmp 7) rfl k7 rfl 26 (patC L2 M2 ⟨pos, ng, neg⟩) (0, 0) _ NZ.out.box Try.underlying26 rfl info26 ?_) | (go_at_call 21; ((refine (rcheck_walk L2 M2 pos ng neg _ NZ.out.okp NZ.out.okn).mono ?_); rw [HEC.out]; rintro e w9 ⟨rfl, hb⟩; have nz := aMk (NZ.out.step hb); clear NZ hb; have NZ := nz; clear nz)) | ((with_reducible refine gate_store (t := 26) (p := 2) rfl ?_); refine wpList_store_row rfl 26 (.tmp 2) (.tmp 61) rfl w.heap.size (patC Lz Lz zeroPt) rfl rfl 26 (patC Lz Lz zeroPt) NZ.out.res info26 rfl (by simp [Value.oneCell']) ?_))
        exact aP73
       | false =>
        have hz : ec = 0 := by simpa using d3
        have HE3 := aMk (show parseP s = (⟨pos, ng, neg⟩, 0) by rw [HF2.out, HEC.out, if_pos hz])
        go_wp2_with (first | ((with_reducible refine gate_dst (N := 57) rfl ?_); refine wpList_load_row rfl 26 (.tmp 7) rfl k7 rfl 26 (patC L2 M2 ⟨pos, ng, neg⟩) (0, 0) _ NZ.out.box Try.underlying26 rfl info26 ?_) | ((with_reducible refine gate_dst (N := 63) rfl ?_); refine wpList_load_row rfl 26 (.tmp 7) rfl k7 rfl 26 (patC L2 M2 ⟨pos, ng, neg⟩) (0, 0) _ NZ.out.box Try.underlying26 rfl info26 ?_) | (go_at_call 21; ((refine (rcheck_walk L2 M2 pos ng neg _ NZ.out.okp NZ.out.okn).mono ?_); rw [HEC.out]; rintro e w9 ⟨rfl, hb⟩; have nz := aMk (NZ.out.step hb); clear NZ hb; have NZ := nz; clear nz)) | ((with_reducible refine gate_store (t := 26) (p := 2) rfl ?_); refine wpList_store_row rfl 26 (.tmp 2) (.tmp 63) rfl w.heap.size (patC L2 M2 ⟨pos, ng, neg⟩) rfl rfl 26 (patC Lz Lz zeroPt) NZ.out.res info26 rfl (by simp [Value.oneCell']) ?_))
        exact bodyPost_ret (results_ct results16 _ _ w.heap.size 26 (patC L2 M2 ⟨pos, ng, neg⟩) (0, 0) _ rfl (setRow_heap _ _ _ _ _ _ NZ.out.res) Try.underlying26 rfl info26) rfl (doneQ_some HE3.out NZ.out.own (Below.refl _ _) NZ.out.res (Nat.le_refl _) NZ.out.below (Nat.le_refl _))
end Go.Proofs.Ytacnjemndfmbhaa.Q
end
section
namespace Go.Proofs.Ytacnjemndfmbhaa.Q
open Go.RowKit Go.Proofs.Ytacnjemndfmbhaa.A Go.Proofs.YtacnjemndfmbhaaW.PrintWords Go.Proofs.YtacnjemndfmbhaaW.PrintLast Go.Proofs.YtacnjemndfmbhaaW.PrintMore
set_option linter.unusedVariables false
set_option linter.unusedSimpArgs false
def patEq (x y : Pt) : Bool := subEq x.pos y.pos && (x.ng == y.ng && subEq x.neg y.neg)
structure TW (w0 w : World) (L M : Sl) (x : Pt) (g : Nat) (L2 M2 : Sl) (y : Pt) : Prop where
 box : w.heap[w0.heap.size]? = some (.cells (patC L M x) 26 (0, 0))
 box2 : w.heap[g]? = some (.cells (patC L2 M2 y) 26 (0, 0))
 below : Below w0.heap.size w0 w
theorem TW.step {w0 w w1 : World} {L M : Sl} {x : Pt} {g : Nat} {L2 M2 : Sl} {y : Pt} (h : TW w0 w L M x g L2 M2 y) (hb : Below w.heap.size w w1) : TW w0 w1 L M x g L2 M2 y := ⟨blk_below h.box hb, blk_below h.box2 hb, below_step h.below hb⟩
set_option maxHeartbeats 16000000 in
set_option maxRecDepth 100000 in
theorem same_walk (L M : Sl) (x : Pt) (L2 M2 : Sl) (y : Pt) (w : World) (hx : SubR w L x.pos ∧ SubR w M x.neg) (hy : SubR w L2 y.pos ∧ SubR w M2 y.neg) : Calls Try.prog 12 #[patV L M x, patV L2 M2 y] w fun e w' => e = .returned (.bool (patEq x y)) ∧ Below w.heap.size w w' := by
 have HX := aMk hx
 have HY := aMk hy
 clear hx hy
 cases h0 : subEq x.pos y.pos
 rotate_left
 cases h1 : (x.ng == y.ng)
 rotate_left
 all_goals
  go_enter Try.func12, Try.ntmps12
  go_wp2_with (first | ((with_reducible refine gate_dst (N := 2) rfl ?_); refine box_event ?hg (N := 2) ?hd (cs := patC L M x) (t := 26) ?hr ?_; (case hd => rfl); (case hg => rfl); (case hr => first | (go_simp; done) | (go_simp; rfl)); intro gb hgb w1 hbox hbb; subst hgb; have HQ0 : Aside0 (PW w w1 L M x) := ⟨⟨hbox, hbb⟩⟩; clear hbox hbb) | ((with_reducible refine gate_dst (N := 3) rfl ?_); refine box_event ?hg (N := 3) ?hd (cs := patC L2 M2 y) (t := 26) ?hr ?_; (case hd => rfl); (case hg => rfl); (case hr => first | (go_simp; done) | (go_simp; rfl)); intro gb hgb w1 hbox hbb; have HQ : Aside0 (TW w w1 L M x gb L2 M2 y) := ⟨⟨(HQ0.out.step hbb).box, hbox, (HQ0.out.step hbb).below⟩⟩; clear hbox hbb hgb HQ0; have c0 := pat_c0 HQ.out.box; have c1 := pat_c1 HQ.out.box; have c2 := pat_c2 HQ.out.box; have c3 := pat_c3 HQ.out.box; have c4 := pat_c4 HQ.out.box; have c5 := pat_c5 HQ.out.box; have c6 := pat_c6 HQ.out.box; have c7 := pat_c7 HQ.out.box; have c8 := pat_c8 HQ.out.box; have c9 := pat_c9 HQ.out.box; have c10 := pat_c10 HQ.out.box; have c11 := pat_c11 HQ.out.box; have c12 := pat_c12 HQ.out.box; have c13 := pat_c13 HQ.out.box; have c14 := pat_c14 HQ.out.box; have c15 := pat_c15 HQ.out.box; have c16 := pat_c16 HQ.out.box; have c17 := pat_c17 HQ.out.box; have c18 := pat_c18 HQ.out.box; have c19 := pat_c19 HQ.out.box; have c20 := pat_c20 HQ.out.box; have c21 := pat_c21 HQ.out.box; have c22 := pat_c22 HQ.out.box; have c23 := pat_c23 HQ.out.box; have c24 := pat_c24 HQ.out.box; have d0 := pat_c0 HQ.out.box2; have d1 := pat_c1 HQ.out.box2; have d2 := pat_c2 HQ.out.box2; have d3 := pat_c3 HQ.out.box2; have d4 := pat_c4 HQ.out.box2; have d5 := pat_c5 HQ.out.box2; have d6 := pat_c6 HQ.out.box2; have d7 := pat_c7 HQ.out.box2; have d8 := pat_c8 HQ.out.box2; have d9 := pat_c9 HQ.out.box2; have d10 := pat_c10 HQ.out.box2; have d11 := pat_c11 HQ.out.box2; have d12 := pat_c12 HQ.out.box2; have d13 := pat_c13 HQ.out.box2; have d14 := pat_c14 HQ.out.box2; have d15 := pat_c15 HQ.out.box2; have d16 := pat_c16 HQ.out.box2; have d17 := pat_c17 HQ.out.box2; have d18 := pat_c18 HQ.out.box2; have d19 := pat_c19 HQ.out.box2; have d20 := pat_c20 HQ.out.box2; have d21 := pat_c21 HQ.out.box2; have d22 := pat_c22 HQ.out.box2; have d23 := pat_c23 HQ.out.box2; have d24 := pat_c24 HQ.out.box2) | (go_at_call 18; (with_reducible refine (samesub_calls L x.pos L2 y.pos _ (HX.out.1.below HQ.out.below) (HY.out.1.below HQ.out.below)).mono ?_); rintro e w1 ⟨rfl, hb⟩; have nq := aMk (HQ.out.step hb); clear HQ hb c0 c1 c2 c3 c4 c5 c6 c7 c8 c9 c10 c11 c12 c13 c14 c15 c16 c17 c18 c19 c20 c21 c22 c23 c24 d0 d1 d2 d3 d4 d5 d6 d7 d8 d9 d10 d11 d12 d13 d14 d15 d16 d17 d18 d19 d20 d21 d22 d23 d24; have HQ := nq; clear nq; have c0 := pat_c0 HQ.out.box; have c1 := pat_c1 HQ.out.box; have c2 := pat_c2 HQ.out.box; have c3 := pat_c3 HQ.out.box; have c4 := pat_c4 HQ.out.box; have c5 := pat_c5 HQ.out.box; have c6 := pat_c6 HQ.out.box; have c7 := pat_c7 HQ.out.box; have c8 := pat_c8 HQ.out.box; have c9 := pat_c9 HQ.out.box; have c10 := pat_c10 HQ.out.box; have c11 := pat_c11 HQ.out.box; have c12 := pat_c12 HQ.out.box; have c13 := pat_c13 HQ.out.box; have c14 := pat_c14 HQ.out.box; have c15 := pat_c15 HQ.out.box; have c16 := pat_c16 HQ.out.box; have c17 := pat_c17 HQ.out.box; have c18 := pat_c18 HQ.out.box; have c19 := pat_c19 HQ.out.box; have c20 := pat_c20 HQ.out.box; have c21 := pat_c21 HQ.out.box; have c22 := pat_c22 HQ.out.box; have c23 := pat_c23 HQ.out.box; have c24 := pat_c24 HQ.out.box; have d0 := pat_c0 HQ.out.box2; have d1 := pat_c1 HQ.out.box2; have d2 := pat_c2 HQ.out.box2; have d3 := pat_c3 HQ.out.box2; have d4 := pat_c4 HQ.out.box2; have d5 := pat_c5 HQ.out.box2; have d6 := pat_c6 HQ.out.box2; have d7 := pat_c7 HQ.out.box2; have d8 := pat_c8 HQ.out.box2; have d9 := pat_c9 HQ.out.box2; have d10 := pat_c10 HQ.out.box2; have d11 := pat_c11 HQ.out.box2; have d12 := pat_c12 HQ.out.box2; have d13 := pat_c13 HQ.out.box2; have d14 := pat_c14 HQ.out.box2; have d15 := pat_c15 HQ.out.box2; have d16 := pat_c16 HQ.out.box2; have d17 := pat_c17 HQ.out.box2; have d18 := pat_c18 HQ.out.box2; have d19 := pat_c19 HQ.out.box2; have d20 := pat_c20 HQ.out.box2; have d21 := pat_c21 HQ.out.box2; have d22 := pat_c22 HQ.out.box2; have d23 := pat_c23 HQ.out.box2; have d24 := pat_c24 HQ.out.box2) | (go_at_call 18; (with_reducible refine (samesub_calls M x.neg M2 y.neg _ (HX.out.2.below HQ.out.below) (HY.out.2.below HQ.out.below)).mono ?_); rintro e w1 ⟨rfl, hb⟩; have nq := aMk (HQ.out.step hb); clear HQ hb c0 c1 c2 c3 c4 c5 c6 c7 c8 c9 c10 c11 c12 c13 c14 c15 c16 c17 c18 c19 c20 c21 c22 c23 c24 d0 d1 d2 d3 d4 d5 d6 d7 d8 d9 d10 d11 d12 d13 d14 d15 d16 d17 d18 d19 d20 d21 d22 d23 d24; have HQ := nq; clear nq; have c0 := pat_c0 HQ.out.box; have c1 := pat_c1 HQ.out.box; have c2 := pat_c2 HQ.out.box; have c3 := pat_c3 HQ.out.box; have c4 := pat_c4 HQ.out.box; have c5 := pat_c5 HQ.out.box; have c6 := pat_c6 HQ.out.box; have c7 := pat_c7 HQ.out.box; have c8 := pat_c8 HQ.out.box; have c9 := pat_c9 HQ.out.box; have c10 := pat_c10 HQ.out.box; have c11 := pat_c11 HQ.out.box; have c12 := pat_c12 HQ.out.box; have c13 := pat_c13 HQ.out.box; have c14 := pat_c14 HQ.out.box; have c15 := pat_c15 HQ.out.box; have c16 := pat_c16 HQ.out.box; have c17 := pat_c17 HQ.out.box; have c18 := pat_c18 HQ.out.box; have c19 := pat_c19 HQ.out.box; have c20 := pat_c20 HQ.out.box; have c21 := pat_c21 HQ.out.box; have c22 := pat_c22 HQ.out.box; have c23 := pat_c23 HQ.out.box; have c24 := pat_c24 HQ.out.box; have d0 := pat_c0 HQ.out.box2; have d1 := pat_c1 HQ.out.box2; have d2 := pat_c2 HQ.out.box2; have d3 := pat_c3 HQ.out.box2; have d4 := pat_c4 HQ.out.box2; have d5 := pat_c5 HQ.out.box2; have d6 := pat_c6 HQ.out.box2; have d7 := pat_c7 HQ.out.box2; have d8 := pat_c8 HQ.out.box2; have d9 := pat_c9 HQ.out.box2; have d10 := pat_c10 HQ.out.box2; have d11 := pat_c11 HQ.out.box2; have d12 := pat_c12 HQ.out.box2; have d13 := pat_c13 HQ.out.box2; have d14 := pat_c14 HQ.out.box2; have d15 := pat_c15 HQ.out.box2; have d16 := pat_c16 HQ.out.box2; have d17 := pat_c17 HQ.out.box2; have d18 := pat_c18 HQ.out.box2; have d19 := pat_c19 HQ.out.box2; have d20 := pat_c20 HQ.out.box2; have d21 := pat_c21 HQ.out.box2; have d22 := pat_c22 HQ.out.box2; have d23 := pat_c23 HQ.out.box2; have d24 := pat_c24 HQ.out.box2))
  go_ret
  exact ⟨ret_bool (by simp [patEq, *]), HQ.out.below⟩
theorem scan_sm {s : ByteArray} (hs : s.size ≤ 128) {p : Int} (h0 : 0 ≤ p) (hp : p ≤ s.size) {x : Int × Sb} (h : scanA s p = some x) : Sm x.2 := by
 obtain ⟨y, hy, rfl⟩ := Option.map_eq_some_iff.mp (show (runS s (stepsFrom 0) ⟨p, zeroSb2, 0⟩).map _ = _ from h)
 exact Sm.width hs hy (run_inv0 hs h0 hp hy)
theorem parse_sm (s : ByteArray) : Sm (parseP s).1.pos ∧ Sm (parseP s).1.neg := by
 have hf : ∀ q x, Sm x.pos → Sm x.neg → Sm (finP s q x).1.pos ∧ Sm (finP s q x).1.neg := by
  intro q x h1 h2
  unfold finP
  split
  ·exact ⟨Sm.zero, Sm.zero⟩
  ·split
   ·exact ⟨h1, h2⟩
   ·exact ⟨Sm.zero, Sm.zero⟩
 unfold parseP
 split
 ·exact ⟨Sm.zero, Sm.zero⟩
 ·rename_i hs
  split
  ·exact ⟨Sm.zero, Sm.zero⟩
  ·rename_i x hx
   have r := scan_range (Int.le_refl 0) (by omega) hx
   have m1 := scan_sm (by omega) (Int.le_refl 0) (by omega) hx
   split
   ·rename_i hb
    have hi := bAt_in hb
    split
    ·exact ⟨Sm.zero, Sm.zero⟩
    ·rename_i y hy
     exact hf _ _ m1 (scan_sm (by omega) (by omega) hi hy)
   ·exact hf _ _ m1 Sm.zero
theorem OwnP.lower {w : World} {base b2 : Nat} {L M : Sl} {x : Pt} (h : OwnP w base L M x) (hb : b2 ≤ base) : OwnP w b2 L M x := ⟨h.pp.lower hb, h.ps.lower hb, h.np.lower hb, h.ns.lower hb, h.c1, h.c2, h.c3, h.c4⟩
structure BX (w0 w : World) (k : Nat) (L M : Sl) (x : Pt) : Prop where
 box : w.heap[k]? = some (.cells (patC L M x) 26 (0, 0))
 own : OwnP w w0.heap.size L M x
 hp : Sm x.pos
 hn : Sm x.neg
 ge : w0.heap.size ≤ k
namespace BX
variable {w0 w w1 : World} {k : Nat} {L M : Sl} {x : Pt} (h : BX w0 w k L M x)
include h
theorem okp : SubOk w L x.pos := subOk_of h.own.pp h.own.ps h.own.c1 h.own.c2 h.hp.tp h.hp.ts h.hp.pad
theorem okn : SubOk w M x.neg := subOk_of h.own.np h.own.ns h.own.c3 h.own.c4 h.hn.tp h.hn.ts h.hn.pad
theorem step (hb : Below w.heap.size w w1) : BX w0 w1 k L M x := ⟨blk_below h.box hb, h.own.below hb, h.hp, h.hn, h.ge⟩
theorem over {j : Nat} {cur cs : Array Value} (hj : w.heap[j]? = some (.cells cur 26 (0, 0))) (hne : k ≠ j) : BX w0 (w.setRow j cs) k L M x :=
 ⟨(setRow_other _ _ _ _ hne).trans h.box, h.own.moved (fun i ci hi => setRow_other _ _ _ _ (blk_ne hi hj (by decide))), h.hp, h.hn, h.ge⟩
end BX
theorem BX.fill {w0 w : World} {k : Nat} {L M : Sl} {x y : Pt} {L0 M0 : Sl} (hb : w.heap[k]? = some (.cells (patC L0 M0 y) 26 (0, 0))) {base : Nat} (ho : OwnP w base L M x) (hl : w0.heap.size ≤ base) (h1 : Sm x.pos) (h2 : Sm x.neg) (hg : w0.heap.size ≤ k) : BX w0 (w.setRow k (patC L M x)) k L M x :=
 ⟨setRow_heap _ _ _ _ _ _ hb, (ho.lower hl).moved (fun i ci hi => setRow_other _ _ _ _ (blk_ne hi hb (by decide))), h1, h2, hg⟩
theorem fix_sm : Sm fixA ∧ Sm fixB := by
 have h := parse_sm fixS
 rw [fix_parse] at h
 exact h
theorem parse_fix : parseP ⟨#[35, 44, 35, 35, 48, 46, 48, 35, 35, 59, 40, 42, 120, 48, 41]⟩ = (⟨fixA, true, fixB⟩, 0) := fix_parse
theorem parse_dot : parseP ⟨#[48, 46]⟩ = (zeroPt, 140) := dot_parse
theorem wpList_load_g {P : Program} {ops : Array Oper} {rest : List Oper} {o : Oper} {a : Act} {w : World} {Q : Exit → Act → World → Prop} (hw : Region.wanted o (yielded ops a.tmps) = true) (ty : TypeId) (x : Operand) (ho : o.op = .load ty x)
  (g : Nat) (hx : a.eval x = .pointer (some ⟨g, 0, none⟩)) (t : TypeId) (cs : Array Value) (fr : Nat × Nat) (d : TypeDesc) (hg : w.heap[g]? = some (.cells cs t fr))
  (hu : P.underlying ty = some d) (hd : (match d with | .struct _ | .array _ _ => true | _ => false) = true) (hi : (P.info? ty).map (·.size) = some cs.size)
  (h : wpList P ops Q rest (a.put o.dst (.agg cs)) w) : wpList P ops Q (o :: rest) a w :=
 wpList_step fun K hK => by rw [if_pos hw]; exact wp_load_row ty x ho g hx t cs fr d hg hu hd hi (hK _ _ h)
set_option maxHeartbeats 16000000 in
set_option maxRecDepth 100000 in
theorem fixed_calls (w : World) (hG : Glob w) : Calls Try.prog 14 #[] w fun e w' => e = .returned (.bool true) ∧ Below w.heap.size w w' := by
 have HG := aMk hG
 clear hG
 obtain ⟨pa, ha⟩ : ∃ p, fixA = p := ⟨_, rfl⟩
 obtain ⟨pb, hb⟩ : ∃ p, fixB = p := ⟨_, rfl⟩
 have HS : Aside0 (Sm pa ∧ Sm pb) := ⟨by rw [← ha, ← hb]; exact fix_sm⟩
 have HF : Aside0 (parseP ⟨#[35, 44, 35, 35, 48, 46, 48, 35, 35, 59, 40, 42, 120, 48, 41]⟩ = (⟨pa, true, pb⟩, 0)) := ⟨by rw [← ha, ← hb]; exact parse_fix⟩
 have HN : Aside0 (printP ⟨pa, true, pb⟩ = (⟨#[35, 44, 35, 35, 48, 46, 48, 35, 35, 59, 40, 42, 120, 48, 41]⟩, 0)) := ⟨by rw [← ha, ← hb]; exact fix_print⟩
 have HC : Aside0 (checkP ⟨pa, true, pb⟩ = 0) := ⟨by rw [← ha, ← hb]; exact fix_check⟩
 have HV : Aside0 (pa.im = 1 ∧ pa.fn = 1 ∧ pa.fx = 3 ∧ pa.pr = 3 ∧ pb.pad = ⟨#[120]⟩ ∧ pb.pa = 1 ∧ pb.wd = 3) := ⟨by rw [← ha, ← hb]; exact ⟨rfl, rfl, rfl, rfl, rfl, rfl, rfl⟩⟩
 obtain ⟨zp, hz⟩ : ∃ z, zeroPt = z := ⟨_, rfl⟩
 have HD : Aside0 (parseP ⟨#[48, 46]⟩ = (zp, 140)) := ⟨by rw [← hz]; exact parse_dot⟩
 clear ha hb hz
 go_enter Try.func14, Try.ntmps14
 dsimp only [List.append]
 go_upto_region 4 with (first | (have hz := HF.out; go_at_call 15; ((refine (parse_walk ⟨#[35, 44, 35, 35, 48, 46, 48, 35, 35, 59, 40, 42, 120, 48, 41]⟩ _ HG.out).mono ?_); rw [hz]; rintro e w1 ⟨L, M, rfl, how, hb⟩; have OW := aMk how; have HB := aMk hb; clear how hb hz HF)) | ((with_reducible refine gate_dst (N := 1) rfl ?_); refine box_event ?hg (N := 1) ?hd (cs := patC Lz Lz zeroPt) (t := 26) ?hr ?_; (case hd => rfl); (case hg => rfl); (case hr => first | (go_simp; done) | (go_simp; rfl)); intro k1 hk1 w2 hbox hbb; have K1 := aMk hbox; have OW2 := aMk (OW.out.below hbb); have HB2 := aMk (below_step HB.out hbb); have HK := aMk (show w.heap.size ≤ k1 by have := HB.out.size; omega); clear hbox hbb OW HB hk1) | ((with_reducible refine gate_store (t := 26) (p := 1) rfl ?_); refine wpList_store_row rfl 26 (.tmp 1) (.tmp 9) rfl k1 (patC L M ⟨pa, true, pb⟩) rfl rfl 26 (patC Lz Lz zeroPt) K1.out info26 rfl (by simp [Value.oneCell']) ?_; generalize hW : World.setRow w2 k1 _ = w3; have BB : Aside0 (BX w w3 k1 L M ⟨pa, true, pb⟩) := ⟨by rw [← hW]; exact BX.fill K1.out OW2.out (Nat.le_refl _) HS.out.1 HS.out.2 HK.out⟩; have HB3 : Aside0 (Below w.heap.size w w3) := ⟨by rw [← hW]; exact below_setRow HB2.out HK.out⟩; clear hW K1 OW2 HB2) | ((with_reducible refine gate_dst (N := 12) rfl ?_); refine wpList_load_row rfl 26 (.tmp 1) rfl k1 rfl 26 (patC L M ⟨pa, true, pb⟩) (0, 0) _ BB.out.box Try.underlying26 rfl info26 ?_) | (go_at_call 9; ((refine (pprint_walk L M pa true pb _ (Glob_below HG.out HB3.out) BB.out.okp BB.out.okn).mono ?_); rw [HN.out]; rintro e w4 ⟨rfl, hb⟩; have nb := aMk (BB.out.step hb); have HB4 := aMk (below_step HB3.out hb); clear BB HB3 hb; have BB := nb; clear nb)) | (go_at_call 15; ((refine (parse_walk ⟨#[48, 46]⟩ _ (Glob_below HG.out HB4.out)).mono ?_); rw [HD.out]; rintro e w5 ⟨L5, M5, rfl, _, hb⟩; have nb := aMk (BB.out.step hb); have HB5 := aMk (below_step HB4.out hb); clear BB HB4 hb; have BB := nb; clear nb)) | ((with_reducible refine gate_dst (N := 5) rfl ?_); refine box_event ?hg (N := 5) ?hd (cs := patC Lz Lz zeroPt) (t := 26) ?hr ?_; (case hd => rfl); (case hg => rfl); (case hr => first | (go_simp; done) | (go_simp; rfl)); intro k5 hk5 w6 hbox hbb; have K5 := aMk hbox; have HK5 := aMk (show w.heap.size ≤ k5 by have := HB5.out.size; omega); have nb := aMk (BB.out.step hbb); have HB6 := aMk (below_step HB5.out hbb); have NE := aMk (show k1 ≠ k5 by have := blk_lt BB.out.box; omega); clear BB hbox hbb HB5 hk5; have BB := nb; clear nb) | ((with_reducible refine gate_store (t := 26) (p := 5) rfl ?_); refine wpList_store_row rfl 26 (.tmp 5) (.tmp 18) rfl k5 (patC L5 M5 zp) rfl rfl 26 (patC Lz Lz zeroPt) K5.out info26 rfl (by simp [Value.oneCell']) ?_; generalize hW : World.setRow w6 k5 _ = w7; have BC : Aside0 (BX w w7 k1 L M ⟨pa, true, pb⟩) := ⟨by rw [← hW]; exact BB.out.over K5.out NE.out⟩; have HB7 : Aside0 (Below w.heap.size w w7) := ⟨by rw [← hW]; exact below_setRow HB6.out HK5.out⟩; clear hW K5 BB HB6; have x2 : w7.cell? ⟨k1, 2, none⟩ = some (.int .i64 1) := (pat_c2 BC.out.box).trans (congrArg (fun v => some (Value.int .i64 v)) HV.out.1); have x3 : w7.cell? ⟨k1, 3, none⟩ = some (.int .i64 1) := (pat_c3 BC.out.box).trans (congrArg (fun v => some (Value.int .i64 v)) HV.out.2.1); have x4 : w7.cell? ⟨k1, 4, none⟩ = some (.int .i64 3) := (pat_c4 BC.out.box).trans (congrArg (fun v => some (Value.int .i64 v)) HV.out.2.2.1); have x5 : w7.cell? ⟨k1, 5, none⟩ = some (.int .i64 3) := (pat_c5 BC.out.box).trans (congrArg (fun v => some (Value.int .i64 v)) HV.out.2.2.2.1); have x12 : w7.cell? ⟨k1, 12, none⟩ = some (.bool true) := pat_c12 BC.out.box; have x22 : w7.cell? ⟨k1, 22, none⟩ = some (.string ⟨#[120]⟩) := (pat_c22 BC.out.box).trans (congrArg (fun v => some (Value.string v)) HV.out.2.2.2.2.1); have x23 : w7.cell? ⟨k1, 23, none⟩ = some (.int .i64 1) := (pat_c23 BC.out.box).trans (congrArg (fun v => some (Value.int .i64 v)) HV.out.2.2.2.2.2.1); have x24 : w7.cell? ⟨k1, 24, none⟩ = some (.int .i64 3) := (pat_c24 BC.out.box).trans (congrArg (fun v => some (Value.int .i64 v)) HV.out.2.2.2.2.2.2)))
 go_wp2_with (first | ((with_reducible refine gate_dst (N := 81) rfl ?_); refine wpList_load_g (by first | rfl | (go_simp; done)) 26 (.tmp 1) rfl k1 rfl 26 (patC L M ⟨pa, true, pb⟩) (0, 0) _ BC.out.box Try.underlying26 rfl info26 ?_) | (go_at_call 11; ((refine (pcheck_walk L M pa true pb _ (Glob_below HG.out HB7.out) BC.out.okp BC.out.okn).mono ?_); rw [HC.out]; rintro e w8 ⟨rfl, hb⟩; have HB8 := aMk (below_step HB7.out hb); clear hb)))
 go_ret
 exact ⟨rfl, HB8.out⟩
end Go.Proofs.Ytacnjemndfmbhaa.Q
end
section
namespace Go.Proofs.Ytacnjemndfmbhaa.Q
open Go.RowKit Go.Proofs.Ytacnjemndfmbhaa.A Go.Proofs.YtacnjemndfmbhaaW.PrintWords Go.Proofs.YtacnjemndfmbhaaW.PrintLast Go.Proofs.YtacnjemndfmbhaaW.PrintMore
set_option linter.unusedVariables false
set_option linter.unusedSimpArgs false
def WR (w : World) (base top : Nat) (A : Option Addr) (n : Nat) : Prop := n = 0 ∨ ∃ g cs, A = some ⟨g, 0, none⟩ ∧ w.heap[g]? = some (.cells cs 53 (0, 0)) ∧ n * 3 ≤ cs.size ∧ base ≤ g ∧ g < top ∧ n ≤ 4611686018427387904
theorem WR.of {w : World} {base : Nat} {ok : Nat → Prop} {A : Option Addr} {l : List S53} (h : RowIn w base ok A l) (hl : l.length ≤ 4611686018427387904) : WR w base w.heap.size A l.length := by
 obtain ⟨c, h⟩ := h
 obtain ⟨inner, ho⟩ := Kd.R_own h
 rcases ho.2 with ⟨_, h0⟩ | ⟨g, cap, cur, hv, hb, hg, hnc, hcm, hcs, _⟩
 ·exact .inl h0
 ·right
  injection hv with hA _ _
  exact ⟨g, cur, hA, hg, by rw [hcs]; exact Nat.mul_le_mul_right _ hnc, hb, blk_lt hg, hl⟩
theorem WR.kept {w w1 : World} {base top : Nat} {A : Option Addr} {n : Nat} (h : WR w base top A n) (hm : ∀ (k : Nat) (cs : Array Value), w.heap[k]? = some (.cells cs 53 (0, 0)) → ∃ cs', w1.heap[k]? = some (.cells cs' 53 (0, 0)) ∧ cs'.size = cs.size) : WR w1 base top A n := by
 rcases h with h | ⟨g, cs, h1, h2, h3, h4⟩
 ·exact .inl h
 ·obtain ⟨cs', e1, e2⟩ := hm g cs h2
  exact .inr ⟨g, cs', h1, e1, by rw [e2]; exact h3, h4⟩
theorem WR.below {w w1 : World} {base top : Nat} {A : Option Addr} {n : Nat} (h : WR w base top A n) (hb : Below w.heap.size w w1) : WR w1 base top A n := h.kept (fun k cs hk => ⟨cs, blk_below hk hb, rfl⟩)
theorem WR.other {w : World} {base top : Nat} {A : Option Addr} {n : Nat} (h : WR w base top A n) {j : Nat} {cur cs : Array Value} (hj : w.heap[j]? = some (.cells cur 26 (0, 0))) : WR (w.setRow j cs) base top A n := h.kept (fun k c hk => ⟨c, (setRow_other _ _ _ _ (blk_ne hk hj (by decide))).trans hk, rfl⟩)
structure VW (w0 w wr : World) (base top : Nat) (L M : Sl) (x : Pt) : Prop where
 box : wr.heap[w.heap.size]? = some (.cells (patC L M x) 26 (0, 0))
 r0 : WR wr base top L.A x.pos.p.length
 r1 : WR wr base top L.B x.pos.s.length
 r2 : WR wr base top M.A x.neg.p.length
 r3 : WR wr base top M.B x.neg.s.length
 kept : ∀ k, k < w.heap.size → (k < base ∨ top ≤ k ∨ ∀ cs, w.heap[k]? ≠ some (.cells cs 53 (0, 0))) → wr.heap[k]? = w.heap[k]?
 below : Below w0.heap.size w0 wr
 size : w.heap.size ≤ wr.heap.size
theorem VW.put {w0 w wr : World} {base top : Nat} {L M : Sl} {x : Pt} (h : VW w0 w wr base top L M x) {g : Nat} {cs cs' : Array Value} (hg : wr.heap[g]? = some (.cells cs 53 (0, 0))) (hs : cs'.size = cs.size) (hb : base ≤ g) (ht : g < top) (htop : top ≤ w.heap.size) (hbase : w0.heap.size ≤ base) : VW w0 w (wr.setRow g cs') base top L M x := by
 have hm : ∀ (k : Nat) (c : Array Value), wr.heap[k]? = some (.cells c 53 (0, 0)) → ∃ c', (wr.setRow g cs').heap[k]? = some (.cells c' 53 (0, 0)) ∧ c'.size = c.size := by
  intro k c hk
  by_cases e : k = g
  ·subst e
   rw [hg] at hk
   have e2 : cs = c := by injection hk with hk; injection hk
   subst e2
   exact ⟨cs', setRow_heap _ _ _ _ _ _ hg, hs⟩
  ·exact ⟨c, (setRow_other _ _ _ _ e).trans hk, rfl⟩
 refine ⟨(setRow_other _ _ _ _ (blk_ne h.box hg (by decide))).trans h.box, h.r0.kept hm, h.r1.kept hm, h.r2.kept hm, h.r3.kept hm, fun k hk hc => ?_, below_setRow h.below (Nat.le_trans hbase hb), by simpa using h.size⟩
 have hk2 := h.kept k hk hc
 by_cases e : k = g
 ·subst e
  rcases hc with hc | hc | hc
  ·omega
  ·omega
  ·exact absurd (hk2.symm.trans hg) (hc cs)
 ·exact (setRow_other _ _ _ _ e).trans hk2
theorem info53s : (Try.prog.info? 53).map (·.size) = some 3 := by kernel_rfl
theorem mid_size (cs : Array Value) (off : Nat) (c : List Value) (h : off + c.length ≤ cs.size) : (cs.toList.take off ++ c ++ cs.toList.drop (off + c.length)).toArray.size = cs.size := by
 simp only [List.size_toArray, List.length_append, List.length_take, List.length_drop, Array.length_toList]
 omega
set_option maxHeartbeats 16000000 in
set_option maxRecDepth 100000 in
theorem over_calls (L M : Sl) (x : Pt) (w0 w : World) (base top : Nat) (hB : Below w0.heap.size w0 w) (hbase : w0.heap.size ≤ base) (htop : top ≤ w.heap.size) (h0 : WR w base top L.A x.pos.p.length) (h1 : WR w base top L.B x.pos.s.length) (h2 : WR w base top M.A x.neg.p.length) (h3 : WR w base top M.B x.neg.s.length) :
  Calls Try.prog 17 #[patV L M x] w fun e w' => e = .returned (.tuple #[]) ∧ VW w0 w w' base top L M x := by
 have HT := aMk (And.intro htop hbase)
 have HI := aMk (show Below w0.heap.size w0 w ∧ WR w base top L.A x.pos.p.length ∧ WR w base top L.B x.pos.s.length ∧ WR w base top M.A x.neg.p.length ∧ WR w base top M.B x.neg.s.length from ⟨hB, h0, h1, h2, h3⟩)
 clear hB hbase htop h0 h1 h2 h3
 go_enter Try.func17, Try.ntmps17
 go_upto_block 0 with (first | ((with_reducible refine gate_dst (N := 1) rfl ?_); refine box_event ?hg (N := 1) ?hd (cs := patC L M x) (t := 26) ?hr ?_; (case hd => rfl); (case hg => rfl); (case hr => first | (go_simp; done) | (go_simp; rfl)); intro gb hgb w1 hbox hbb; subst hgb; have VV : Aside0 (VW w0 w w1 base top L M x) := ⟨⟨hbox, HI.out.2.1.below hbb, HI.out.2.2.1.below hbb, HI.out.2.2.2.1.below hbb, HI.out.2.2.2.2.below hbb, fun k hk _ => hbb.block k hk, below_step HI.out.1 hbb, hbb.size⟩⟩; clear hbox hbb HI))
 rename_i K hK
 go_cut [] (fun wc => Aside0 (VW w0 w wc base top L M x))
 case first =>
  go_wp2_with (fail)
  go_loopg [2] x.pos.p.length (fun gk v wr => ∃ i : Nat, v = .int .i64 i ∧ Aside0 (i + gk = x.pos.p.length) ∧ Aside0 (VW w0 w wr base top L M x))
  case atStart => exact ⟨0, rfl, ⟨by omega⟩, VV⟩
  case round =>
   clear VV
   obtain ⟨i, rfl, HN, VV⟩ := hrel
   have xc := pat_c0 VV.out.box
   cases gk with
   | zero =>
    have d0 : decide ((i : Int) < (x.pos.p.length : Int)) = false := dFa (by have := HN.out; omega)
    have d1 : decide (i < x.pos.p.length) = false := dFa (by have := HN.out; omega)
    go_wp2
    go_meet
    case rel => exact VV
   | succ gk' =>
    have hlt : i < x.pos.p.length := by have := HN.out; omega
    have hw := VV.out.r0
    rcases hw with hw | ⟨g, cs, hA, hg, hsz, hb, ht, hmx⟩
    ·omega
    ·rw [hA] at xc
     have HG := aMk hg
     have HZ := aMk (show i * 3 + 3 ≤ cs.size by omega)
     have HB := aMk (And.intro hb ht)
     have d0 : decide ((i : Int) < (x.pos.p.length : Int)) = true := dTr (by omega)
     have d1 : decide (i < x.pos.p.length) = true := dTr hlt
     have p1 : (0 ≤ (i : Int)) = True := eq_true (by omega)
     have q1 : ((i : Int) < (x.pos.p.length : Int)) = True := eq_true (by omega)
     have wr1 : IntKind.i64.wrap ((i : Int) + 1) = (i : Int) + 1 := IntWalk.i64_in _ (by omega)
     clear hlt hg hsz hb ht hmx hA
     go_wp2_with (first | ((with_reducible refine gate_store (t := 53) (p := 19) rfl ?_); refine wpList_store_mid rfl 53 (.tmp 19) (.tmp 18) rfl g (i * 3) #[.int .i64 (-1), .int .i64 0, .string ⟨#[]⟩] rfl rfl 53 cs HG.out info53s (by have := HZ.out; exact this) (by simp [Value.oneCell']) ?_; generalize hW : World.setRow wr g _ = w9; have nv : Aside0 (VW w0 w w9 base top L M x) := ⟨by rw [← hW]; exact VV.out.put HG.out (mid_size cs (i * 3) [.int .i64 (-1), .int .i64 0, .string ⟨#[]⟩] HZ.out) HB.out.1 HB.out.2 HT.out.1 HT.out.2⟩; clear VV hW; have VV := nv; clear nv))
     go_roundg gk'
     case measure => omega
     case rel => exact ⟨i + 1, aP92, ⟨by have := HN.out; omega⟩, VV⟩
 case rest =>
  obtain ⟨w2, rfl⟩ : ∃ w2 : World, w2 = wc := ⟨_, rfl⟩
  refine hK _ _ ?_
  clear hK K
  have VV := hcut
  clear hcut
  go_upto_block 2 with (first | fail)
  rename_i K hK
  go_cut [] (fun wc => Aside0 (VW w0 w wc base top L M x))
  case first =>
   go_wp2_with (fail)
   go_loopg [3] x.pos.s.length (fun gk v wr => ∃ i : Nat, v = .int .i64 i ∧ Aside0 (i + gk = x.pos.s.length) ∧ Aside0 (VW w0 w wr base top L M x))
   case atStart => exact ⟨0, rfl, ⟨by omega⟩, VV⟩
   case round =>
    clear VV
    obtain ⟨i, rfl, HN, VV⟩ := hrel
    have xc := pat_c1 VV.out.box
    cases gk with
    | zero =>
     have d0 : decide ((i : Int) < (x.pos.s.length : Int)) = false := dFa (by have := HN.out; omega)
     have d1 : decide (i < x.pos.s.length) = false := dFa (by have := HN.out; omega)
     go_wp2
     go_meet
     case rel => exact VV
    | succ gk' =>
     have hlt : i < x.pos.s.length := by have := HN.out; omega
     have hw := VV.out.r1
     rcases hw with hw | ⟨g, cs, hA, hg, hsz, hb, ht, hmx⟩
     ·omega
     ·rw [hA] at xc
      have HG := aMk hg
      have HZ := aMk (show i * 3 + 3 ≤ cs.size by omega)
      have HB := aMk (And.intro hb ht)
      have d0 : decide ((i : Int) < (x.pos.s.length : Int)) = true := dTr (by omega)
      have d1 : decide (i < x.pos.s.length) = true := dTr hlt
      have p1 : (0 ≤ (i : Int)) = True := eq_true (by omega)
      have q1 : ((i : Int) < (x.pos.s.length : Int)) = True := eq_true (by omega)
      have wr1 : IntKind.i64.wrap ((i : Int) + 1) = (i : Int) + 1 := IntWalk.i64_in _ (by omega)
      clear hlt hg hsz hb ht hmx hA
      go_wp2_with (first | ((with_reducible refine gate_store (t := 53) (p := 33) rfl ?_); refine wpList_store_mid rfl 53 (.tmp 33) (.tmp 32) rfl g (i * 3) #[.int .i64 (-2), .int .i64 0, .string ⟨#[]⟩] rfl rfl 53 cs HG.out info53s (by have := HZ.out; exact this) (by simp [Value.oneCell']) ?_; generalize hW : World.setRow wr g _ = w9; have nv : Aside0 (VW w0 w w9 base top L M x) := ⟨by rw [← hW]; exact VV.out.put HG.out (mid_size cs (i * 3) [.int .i64 (-2), .int .i64 0, .string ⟨#[]⟩] HZ.out) HB.out.1 HB.out.2 HT.out.1 HT.out.2⟩; clear VV hW; have VV := nv; clear nv))
      go_roundg gk'
      case measure => omega
      case rel => exact ⟨i + 1, aP92, ⟨by have := HN.out; omega⟩, VV⟩
  case rest =>
   obtain ⟨w2, rfl⟩ : ∃ w2 : World, w2 = wc := ⟨_, rfl⟩
   refine hK _ _ ?_
   clear hK K
   have VV := hcut
   clear hcut
   go_upto_block 4 with (first | fail)
   rename_i K hK
   go_cut [] (fun wc => Aside0 (VW w0 w wc base top L M x))
   case first =>
    go_wp2_with (fail)
    go_loopg [4] x.neg.p.length (fun gk v wr => ∃ i : Nat, v = .int .i64 i ∧ Aside0 (i + gk = x.neg.p.length) ∧ Aside0 (VW w0 w wr base top L M x))
    case atStart => exact ⟨0, rfl, ⟨by omega⟩, VV⟩
    case round =>
     clear VV
     obtain ⟨i, rfl, HN, VV⟩ := hrel
     have xc := pat_c13 VV.out.box
     cases gk with
     | zero =>
      have d0 : decide ((i : Int) < (x.neg.p.length : Int)) = false := dFa (by have := HN.out; omega)
      have d1 : decide (i < x.neg.p.length) = false := dFa (by have := HN.out; omega)
      go_wp2
      go_meet
      case rel => exact VV
     | succ gk' =>
      have hlt : i < x.neg.p.length := by have := HN.out; omega
      have hw := VV.out.r2
      rcases hw with hw | ⟨g, cs, hA, hg, hsz, hb, ht, hmx⟩
      ·omega
      ·rw [hA] at xc
       have HG := aMk hg
       have HZ := aMk (show i * 3 + 3 ≤ cs.size by omega)
       have HB := aMk (And.intro hb ht)
       have d0 : decide ((i : Int) < (x.neg.p.length : Int)) = true := dTr (by omega)
       have d1 : decide (i < x.neg.p.length) = true := dTr hlt
       have p1 : (0 ≤ (i : Int)) = True := eq_true (by omega)
       have q1 : ((i : Int) < (x.neg.p.length : Int)) = True := eq_true (by omega)
       have wr1 : IntKind.i64.wrap ((i : Int) + 1) = (i : Int) + 1 := IntWalk.i64_in _ (by omega)
       clear hlt hg hsz hb ht hmx hA
       go_wp2_with (first | ((with_reducible refine gate_store (t := 53) (p := 47) rfl ?_); refine wpList_store_mid rfl 53 (.tmp 47) (.tmp 46) rfl g (i * 3) #[.int .i64 (-3), .int .i64 0, .string ⟨#[]⟩] rfl rfl 53 cs HG.out info53s (by have := HZ.out; exact this) (by simp [Value.oneCell']) ?_; generalize hW : World.setRow wr g _ = w9; have nv : Aside0 (VW w0 w w9 base top L M x) := ⟨by rw [← hW]; exact VV.out.put HG.out (mid_size cs (i * 3) [.int .i64 (-3), .int .i64 0, .string ⟨#[]⟩] HZ.out) HB.out.1 HB.out.2 HT.out.1 HT.out.2⟩; clear VV hW; have VV := nv; clear nv))
       go_roundg gk'
       case measure => omega
       case rel => exact ⟨i + 1, aP92, ⟨by have := HN.out; omega⟩, VV⟩
   case rest =>
    obtain ⟨w2, rfl⟩ : ∃ w2 : World, w2 = wc := ⟨_, rfl⟩
    refine hK _ _ ?_
    clear hK K
    have VV := hcut
    clear hcut
    go_wp2_with (fail)
    go_loopg [5] x.neg.s.length (fun gk v wr => ∃ i : Nat, v = .int .i64 i ∧ Aside0 (i + gk = x.neg.s.length) ∧ Aside0 (VW w0 w wr base top L M x))
    case atStart => exact ⟨0, rfl, ⟨by omega⟩, VV⟩
    case round =>
     clear VV
     obtain ⟨i, rfl, HN, VV⟩ := hrel
     have xc := pat_c14 VV.out.box
     cases gk with
     | zero =>
      have d0 : decide ((i : Int) < (x.neg.s.length : Int)) = false := dFa (by have := HN.out; omega)
      have d1 : decide (i < x.neg.s.length) = false := dFa (by have := HN.out; omega)
      go_wp2
      go_end0
      exact ⟨rfl, VV.out⟩
     | succ gk' =>
      have hlt : i < x.neg.s.length := by have := HN.out; omega
      have hw := VV.out.r3
      rcases hw with hw | ⟨g, cs, hA, hg, hsz, hb, ht, hmx⟩
      ·omega
      ·rw [hA] at xc
       have HG := aMk hg
       have HZ := aMk (show i * 3 + 3 ≤ cs.size by omega)
       have HB := aMk (And.intro hb ht)
       have d0 : decide ((i : Int) < (x.neg.s.length : Int)) = true := dTr (by omega)
       have d1 : decide (i < x.neg.s.length) = true := dTr hlt
       have p1 : (0 ≤ (i : Int)) = True := eq_true (by omega)
       have q1 : ((i : Int) < (x.neg.s.length : Int)) = True := eq_true (by omega)
       have wr1 : IntKind.i64.wrap ((i : Int) + 1) = (i : Int) + 1 := IntWalk.i64_in _ (by omega)
       clear hlt hg hsz hb ht hmx hA
       go_wp2_with (first | ((with_reducible refine gate_store (t := 53) (p := 61) rfl ?_); refine wpList_store_mid rfl 53 (.tmp 61) (.tmp 60) rfl g (i * 3) #[.int .i64 (-4), .int .i64 0, .string ⟨#[]⟩] rfl rfl 53 cs HG.out info53s (by have := HZ.out; exact this) (by simp [Value.oneCell']) ?_; generalize hW : World.setRow wr g _ = w9; have nv : Aside0 (VW w0 w w9 base top L M x) := ⟨by rw [← hW]; exact VV.out.put HG.out (mid_size cs (i * 3) [.int .i64 (-4), .int .i64 0, .string ⟨#[]⟩] HZ.out) HB.out.1 HB.out.2 HT.out.1 HT.out.2⟩; clear VV hW; have VV := nv; clear nv))
       go_roundg gk'
       case measure => omega
       case rel => exact ⟨i + 1, aP92, ⟨by have := HN.out; omega⟩, VV⟩
theorem patEq_refl2 (x : Pt) : patEq x x = true := by unfold patEq subEq; simp
theorem RowIn.kept {w w1 : World} {base : Nat} {ok : Nat → Prop} {A : Option Addr} {xs : List S53} (h : RowIn w base ok A xs) (hm : ∀ k, base ≤ k → k < w.heap.size → w1.heap[k]? = w.heap[k]?) : RowIn w1 base ok A xs := by
 obtain ⟨c, h⟩ := h
 exact ⟨c, Kd.R_mono (Kd.R_move (Kd.R_bound h) (fun k hk => hm k hk.2.1 hk.2.2.1)) (fun k hk => hk.1)⟩
theorem BX.kept {w0 w w1 : World} {k : Nat} {L M : Sl} {x : Pt} (h : BX w0 w k L M x) (hm : ∀ j, w0.heap.size ≤ j → j < w.heap.size → w1.heap[j]? = w.heap[j]?) : BX w0 w1 k L M x :=
 ⟨(hm k h.ge (blk_lt h.box)).trans h.box, ⟨h.own.pp.kept hm, h.own.ps.kept hm, h.own.np.kept hm, h.own.ns.kept hm, h.own.c1, h.own.c2, h.own.c3, h.own.c4⟩, h.hp, h.hn, h.ge⟩
structure W4 (w : World) (base top : Nat) (L M : Sl) (x : Pt) : Prop where
 r0 : WR w base top L.A x.pos.p.length
 r1 : WR w base top L.B x.pos.s.length
 r2 : WR w base top M.A x.neg.p.length
 r3 : WR w base top M.B x.neg.s.length
theorem W4.of {w : World} {base : Nat} {L M : Sl} {x : Pt} (h : OwnP w base L M x) (h1 : Sm x.pos) (h2 : Sm x.neg) : W4 w base w.heap.size L M x :=
 ⟨WR.of h.pp (by have := h1.tp.2; omega), WR.of h.ps (by have := h1.ts.2; omega), WR.of h.np (by have := h2.tp.2; omega), WR.of h.ns (by have := h2.ts.2; omega)⟩
theorem W4.below {w w1 : World} {base top : Nat} {L M : Sl} {x : Pt} (h : W4 w base top L M x) (hb : Below w.heap.size w w1) : W4 w1 base top L M x := ⟨h.r0.below hb, h.r1.below hb, h.r2.below hb, h.r3.below hb⟩
theorem W4.other {w : World} {base top : Nat} {L M : Sl} {x : Pt} (h : W4 w base top L M x) {j : Nat} {cur cs : Array Value} (hj : w.heap[j]? = some (.cells cur 26 (0, 0))) : W4 (w.setRow j cs) base top L M x := ⟨h.r0.other hj, h.r1.other hj, h.r2.other hj, h.r3.other hj⟩
set_option maxHeartbeats 16000000 in
set_option maxRecDepth 100000 in
theorem reads_walk (s : ByteArray) (w : World) (hG : Glob w) : Calls Try.prog 4 #[.string s] w fun e w' => e = .returned (.bool true) ∧ Below w.heap.size w w' := by
 have HG := aMk hG
 have BW := aMk (Below.refl w.heap.size w)
 obtain ⟨y, e0, hS⟩ : ∃ y e, parseP s = (y, e) := ⟨_, _, rfl⟩
 have SS := aMk (show Sm y.pos ∧ Sm y.neg by have := parse_sm s; rw [hS] at this; exact this)
 have H1 := aMk hS
 have H2 := aMk hS
 have H3 := aMk hS
 have E1 := aMk (patEq_refl2 y)
 have E2 := aMk (patEq_refl2 y)
 have ne : (e0 != e0) = false := by simp
 clear hG hS
 go_enter Try.func4, Try.ntmps4
 go_upto_region 5 with (first | (have hz := H1.out; go_at_call 15; ((refine (parse_walk s _ HG.out).mono ?_); rw [hz]; rintro e v1 ⟨LA, MA, rfl, how, hb⟩; have OW := aMk how; have W_ := aMk (W4.of how SS.out.1 SS.out.2); have n_ := aMk (below_step BW.out hb); clear BW; have BW := n_; clear n_; clear hb how hz H1)) | ((with_reducible refine gate_dst (N := 3) rfl ?_); refine box_event ?hg (N := 3) ?hd (cs := patC Lz Lz zeroPt) (t := 26) ?hr ?_; (case hd => rfl); (case hg => rfl); (case hr => first | (go_simp; done) | (go_simp; rfl)); intro k3 hk v2 hbox hbb; have K3 := aMk hbox; have H3k := aMk (show w.heap.size ≤ k3 ∧ v1.heap.size ≤ k3 by have := BW.out.size; omega); have ow := aMk (OW.out.below hbb); clear OW; have OW := ow; clear ow; have n_ := aMk (W_.out.below hbb); clear W_; have W_ := n_; clear n_; have n_ := aMk (below_step BW.out hbb); clear BW; have BW := n_; clear n_; clear hbox hbb hk) | ((with_reducible refine gate_store (t := 26) (p := 3) rfl ?_); refine wpList_store_row rfl 26 (.tmp 3) (.tmp 12) rfl k3 (patC LA MA y) rfl rfl 26 (patC Lz Lz zeroPt) K3.out info26 rfl (by simp [Value.oneCell']) ?_; generalize hW : World.setRow v2 k3 _ = v3; have NA : Aside0 (BX w v3 k3 LA MA y) := ⟨by rw [← hW]; exact BX.fill K3.out OW.out (Nat.le_refl _) SS.out.1 SS.out.2 H3k.out.1⟩; have n_ : Aside0 (W4 v3 w.heap.size v1.heap.size LA MA y) := ⟨by rw [← hW]; exact W_.out.other K3.out⟩; clear W_; have W_ := n_; clear n_; have n_ : Aside0 (Below w.heap.size w v3) := ⟨by rw [← hW]; exact below_setRow BW.out H3k.out.1⟩; clear BW; have BW := n_; clear n_; have T3 := aMk (show v1.heap.size ≤ v3.heap.size by have := blk_lt NA.out.box; have := H3k.out.2; omega); clear hW K3 OW) | (have hz := H2.out; go_at_call 16; ((refine (rpparse_walk s _).mono ?_); rw [hz]; rintro e v4 ⟨LB, MB, rfl, how, hb⟩; have OW := aMk how; have SZ := aMk hb.size; have n_ := aMk (NA.out.step hb); clear NA; have NA := n_; clear n_; have n_ := aMk (W_.out.below hb); clear W_; have W_ := n_; clear n_; have n_ := aMk (below_step BW.out hb); clear BW; have BW := n_; clear n_; clear hb how hz H2)) | ((with_reducible refine gate_dst (N := 5) rfl ?_); refine box_event ?hg (N := 5) ?hd (cs := patC Lz Lz zeroPt) (t := 26) ?hr ?_; (case hd => rfl); (case hg => rfl); (case hr => first | (go_simp; done) | (go_simp; rfl)); intro k5 hk v5 hbox hbb; have K5 := aMk hbox; have H5k := aMk (show w.heap.size ≤ k5 ∧ v3.heap.size ≤ k5 ∧ k3 ≠ k5 by have := blk_lt NA.out.box; have := BW.out.size; have := SZ.out; omega); have ow := aMk (OW.out.below hbb); clear OW; have OW := ow; clear ow; have n_ := aMk (NA.out.step hbb); clear NA; have NA := n_; clear n_; have n_ := aMk (W_.out.below hbb); clear W_; have W_ := n_; clear n_; have n_ := aMk (below_step BW.out hbb); clear BW; have BW := n_; clear n_; clear hbox hbb hk) | ((with_reducible refine gate_store (t := 26) (p := 5) rfl ?_); refine wpList_store_row rfl 26 (.tmp 5) (.tmp 17) rfl k5 (patC LB MB y) rfl rfl 26 (patC Lz Lz zeroPt) K5.out info26 rfl (by simp [Value.oneCell']) ?_; generalize hW : World.setRow v5 k5 _ = v6; have NB : Aside0 (BX v3 v6 k5 LB MB y) := ⟨by rw [← hW]; exact BX.fill K5.out OW.out (Nat.le_refl _) SS.out.1 SS.out.2 H5k.out.2.1⟩; have n_ : Aside0 (BX w v6 k3 LA MA y) := ⟨by rw [← hW]; exact NA.out.over K5.out H5k.out.2.2⟩; clear NA; have NA := n_; clear n_; have n_ : Aside0 (W4 v6 w.heap.size v1.heap.size LA MA y) := ⟨by rw [← hW]; exact W_.out.other K5.out⟩; clear W_; have W_ := n_; clear n_; have n_ : Aside0 (Below w.heap.size w v6) := ⟨by rw [← hW]; exact below_setRow BW.out H5k.out.1⟩; clear BW; have BW := n_; clear n_; have T6 := aMk (show v1.heap.size ≤ v6.heap.size by have := blk_lt NA.out.box; have := H3k.out.2; omega); clear hW K5 OW) | ((with_reducible refine gate_dst (N := 23) rfl ?_); refine wpList_load_g (by first | rfl | (go_simp; done)) 26 (.tmp 3) rfl k3 rfl 26 (patC LA MA y) (0, 0) _ NA.out.box Try.underlying26 rfl info26 ?_) | ((with_reducible refine gate_dst (N := 24) rfl ?_); refine wpList_load_g (by first | rfl | (go_simp; done)) 26 (.tmp 5) rfl k5 rfl 26 (patC LB MB y) (0, 0) _ NB.out.box Try.underlying26 rfl info26 ?_) | (have hz := E1.out; go_at_call 12; ((refine (same_walk LA MA y LB MB y _ ⟨NA.out.okp.r, NA.out.okn.r⟩ ⟨NB.out.okp.r, NB.out.okn.r⟩).mono ?_); rw [hz]; rintro e v7 ⟨rfl, hb⟩; have SZ7 := aMk hb.size; have n_ := aMk (NA.out.step hb); clear NA; have NA := n_; clear n_; have n_ := aMk (NB.out.step hb); clear NB; have NB := n_; clear n_; have n_ := aMk (W_.out.below hb); clear W_; have W_ := n_; clear n_; have n_ := aMk (below_step BW.out hb); clear BW; have BW := n_; clear n_; clear hb hz E1)))
 go_wp2_with (first | ((with_reducible refine gate_dst (N := 28) rfl ?_); refine wpList_load_row rfl 26 (.tmp 3) rfl k3 rfl 26 (patC LA MA y) (0, 0) _ NA.out.box Try.underlying26 rfl info26 ?_) | (go_at_call 17; ((refine (over_calls LA MA y w _ w.heap.size v1.heap.size BW.out (Nat.le_refl _) (by have := T6.out; have := SZ7.out; omega) W_.out.r0 W_.out.r1 W_.out.r2 W_.out.r3).mono ?_); rintro e v8 ⟨rfl, hv⟩; have n_ := aMk (NB.out.kept (fun j h1 h2 => hv.kept j h2 (.inr (.inl (Nat.le_trans T3.out h1))))); clear NB; have NB := n_; clear n_ BW W_ NA; have BW := aMk hv.below; clear hv)) | (have hz := H3.out; go_at_call 15; ((refine (parse_walk s _ (Glob_below HG.out BW.out)).mono ?_); rw [hz]; rintro e v9 ⟨LC, MC, rfl, how, hb⟩; have OW := aMk (how.lower BW.out.size); have n_ := aMk (NB.out.step hb); clear NB; have NB := n_; clear n_; have n_ := aMk (below_step BW.out hb); clear BW; have BW := n_; clear n_; clear hb how hz H3)) | ((with_reducible refine gate_dst (N := 7) rfl ?_); refine box_event ?hg (N := 7) ?hd (cs := patC Lz Lz zeroPt) (t := 26) ?hr ?_; (case hd => rfl); (case hg => rfl); (case hr => first | (go_simp; done) | (go_simp; rfl)); intro k7 hk v10 hbox hbb; have K7 := aMk hbox; have H7k := aMk (show w.heap.size ≤ k7 ∧ k5 ≠ k7 by have := blk_lt NB.out.box; have := BW.out.size; omega); have ow := aMk (OW.out.below hbb); clear OW; have OW := ow; clear ow; have n_ := aMk (NB.out.step hbb); clear NB; have NB := n_; clear n_; have n_ := aMk (below_step BW.out hbb); clear BW; have BW := n_; clear n_; clear hbox hbb hk) | ((with_reducible refine gate_store (t := 26) (p := 7) rfl ?_); refine wpList_store_row rfl 26 (.tmp 7) (.tmp 33) rfl k7 (patC LC MC y) rfl rfl 26 (patC Lz Lz zeroPt) K7.out info26 rfl (by simp [Value.oneCell']) ?_; generalize hW : World.setRow v10 k7 _ = v11; have NC : Aside0 (BX w v11 k7 LC MC y) := ⟨by rw [← hW]; exact BX.fill K7.out OW.out (Nat.le_refl _) SS.out.1 SS.out.2 H7k.out.1⟩; have n_ : Aside0 (BX v3 v11 k5 LB MB y) := ⟨by rw [← hW]; exact NB.out.over K7.out H7k.out.2⟩; clear NB; have NB := n_; clear n_; have n_ : Aside0 (Below w.heap.size w v11) := ⟨by rw [← hW]; exact below_setRow BW.out H7k.out.1⟩; clear BW; have BW := n_; clear n_; clear hW K7 OW) | ((with_reducible refine gate_dst (N := 35) rfl ?_); refine wpList_load_row rfl 26 (.tmp 7) rfl k7 rfl 26 (patC LC MC y) (0, 0) _ NC.out.box Try.underlying26 rfl info26 ?_) | ((with_reducible refine gate_dst (N := 36) rfl ?_); refine wpList_load_row rfl 26 (.tmp 5) rfl k5 rfl 26 (patC LB MB y) (0, 0) _ NB.out.box Try.underlying26 rfl info26 ?_) | (have hz := E2.out; go_at_call 12; ((refine (same_walk LC MC y LB MB y _ ⟨NC.out.okp.r, NC.out.okn.r⟩ ⟨NB.out.okp.r, NB.out.okn.r⟩).mono ?_); rw [hz]; rintro e v12 ⟨rfl, hb⟩; have n_ := aMk (NB.out.step hb); clear NB; have NB := n_; clear n_; have n_ := aMk (NC.out.step hb); clear NC; have NC := n_; clear n_; have n_ := aMk (below_step BW.out hb); clear BW; have BW := n_; clear n_; clear hb hz E2)) | (go_at_call 14; ((refine (fixed_calls _ (Glob_below HG.out BW.out)).mono ?_); rintro e wf ⟨rfl, hb⟩; have n_ := aMk (below_step BW.out hb); clear BW hb; have BW := n_; clear n_)))
 go_ret
 exact ⟨rfl, BW.out⟩
end Go.Proofs.Ytacnjemndfmbhaa.Q
end
