import Derived.Test.YtacnjemndfmbhaaC13
section
namespace Go.Proofs.Ytacnjemndfmbhaa.Q
open Go.RowKit Go.Proofs.Ytacnjemndfmbhaa.A Go.Proofs.YtacnjemndfmbhaaW.PrintWords Go.Proofs.YtacnjemndfmbhaaW.PrintLast Go.Proofs.YtacnjemndfmbhaaW.PrintMore
set_option linter.unusedVariables false
set_option linter.unusedSimpArgs false
theorem SubOk.wider {w : World} {L : Sl} {x : Sb} (h : SubOk w L x) : SubOk w L (wider x) := ⟨⟨h.r.p, h.r.pc, h.r.s, h.r.sc, h.r.pl, h.r.sl⟩, h.p, h.s, h.pad⟩
theorem print_cases (x : Pt) {T : ByteArray} {f : Int} (h : printP x = (T, f)) : f = checkP x ∧ (f = 0 → T = wholeS x) := by
  have h1 := print_two x
  rw [h] at h1
  have h1' : f = checkP x := h1
  refine ⟨h1', fun e => ?_⟩
  have h2 := (check_size (x := x) (by rw [← h1', e])).2
  rw [h] at h2
  exact (Prod.mk.inj h2).1
set_option maxHeartbeats 16000000 in
set_option maxRecDepth 100000 in
theorem wide_walk (L : Sl) (x : Sb) (w : World) (hG : Glob w) (ok : SubOk w L x) : Calls Try.prog 7 #[subV L x] w fun e w' => e = .returned (.bool true) ∧ Below w.heap.size w w' := by
  have HG := Aside0.mk hG
  have OK := Aside0.mk ok
  obtain ⟨T, f, hT⟩ : ∃ T f, printP ⟨x, false, zeroSb2⟩ = (T, f) := ⟨_, _, rfl⟩
  obtain ⟨U, g, hU⟩ : ∃ U g, printP ⟨wider x, false, zeroSb2⟩ = (U, g) := ⟨_, _, rfl⟩
  have C1 := Aside0.mk (print_cases _ hT)
  have C2 := Aside0.mk (print_cases _ hU)
  have HT := Aside0.mk hT
  have HU := Aside0.mk hU
  clear hG ok hT hU
  go_enter Try.func7, Try.ntmps7
  go_upto_region 3 with (first | ((with_reducible refine gate_dst (N := 1) rfl ?_); refine box_event ?hg (N := 1) ?hd (cs := subC L x) (t := 24) ?hr ?_; (case hd => rfl); (case hg => rfl); (case hr => first | (go_simp; done) | (go_simp; rfl)); intro gb hgb w1 hbox hbb; subst hgb; have HX := Aside0.mk hbox; have BW := Aside0.mk hbb; clear hbox hbb) | ((with_reducible refine gate_dst (N := 8) rfl ?_); refine wpList_load_row rfl 24 (.tmp 1) rfl w.heap.size rfl 24 (subC L x) (0, 0) _ HX.out Try.underlying24 rfl info24 ?_) | ((with_reducible refine gate_dst (N := 3) rfl ?_); refine box_event ?hg (N := 3) ?hd (cs := patC Lz Lz zeroPt) (t := 26) ?hr ?_; (case hd => rfl); (case hg => rfl); (case hr => first | (go_simp; done) | (go_simp; rfl)); intro k3 hk w2 hbox hbb; have K3 := Aside0.mk hbox; have H3 := Aside0.mk (show w.heap.size < k3 by have := blk_lt HX.out; omega); have n_ := Aside0.mk (blk_below HX.out hbb); clear HX; have HX := n_; clear n_; have n_ := Aside0.mk (below_step BW.out hbb); clear BW; have BW := n_; clear n_; clear hbox hbb hk) | ((with_reducible refine gate_store (t := 26) (p := 3) rfl ?_); refine wpList_store_row rfl 26 (.tmp 3) (.tmp 9) rfl k3 (patC L Lz ⟨x, false, zeroSb2⟩) rfl rfl 26 (patC Lz Lz zeroPt) K3.out info26 rfl (by simp [Value.oneCell']) ?_; generalize hW : World.setRow w2 k3 _ = w3; have KK : Aside0 (w3.heap[k3]? = some (.cells (patC L Lz ⟨x, false, zeroSb2⟩) 26 (0, 0))) := ⟨by rw [← hW]; exact setRow_heap _ _ _ _ _ _ K3.out⟩; have n_ : Aside0 (w3.heap[w.heap.size]? = some (.cells (subC L x) 24 (0, 0))) := ⟨by rw [← hW]; exact (setRow_other _ _ _ _ (by have := H3.out; omega)).trans HX.out⟩; clear HX; have HX := n_; clear n_; have n_ : Aside0 (Below w.heap.size w w3) := ⟨by rw [← hW]; exact below_setRow BW.out (Nat.le_of_lt H3.out)⟩; clear BW; have BW := n_; clear n_; clear hW K3) | ((with_reducible refine gate_dst (N := 11) rfl ?_); refine wpList_load_row rfl 26 (.tmp 3) rfl k3 rfl 26 (patC L Lz ⟨x, false, zeroSb2⟩) (0, 0) _ KK.out Try.underlying26 rfl info26 ?_) | (have hz := HT.out; go_at_call 9; ((refine (pprint_walk L Lz x false zeroSb2 _ (Glob_below HG.out BW.out) (OK.out.below BW.out) (subOk_zero _)).mono ?_); rw [hz]; rintro e w4 ⟨rfl, hb⟩; have n_ := Aside0.mk (blk_below HX.out hb); clear HX; have HX := n_; clear n_; have n_ := Aside0.mk (below_step BW.out hb); clear BW; have BW := n_; clear n_; clear hb hz HT; have c9 : World.cell? _ ⟨w.heap.size, 9, none⟩ = some (.string x.pad) := (blk_cell HX.out 9).trans rfl)))
  cases d0 : (f != 0) with
  | true =>
    exact aP23
  | false =>
    have hf : f = 0 := by simpa using d0
    cases pe : x.pad.toList.isEmpty with
    | true =>
      exact aP23
    | false =>
      obtain ⟨w1_, w2_, w3_, w4_⟩ := wide_all (x := x) (show checkP (oneP x) = 0 from (C1.out.1.symm.trans hf)) pe
      have W3 : Aside0 (g ≠ 0 → (wider x).wd = 100 ∨ T.size = 128) := ⟨fun h => by rw [C1.out.2 hf]; exact w3_ (fun e => h (C2.out.1.trans e))⟩
      have W4 : Aside0 (g = 0 → U.size = T.size + 1) := ⟨fun h => by rw [C1.out.2 hf, C2.out.2 h]; exact w4_ (C2.out.1.symm.trans h)⟩
      have wr : IntKind.i64.wrap (x.wd + 1) = x.wd + 1 := IntWalk.i64_in _ (by omega)
      have wt : IntKind.i64.wrap ((T.size : Int) + 1) = (T.size : Int) + 1 := IntWalk.i64_in _ (by have := C1.out.2 hf; have h2 := (check_size (x := oneP x) (C1.out.1.symm.trans hf)).1; rw [this]; have h3 : (wholeS (oneP x)).size ≤ 128 := h2; show _ ∧ _; exact ⟨by omega, by have : (wholeS ⟨x, false, zeroSb2⟩).size ≤ 128 := h3; omega⟩)
      clear w1_ w2_ w3_ w4_
      have c11 : World.cell? _ ⟨w.heap.size, 11, none⟩ = some (.int .i64 x.wd) := (blk_cell HX.out 11).trans rfl
      have z11 := blk_frozen HX.out 11
      go_upto_region 6 with (fail)
      have HX5 := Aside0.mk (blk_put HX.out 11 (.int .i64 (x.wd + 1)) (show (subC L x).setIfInBounds 11 (.int .i64 (x.wd + 1)) = subC L (wider x) from rfl))
      have n_ := Aside0.mk (below_set BW.out (Nat.le_refl w.heap.size) (j := 11) (v := .int .i64 (x.wd + 1)))
      clear BW HX
      have BW := n_
      clear n_ c11 z11 c9 wr
      generalize World.setCell w4 ⟨w.heap.size, 11, none⟩ (.int .i64 (x.wd + 1)) = w5 at *
      go_upto_region 7 with (first | ((with_reducible refine gate_dst (N := 28) rfl ?_); refine wpList_load_row rfl 24 (.tmp 1) rfl w.heap.size rfl 24 (subC L (wider x)) (0, 0) _ HX5.out Try.underlying24 rfl info24 ?_) | (have hz := HU.out; go_at_call 9; ((refine (pprint_walk L Lz (wider x) false zeroSb2 _ (Glob_below HG.out BW.out) (OK.out.below BW.out).wider (subOk_zero _)).mono ?_); rw [hz]; rintro e w6 ⟨rfl, hb⟩; have n_ := Aside0.mk (blk_below HX5.out hb); clear HX5; have HX5 := n_; clear n_; have n_ := Aside0.mk (below_step BW.out hb); clear BW; have BW := n_; clear n_; clear hb hz HU; have c11 : World.cell? _ ⟨w.heap.size, 11, none⟩ = some (.int .i64 (x.wd + 1)) := (blk_cell HX5.out 11).trans rfl)))
      cases d1 : (g != 0) with
      | true =>
        cases e100 : (x.wd + 1 == 100) with
        | true =>
          exact aP23
        | false =>
          have t128 : ((T.size : Int) == 128) = true := by
            rcases W3.out (bne_iff_ne.mp d1) with h | h
            · have h' : x.wd + 1 = 100 := h
              rw [h'] at e100
              exact absurd e100 (by decide)
            · rw [h]; rfl
          exact aP23
      | false =>
        have hU : ((U.size : Int) == (T.size : Int) + 1) = true := beq_iff_eq.mpr (by have := W4.out (by simpa using d1); omega)
        exact aP23
theorem patEq_refl2 (x : Pt) : patEq x x = true := by unfold patEq subEq; simp
set_option maxHeartbeats 16000000 in
set_option maxRecDepth 100000 in
theorem back_walk (L M : Sl) (pos : Sb) (ng : Bool) (neg : Sb) (s : ByteArray) (w : World) (hG : Glob w) (okp : SubOk w L pos) (okn : SubOk w M neg) : Calls Try.prog 5 #[patV L M ⟨pos, ng, neg⟩, .string s] w fun e w' => e = .returned (.bool true) ∧ Below w.heap.size w w' := by
  have HG := Aside0.mk hG
  have OKP := Aside0.mk okp
  have OKN := Aside0.mk okn
  obtain ⟨T, f, hT⟩ : ∃ T f, printP ⟨pos, ng, neg⟩ = (T, f) := ⟨_, _, rfl⟩
  have C1 := Aside0.mk (print_cases _ hT)
  have HC := Aside0.mk (show checkP ⟨pos, ng, neg⟩ = f from C1.out.1.symm)
  have HT := Aside0.mk hT
  obtain ⟨y, e0, hS⟩ : ∃ y e, parseP s = (y, e) := ⟨_, _, rfl⟩
  have SS := Aside0.mk (show Sm y.pos ∧ Sm y.neg by have := parse_sm s; rw [hS] at this; exact this)
  have CS := Aside0.mk (show (e0 = 0 ∧ checkP y = 0) ∨ (y = zeroPt ∧ e0 ≠ 0) by have := parse_cases s; rw [hS] at this; exact this)
  have HS := Aside0.mk hS
  have EQ := Aside0.mk (patEq_refl2 (⟨pos, ng, neg⟩ : Pt))
  have EY := Aside0.mk (patEq_refl2 y)
  have nf : (f != f) = false := by simp
  clear hG okp okn hT hS
  go_enter Try.func5, Try.ntmps5
  go_upto_if 27 with (first | ((with_reducible refine gate_dst (N := 2) rfl ?_); refine box_event ?hg (N := 2) ?hd (cs := patC L M ⟨pos, ng, neg⟩) (t := 26) ?hr ?_; (case hd => rfl); (case hg => rfl); (case hr => first | (go_simp; done) | (go_simp; rfl)); intro gb hgb w1 hbox hbb; subst hgb; have HX := Aside0.mk hbox; have BW := Aside0.mk hbb; clear hbox hbb) | ((with_reducible refine gate_dst (N := 18) rfl ?_); refine wpList_load_row rfl 26 (.tmp 2) rfl w.heap.size rfl 26 (patC L M ⟨pos, ng, neg⟩) (0, 0) _ HX.out Try.underlying26 rfl info26 ?_) | (have hz := HT.out; go_at_call 9; ((refine (pprint_walk L M pos ng neg _ (Glob_below HG.out BW.out) (OKP.out.below BW.out) (OKN.out.below BW.out)).mono ?_); rw [hz]; rintro e w4 ⟨rfl, hb⟩; have n_ := Aside0.mk (blk_below HX.out hb); clear HX; have HX := n_; clear n_; have n_ := Aside0.mk (below_step BW.out hb); clear BW; have BW := n_; clear n_; clear hb hz HT)) | ((with_reducible refine gate_dst (N := 23) rfl ?_); refine wpList_load_row rfl 26 (.tmp 2) rfl w.heap.size rfl 26 (patC L M ⟨pos, ng, neg⟩) (0, 0) _ HX.out Try.underlying26 rfl info26 ?_) | (have hz := HC.out; go_at_call 11; ((refine (pcheck_walk L M pos ng neg _ (Glob_below HG.out BW.out) (OKP.out.below BW.out) (OKN.out.below BW.out)).mono ?_); rw [hz]; rintro e w5 ⟨rfl, hb⟩; have n_ := Aside0.mk (blk_below HX.out hb); clear HX; have HX := n_; clear n_; have n_ := Aside0.mk (below_step BW.out hb); clear BW; have BW := n_; clear n_; clear hb hz HC)))
  rename_i K hK
  go_cut [] (fun wc => Aside0 (wc.heap[w.heap.size]? = some (.cells (patC L M ⟨pos, ng, neg⟩) 26 (0, 0))) ∧ Aside0 (Below w.heap.size w wc))
  case first =>
    cases d0 : (f == 0) with
    | false =>
      go_wp2
      go_meet
      case rel => exact ⟨HX, BW⟩
    | true =>
      have hf : f = 0 := beq_iff_eq.mp d0
      have hc : checkP ⟨pos, ng, neg⟩ = 0 := C1.out.1.symm.trans hf
      have hb1 := back1 hc
      have hTw := C1.out.2 hf
      have HB := Aside0.mk (show parseP T = (⟨pos, ng, neg⟩, 0) by rw [hTw]; exact hb1.2.2)
      have SA := Aside0.mk (show Sm pos ∧ Sm neg by have := parse_sm T; rw [HB.out] at this; exact this)
      have l128 : decide ((128 : Int) < (T.size : Int)) = false := decide_eq_false (by rw [hTw]; have := hb1.2.1; omega)
      clear hf hc hb1 hTw
      go_wp2_with (first | (have hz := HB.out; go_at_call 15; ((refine (parse_walk T _ (Glob_below HG.out BW.out)).mono ?_); rw [hz]; rintro e v1 ⟨LA, MA, rfl, how, hb⟩; have OW := Aside0.mk (how.lower BW.out.size); have n_ := Aside0.mk (blk_below HX.out hb); clear HX; have HX := n_; clear n_; have n_ := Aside0.mk (below_step BW.out hb); clear BW; have BW := n_; clear n_; clear hb how hz HB)) | ((with_reducible refine gate_dst (N := 7) rfl ?_); refine box_event ?hg (N := 7) ?hd (cs := patC Lz Lz zeroPt) (t := 26) ?hr ?_; (case hd => rfl); (case hg => rfl); (case hr => first | (go_simp; done) | (go_simp; rfl)); intro k7 hk v2 hbox hbb; have Kk7 := Aside0.mk hbox; have Hk7 := Aside0.mk (show w.heap.size < k7 by have := blk_lt HX.out; omega); have ow := Aside0.mk (OW.out.below hbb); clear OW; have OW := ow; clear ow; have n_ := Aside0.mk (blk_below HX.out hbb); clear HX; have HX := n_; clear n_; have n_ := Aside0.mk (below_step BW.out hbb); clear BW; have BW := n_; clear n_; clear hbox hbb hk) | ((with_reducible refine gate_store (t := 26) (p := 7) rfl ?_); refine wpList_store_row rfl 26 (.tmp 7) (.tmp 31) rfl k7 (patC LA MA ⟨pos, ng, neg⟩) rfl rfl 26 (patC Lz Lz zeroPt) Kk7.out info26 rfl (by simp [Value.oneCell']) ?_; generalize hW : World.setRow v2 k7 _ = v3; have NA : Aside0 (BX w v3 k7 LA MA ⟨pos, ng, neg⟩) := ⟨by rw [← hW]; exact BX.fill Kk7.out OW.out (Nat.le_refl _) SA.out.1 SA.out.2 (Nat.le_of_lt Hk7.out)⟩; have n_ : Aside0 (v3.heap[w.heap.size]? = some (.cells (patC L M ⟨pos, ng, neg⟩) 26 (0, 0))) := ⟨by rw [← hW]; exact (setRow_other _ _ _ _ (by have := Hk7.out; omega)).trans HX.out⟩; clear HX; have HX := n_; clear n_; have n_ : Aside0 (Below w.heap.size w v3) := ⟨by rw [← hW]; exact below_setRow BW.out (Nat.le_of_lt Hk7.out)⟩; clear BW; have BW := n_; clear n_; clear hW Kk7 OW) | ((with_reducible refine gate_dst (N := 36) rfl ?_); refine wpList_load_g (by first | rfl | (go_simp; done)) 26 (.tmp 2) rfl w.heap.size rfl 26 (patC L M ⟨pos, ng, neg⟩) (0, 0) _ HX.out Try.underlying26 rfl info26 ?_) | ((with_reducible refine gate_dst (N := 37) rfl ?_); refine wpList_load_g (by first | rfl | (go_simp; done)) 26 (.tmp 7) rfl k7 rfl 26 (patC LA MA ⟨pos, ng, neg⟩) (0, 0) _ NA.out.box Try.underlying26 rfl info26 ?_) | (have hz := EQ.out; go_at_call 12; ((refine (same_walk L M ⟨pos, ng, neg⟩ LA MA ⟨pos, ng, neg⟩ _ ⟨(OKP.out.below BW.out).r, (OKN.out.below BW.out).r⟩ ⟨NA.out.okp.r, NA.out.okn.r⟩).mono ?_); rw [hz]; rintro e w7 ⟨rfl, hb⟩; have n_ := Aside0.mk (blk_below HX.out hb); clear HX; have HX := n_; clear n_; have n_ := Aside0.mk (below_step BW.out hb); clear BW; have BW := n_; clear n_; clear hb hz EQ NA)))
      go_meet
      case rel => exact ⟨HX, BW⟩
  case rest =>
    obtain ⟨v4, rfl⟩ : ∃ v4 : World, v4 = wc := ⟨_, rfl⟩
    refine hK _ _ ?_
    clear hK K
    obtain ⟨HX', BW'⟩ := hcut
    clear HX BW C1 EQ OKP OKN HX' nf
    have BW := BW'
    clear BW'
    rcases CS.out with ⟨he, hc⟩ | ⟨hy, he⟩
    · subst he
      have hb1 := back1 hc
      obtain ⟨yp, yg, yn⟩ := y
      obtain ⟨U, hU⟩ : ∃ U, wholeS ⟨yp, yg, yn⟩ = U := ⟨_, rfl⟩
      rw [hU] at hb1
      have HP1 := Aside0.mk hb1.1
      have HP2 := Aside0.mk hb1.1
      have HB2 := Aside0.mk hb1.2.2
      have HC2 := Aside0.mk hc
      clear hb1 hc hU CS
      go_wp2_with (first | (have hz := HS.out; go_at_call 15; ((refine (parse_walk s _ (Glob_below HG.out BW.out)).mono ?_); rw [hz]; rintro e u1 ⟨L9, M9, rfl, how, hb⟩; have OW := Aside0.mk (how.lower BW.out.size); have n_ := Aside0.mk (below_step BW.out hb); clear BW; have BW := n_; clear n_; clear hb how hz HS)) | ((with_reducible refine gate_dst (N := 9) rfl ?_); refine box_event ?hg (N := 9) ?hd (cs := patC Lz Lz zeroPt) (t := 26) ?hr ?_; (case hd => rfl); (case hg => rfl); (case hr => first | (go_simp; done) | (go_simp; rfl)); intro k9 hk u2 hbox hbb; have Kk9 := Aside0.mk hbox; have Hk9 := Aside0.mk (show w.heap.size ≤ k9 by have := BW.out.size; omega); have ow := Aside0.mk (OW.out.below hbb); clear OW; have OW := ow; clear ow; have n_ := Aside0.mk (below_step BW.out hbb); clear BW; have BW := n_; clear n_; clear hbox hbb hk) | ((with_reducible refine gate_store (t := 26) (p := 9) rfl ?_); refine wpList_store_row rfl 26 (.tmp 9) (.tmp 49) rfl k9 (patC L9 M9 ⟨yp, yg, yn⟩) rfl rfl 26 (patC Lz Lz zeroPt) Kk9.out info26 rfl (by simp [Value.oneCell']) ?_; generalize hW : World.setRow u2 k9 _ = u3; have NY : Aside0 (BX w u3 k9 L9 M9 ⟨yp, yg, yn⟩) := ⟨by rw [← hW]; exact BX.fill Kk9.out OW.out (Nat.le_refl _) SS.out.1 SS.out.2 Hk9.out⟩; have n_ : Aside0 (Below w.heap.size w u3) := ⟨by rw [← hW]; exact below_setRow BW.out Hk9.out⟩; clear BW; have BW := n_; clear n_; clear hW Kk9 OW) | ((with_reducible refine gate_dst (N := 60) rfl ?_); refine wpList_load_row rfl 26 (.tmp 9) rfl k9 rfl 26 (patC L9 M9 ⟨yp, yg, yn⟩) (0, 0) _ NY.out.box Try.underlying26 rfl info26 ?_) | (have hz := HP1.out; go_at_call 9; ((refine (pprint_walk L9 M9 yp yg yn _ (Glob_below HG.out BW.out) NY.out.okp NY.out.okn).mono ?_); rw [hz]; rintro e u5 ⟨rfl, hb⟩; have n_ := Aside0.mk (NY.out.step hb); clear NY; have NY := n_; clear n_; have n_ := Aside0.mk (below_step BW.out hb); clear BW; have BW := n_; clear n_; clear hb hz HP1)) | (have hz := HB2.out; go_at_call 15; ((refine (parse_walk U _ (Glob_below HG.out BW.out)).mono ?_); rw [hz]; rintro e u6 ⟨L3, M3, rfl, how, hb⟩; have OW := Aside0.mk (how.lower BW.out.size); have n_ := Aside0.mk (NY.out.step hb); clear NY; have NY := n_; clear n_; have n_ := Aside0.mk (below_step BW.out hb); clear BW; have BW := n_; clear n_; clear hb how hz HB2)) | ((with_reducible refine gate_dst (N := 13) rfl ?_); refine box_event ?hg (N := 13) ?hd (cs := patC Lz Lz zeroPt) (t := 26) ?hr ?_; (case hd => rfl); (case hg => rfl); (case hr => first | (go_simp; done) | (go_simp; rfl)); intro k13 hk u7 hbox hbb; have Kk13 := Aside0.mk hbox; have Hk13 := Aside0.mk (show w.heap.size ≤ k13 by have := BW.out.size; omega); have NEk9k13 := Aside0.mk (show k9 ≠ k13 by have := blk_lt NY.out.box; omega); have ow := Aside0.mk (OW.out.below hbb); clear OW; have OW := ow; clear ow; have n_ := Aside0.mk (NY.out.step hbb); clear NY; have NY := n_; clear n_; have n_ := Aside0.mk (below_step BW.out hbb); clear BW; have BW := n_; clear n_; clear hbox hbb hk) | ((with_reducible refine gate_store (t := 26) (p := 13) rfl ?_); refine wpList_store_row rfl 26 (.tmp 13) (.tmp 67) rfl k13 (patC L3 M3 ⟨yp, yg, yn⟩) rfl rfl 26 (patC Lz Lz zeroPt) Kk13.out info26 rfl (by simp [Value.oneCell']) ?_; generalize hW : World.setRow u7 k13 _ = u8; have NZ : Aside0 (BX w u8 k13 L3 M3 ⟨yp, yg, yn⟩) := ⟨by rw [← hW]; exact BX.fill Kk13.out OW.out (Nat.le_refl _) SS.out.1 SS.out.2 Hk13.out⟩; have n_ : Aside0 (BX w u8 k9 L9 M9 ⟨yp, yg, yn⟩) := ⟨by rw [← hW]; exact NY.out.over Kk13.out NEk9k13.out⟩; clear NY; have NY := n_; clear n_; have n_ : Aside0 (Below w.heap.size w u8) := ⟨by rw [← hW]; exact below_setRow BW.out Hk13.out⟩; clear BW; have BW := n_; clear n_; clear hW Kk13 OW) | ((with_reducible refine gate_dst (N := 70) rfl ?_); refine wpList_load_row rfl 26 (.tmp 13) rfl k13 rfl 26 (patC L3 M3 ⟨yp, yg, yn⟩) (0, 0) _ NZ.out.box Try.underlying26 rfl info26 ?_) | (have hz := HP2.out; go_at_call 9; ((refine (pprint_walk L3 M3 yp yg yn _ (Glob_below HG.out BW.out) NZ.out.okp NZ.out.okn).mono ?_); rw [hz]; rintro e u9 ⟨rfl, hb⟩; have n_ := Aside0.mk (NY.out.step hb); clear NY; have NY := n_; clear n_; have n_ := Aside0.mk (NZ.out.step hb); clear NZ; have NZ := n_; clear n_; have n_ := Aside0.mk (below_step BW.out hb); clear BW; have BW := n_; clear n_; clear hb hz HP2)) | ((with_reducible refine gate_dst (N := 74) rfl ?_); refine wpList_load_row rfl 26 (.tmp 9) rfl k9 rfl 26 (patC L9 M9 ⟨yp, yg, yn⟩) (0, 0) _ NY.out.box Try.underlying26 rfl info26 ?_) | (have hz := HC2.out; go_at_call 11; ((refine (pcheck_walk L9 M9 yp yg yn _ (Glob_below HG.out BW.out) NY.out.okp NY.out.okn).mono ?_); rw [hz]; rintro e u10 ⟨rfl, hb⟩; have n_ := Aside0.mk (NY.out.step hb); clear NY; have NY := n_; clear n_; have n_ := Aside0.mk (NZ.out.step hb); clear NZ; have NZ := n_; clear n_; have n_ := Aside0.mk (below_step BW.out hb); clear BW; have BW := n_; clear n_; clear hb hz HC2)) | ((with_reducible refine gate_dst (N := 90) rfl ?_); refine wpList_load_g (by first | rfl | (go_simp; done)) 26 (.tmp 9) rfl k9 rfl 26 (patC L9 M9 ⟨yp, yg, yn⟩) (0, 0) _ NY.out.box Try.underlying26 rfl info26 ?_) | ((with_reducible refine gate_dst (N := 91) rfl ?_); refine wpList_load_g (by first | rfl | (go_simp; done)) 26 (.tmp 13) rfl k13 rfl 26 (patC L3 M3 ⟨yp, yg, yn⟩) (0, 0) _ NZ.out.box Try.underlying26 rfl info26 ?_) | (have hz := EY.out; go_at_call 12; ((refine (same_walk L9 M9 ⟨yp, yg, yn⟩ L3 M3 ⟨yp, yg, yn⟩ _ ⟨NY.out.okp.r, NY.out.okn.r⟩ ⟨NZ.out.okp.r, NZ.out.okn.r⟩).mono ?_); rw [hz]; rintro e u11 ⟨rfl, hb⟩; have n_ := Aside0.mk (NY.out.step hb); clear NY; have NY := n_; clear n_; have n_ := Aside0.mk (NZ.out.step hb); clear NZ; have NZ := n_; clear n_; have n_ := Aside0.mk (below_step BW.out hb); clear BW; have BW := n_; clear n_; clear hb hz EY)) | (go_at_call 14; ((refine (fixed_calls _ (Glob_below HG.out BW.out)).mono ?_); rintro e wf ⟨rfl, hb⟩; have n_ := Aside0.mk (below_step BW.out hb); clear BW hb; have BW := n_; clear n_)))
      go_ret
      exact ⟨rfl, BW.out⟩
    · subst hy
      have ne : (e0 != 0) = true := bne_iff_ne.mpr he
      clear he CS
      go_wp2_with (first | (have hz := HS.out; go_at_call 15; ((refine (parse_walk s _ (Glob_below HG.out BW.out)).mono ?_); rw [hz]; rintro e u1 ⟨L9, M9, rfl, how, hb⟩; have OW := Aside0.mk (how.lower BW.out.size); have n_ := Aside0.mk (below_step BW.out hb); clear BW; have BW := n_; clear n_; clear hb how hz HS)) | ((with_reducible refine gate_dst (N := 9) rfl ?_); refine box_event ?hg (N := 9) ?hd (cs := patC Lz Lz zeroPt) (t := 26) ?hr ?_; (case hd => rfl); (case hg => rfl); (case hr => first | (go_simp; done) | (go_simp; rfl)); intro k9 hk u2 hbox hbb; have Kk9 := Aside0.mk hbox; have Hk9 := Aside0.mk (show w.heap.size ≤ k9 by have := BW.out.size; omega); have ow := Aside0.mk (OW.out.below hbb); clear OW; have OW := ow; clear ow; have n_ := Aside0.mk (below_step BW.out hbb); clear BW; have BW := n_; clear n_; clear hbox hbb hk) | ((with_reducible refine gate_store (t := 26) (p := 9) rfl ?_); refine wpList_store_row rfl 26 (.tmp 9) (.tmp 49) rfl k9 (patC L9 M9 zeroPt) rfl rfl 26 (patC Lz Lz zeroPt) Kk9.out info26 rfl (by simp [Value.oneCell']) ?_; generalize hW : World.setRow u2 k9 _ = u3; have NY : Aside0 (BX w u3 k9 L9 M9 zeroPt) := ⟨by rw [← hW]; exact BX.fill Kk9.out OW.out (Nat.le_refl _) SS.out.1 SS.out.2 Hk9.out⟩; have n_ : Aside0 (Below w.heap.size w u3) := ⟨by rw [← hW]; exact below_setRow BW.out Hk9.out⟩; clear BW; have BW := n_; clear n_; clear hW Kk9 OW) | ((with_reducible refine gate_dst (N := 53) rfl ?_); refine wpList_load_row rfl 26 (.tmp 9) rfl k9 rfl 26 (patC L9 M9 zeroPt) (0, 0) _ NY.out.box Try.underlying26 rfl info26 ?_) | (have hz := EY.out; go_at_call 12; ((refine (same_walk L9 M9 zeroPt Lz Lz zeroPt _ ⟨NY.out.okp.r, NY.out.okn.r⟩ ⟨(subOk_zero _).r, (subOk_zero _).r⟩).mono ?_); rw [hz]; rintro e u4 ⟨rfl, hb⟩; have n_ := Aside0.mk (NY.out.step hb); clear NY; have NY := n_; clear n_; have n_ := Aside0.mk (below_step BW.out hb); clear BW; have BW := n_; clear n_; clear hb hz EY)) | (go_at_call 14; ((refine (fixed_calls _ (Glob_below HG.out BW.out)).mono ?_); rintro e wf ⟨rfl, hb⟩; have n_ := Aside0.mk (below_step BW.out hb); clear BW hb; have BW := n_; clear n_)))
      go_ret
      exact ⟨rfl, BW.out⟩
end Go.Proofs.Ytacnjemndfmbhaa.Q
end
