-- printed by a program of this session (wip/tools/print2.sh) after the kit's print
import Derived.Test.YtfaknblpkegekaaQx0
import Derived.Test.YtfaknblpkegekaaQx1
namespace Go.Proofs.Ytfaknblpkegekaa.Q
open Go.RowKit Go.Proofs.YtfaknblpkegekaaW.PrintWords Go.Proofs.YtfaknblpkegekaaW.PrintLast Go.Proofs.YtfaknblpkegekaaW.PrintMore
attribute [local go_sem] max2_int min2_int max_two min_two max_three min_three max_four min_four   -- for this text's walks alone
set_option linter.unusedVariables false
set_option linter.unusedSimpArgs false

/-! ### quipuref01_Out: function 17 -/
def quipuref01_Out.l0 : Nat → List Int → List Int → Int → Option (List Int)
  | 0, _, _, _ => none
  | k + 1, x0, x3, x4 => if x4 < (x0.length : Int) then (if (Int.tmod x4 4) = 0 then (if x3.length < 17592186044416 then ((some (x3 ++ [0] : List Int)).bind fun y315 => (if 0 ≤ (wrap64 (Int.tdiv x4 4)) then (if (wrap64 (Int.tdiv x4 4)) < (y315.length : Int) then (if 0 ≤ x4 then (if 0 ≤ (wrap64 (16 * (Int.tmod x4 4))) then (quipuref01_Out.l0 k x0 (y315.set ((wrap64 (Int.tdiv x4 4)) : Int).toNat (Go.bits .or .u64 (rd y315 (wrap64 (Int.tdiv x4 4))) (shl .u64 (IntKind.u64.wrap (rd x0 x4)) (wrap64 (16 * (Int.tmod x4 4)))))) (wrap64 (x4 + 1))) else (none)) else (none)) else (none)) else (none))) else (none)) else (if 0 ≤ (wrap64 (Int.tdiv x4 4)) then (if (wrap64 (Int.tdiv x4 4)) < (x3.length : Int) then (if 0 ≤ x4 then (if 0 ≤ (wrap64 (16 * (Int.tmod x4 4))) then (quipuref01_Out.l0 k x0 (x3.set ((wrap64 (Int.tdiv x4 4)) : Int).toNat (Go.bits .or .u64 (rd x3 (wrap64 (Int.tdiv x4 4))) (shl .u64 (IntKind.u64.wrap (rd x0 x4)) (wrap64 (16 * (Int.tmod x4 4)))))) (wrap64 (x4 + 1))) else (none)) else (none)) else (none)) else (none))) else (some x3)
def quipuref01_Out.f (k : Nat) (l0 : List Int) : Option (List Int) := (quipuref01_trim.f k l0).bind fun t309 => (quipuref01_Out.l0 k t309 (([] : List Int)) 0)
theorem quipuref01_Out.mono_l : ∀ k, (∀ y0 y1 y2, LeO (quipuref01_Out.l0 k y0 y1 y2) (quipuref01_Out.l0 (k + 1) y0 y1 y2))
  | 0 => fun _ _ _ r h => by simp [quipuref01_Out.l0] at h
  | k + 1 => by
    have ih0 := quipuref01_Out.mono_l k
    · intro y0 y1 y2
      unfold quipuref01_Out.l0
      repeat' first
      | (with_reducible exact ih0 _ _ _)
      | (with_reducible exact quipuref01_trim.mono _ _)
      | (with_reducible exact LeO.refl _)
      | (with_reducible exact LeO.none _)
      | (with_reducible refine LeO.ite ?_ ?_)
      | (with_reducible refine LeO.bind ?_ (fun _ => ?_))
      | exact ih0 _ _ _
      | exact quipuref01_trim.mono _ _
      | exact LeO.none _
      | refine LeO.ite ?_ ?_
      | refine LeO.bind ?_ (fun _ => ?_)
theorem quipuref01_Out.mono : ∀ a0 k, LeO (quipuref01_Out.f k a0) (quipuref01_Out.f (k + 1) a0) := by
  intro a0 k
  have ih0 := quipuref01_Out.mono_l k
  unfold quipuref01_Out.f
  repeat' first
      | (with_reducible exact ih0 _ _ _)
      | (with_reducible exact quipuref01_trim.mono _ _)
      | (with_reducible exact LeO.refl _)
      | (with_reducible exact LeO.none _)
      | (with_reducible refine LeO.ite ?_ ?_)
      | (with_reducible refine LeO.bind ?_ (fun _ => ?_))
      | exact ih0 _ _ _
      | exact quipuref01_trim.mono _ _
      | exact LeO.none _
      | refine LeO.ite ?_ ?_
      | refine LeO.bind ?_ (fun _ => ?_)
def quipuref01_Out.T8 : Bool × List (List Nat × List Nat) := (true, [([], []), ([], []), ([1], [1]), ([0, 2], [0, 2]), ([3], [3]), ([], []), ([], []), ([5, 6], [5, 6]), ([7], [7]), ([8], [8]), ([], []), ([10], [10]), ([11], [11]), ([9, 12], [9, 12]), ([4, 13], [4, 13]), ([0, 2, 0, 1, 2, 3, 4, 5, 6, 7, 8, 9, 10, 11, 12, 13, 14], [0, 2]), ([15, 14, 0, 1, 2, 3, 4, 5, 6, 7, 8, 9, 10, 11, 12, 13, 14], [14, 15])])
def quipuref01_Out.B8 : List Nat := [0, 0, 2, 7, 15, 0, 0, 96, 224, 480, 0, 1024, 3072, 8160, 16383, 32767, 65535]
theorem quipuref01_Out.tab8 : rtab .any (opsOf Try.f17 8) = quipuref01_Out.T8 := by kernel_rfl
theorem quipuref01_Out.bits8 : waitsOk quipuref01_Out.T8.2 quipuref01_Out.B8 = true := by kernel_rfl
set_option maxHeartbeats 8000000 in
set_option maxRecDepth 100000 in
theorem quipuref01_Out.calls (k : Nat) (A0 : Option Addr) (c0 : Nat) (l0 : List Int) (r : List Int) (w : World) (hr0 : Kd.C (Kd.int .u32) w A0 l0.length l0) (hc0 : l0.length ≤ c0) (h : quipuref01_Out.f k l0 = some r) :
    Calls Try.prog 17 #[.slice A0 l0.length c0] w fun e w' => ∃ v0_ : Value, e = .returned (v0_) ∧ Kd.R (Kd.int .u64) 46 w' w.heap.size (fun _ => True) v0_ r ∧ Below w.heap.size w w' := by
  have HR0 := Aside0.mk hr0
  have HC0 := Aside0.mk hc0
  clear hr0 hc0
  have HB := Aside0.mk (Below.refl w.heap.size w)
  have H : ((quipuref01_trim.f k l0).bind fun t309 => (quipuref01_Out.l0 k t309 (([] : List Int)) 0)) = some r := h
  clear h
  replace H := Option.bind_eq_some_iff.mp H
  obtain ⟨t309, A20, H⟩ := H
  replace H : (quipuref01_Out.l0 k t309 (([] : List Int)) 0) = some r := H
  have A2 := Aside0.mk A20
  clear A20
  obtain ⟨y312, hy312⟩ : ∃ y_ : List Int, y_ = (([] : List Int)) := ⟨_, rfl⟩
  replace H : (quipuref01_Out.l0 k t309 y312 0) = some r := by first | (rw [hy312]; with_reducible exact H) | (have H2_ := (Option.bind_some _ _).symm.trans H; rw [hy312]; with_reducible exact H2_) | (have H2_ := (Option.bind_some _ _).symm.trans H; with_reducible exact H2_) | with_reducible exact H | (rw [hy312]; exact H) | exact H
  have Ny312 := Aside0.mk hy312
  clear hy312
  have H' := Aside0.mk H
  clear H
  go_enter Try.func17, Try.ntmps17
  go_wp2_with (first | ((with_reducible refine gate_callee (f := 38) rfl ?_); refine goesL_ (some 6) rfl rfl Try.func38 (by kernel_rfl) rfl #[.slice A0 l0.length c0] rfl (by (try simp only [List.map_toArray, List.map_cons, List.map_nil]); first | done | rfl | (simp only [List.length_drop, List.length_take]; rfl)) ?_; (with_reducible refine (quipuref01_trim.calls k (fun k_ => k_ < w.heap.size) _ _ l0 t309 _ ?side1 A2.out).mono ?_); (case side1 => exact Kd.V_mk HC0.out (Kd.F_below (Kd.C_F (Kd.heap_int .u32) HR0.out) (by repeat (first | (with_reducible first | exact HB.out | apply below_alloc | apply pw_below_drewN | apply below_drew1) | exact HB.out)))); rintro e w3 ⟨v310, rfl, ho0, hb⟩; refine ⟨_, rfl, ?_⟩; have n0_ := Aside0.mk (Kd.V_lower (Kd.V_mono (ok' := fun k_ => True) ho0 (fun k_ hk_ => trivial)) (below_size (by repeat (first | (with_reducible first | exact HB.out | apply below_alloc | apply pw_below_drewN | apply below_drew1) | exact HB.out)))); have n1_ := Aside0.mk (below_step (by repeat (first | (with_reducible first | exact HB.out | apply below_alloc | apply pw_below_drewN | apply below_drew1) | exact HB.out)) hb); clear HB; have HO311 := n0_; have HB := n1_; clear n0_ n1_; (try clear hb); (try clear hb2); (try clear hk); (try clear hi); (try clear ho0)) | ((with_reducible refine gate_dst (N := 7) rfl ?_); refine Kd.R_lit (Kd.int .u64) _ 46 ?hg (N := 7) ?hd (xs := ([] : List Int)) (inner := []) (ok := fun _ => True) (okp := fun _ => True) ?hr ?hp (fun _ hk => hk) trivial (Below.refl _ _) (Nat.le_refl _) (by simp) ?_; (case hd => rfl); (case hg => rfl); (case hr => first | (go_simp; done) | (go_simp; rfl)); (case hp => exact (Reps.none _ _)); intro v313 w4 ho5 hb hg_ hnew_; clear hg_ hnew_; (first | rw [← Ny312.out] at ho5 | (simp only [Int.reduceToNat] at ho5; rw [← Ny312.out] at ho5)); have n0_ := Aside0.mk (Kd.V_elder' (by (with_reducible repeat (first | apply Kd.V_alloc | apply Kd.V_drewN | apply Kd.V_drew)); exact HO311.out) (Kd.R_base ho5) hb); have n1_ := Aside0.mk (Kd.R_lower ho5 (below_size (by repeat (first | (with_reducible first | exact HB.out | apply below_alloc | apply pw_below_drewN | apply below_drew1) | exact HB.out)))); have n2_ := Aside0.mk (below_step (by repeat (first | (with_reducible first | exact HB.out | apply below_alloc | apply pw_below_drewN | apply below_drew1) | exact HB.out)) hb); clear HO311; clear HB; have HO311 := n0_; have HO314 := n1_; have HB := n2_; clear n0_ n1_ n2_; clear hb ho5))
  go_loopg [3, 4] k (fun kq v3 v4 w' => ∃ (x3_1 : List Int) (x4_1 : Int), v4 = .int .i64 x4_1 ∧ Aside0 (quipuref01_Out.l0 kq t309 x3_1 x4_1 = some r) ∧ Aside0 (kq ≤ k) ∧ Aside0 (Kd.V (Kd.int .u32) 55 w' w.heap.size (fun k_ => some k_ ≠ (v3 : Value).ownBlock) v310 t309) ∧ Aside0 (Kd.R (Kd.int .u64) 46 w' w.heap.size (fun _ => True) v3 x3_1) ∧ Aside0 (Below w.heap.size w w'))
  case atStart => exact ⟨(y312), (0), (by first | rfl | (simp; done) | (simp [*]; done)), H', ⟨Nat.le_refl _⟩, ⟨by (with_reducible repeat (first | apply Kd.V_alloc | apply Kd.V_drewN | apply Kd.V_drew)); exact Kd.V_mono HO311.out (fun _ hk => hk.2)⟩, ⟨by (with_reducible repeat (first | apply Kd.R_alloc | apply Kd.R_drewN | apply Kd.R_drew)); exact HO314.out⟩, ⟨by repeat (first | (with_reducible first | exact HB.out | apply below_alloc | apply pw_below_drewN | apply below_drew1) | exact HB.out)⟩⟩
  case round =>
    clear H'
    try clear c1
    try clear p2
    try clear c3
    obtain ⟨x3_1, x4_1, rfl, HA, HK1, HO_0, HO_3, HB⟩ := hrel
    cases gk with
    | zero => exact absurd HA.out (by simp [quipuref01_Out.l0])
    | succ k1 =>
      have H := HA.out
      clear HA
      simp only [quipuref01_Out.l0] at H
      by_cases c6 : x4_1 < (t309.length : Int)
      · rw [if_pos c6] at H
        have c6b0 : decide (x4_1 < (t309.length : Int)) = true := decide_eq_true c6
        clear c6
        by_cases c7 : (Int.tmod x4_1 4) = 0
        · rw [if_pos c7] at H
          have c7b0 : ((Int.tmod x4_1 4) == 0) = true := beq_iff_eq.mpr c7
          have c7b1 : ((Int.tmod x4_1 4) != 0) = false := bne_eq_false_iff_eq.mpr c7
          clear c7
          by_cases c8 : x3_1.length < 17592186044416
          · rw [if_pos c8] at H
            have LMc8 := Aside0.mk c8
            clear c8
            obtain ⟨y315, hy315⟩ : ∃ y_ : List Int, y_ = (x3_1 ++ [0]) := ⟨_, rfl⟩
            replace H : (if 0 ≤ (wrap64 (Int.tdiv x4_1 4)) then (if (wrap64 (Int.tdiv x4_1 4)) < (y315.length : Int) then (if 0 ≤ x4_1 then (if 0 ≤ (wrap64 (16 * (Int.tmod x4_1 4))) then (quipuref01_Out.l0 k1 t309 (y315.set ((wrap64 (Int.tdiv x4_1 4)) : Int).toNat (Go.bits .or .u64 (rd y315 (wrap64 (Int.tdiv x4_1 4))) (shl .u64 (IntKind.u64.wrap (rd t309 x4_1)) (wrap64 (16 * (Int.tmod x4_1 4)))))) (wrap64 (x4_1 + 1))) else (none)) else (none)) else (none)) else (none)) = some r := by first | (rw [hy315]; with_reducible exact H) | (have H2_ := (Option.bind_some _ _).symm.trans H; rw [hy315]; with_reducible exact H2_) | (have H2_ := (Option.bind_some _ _).symm.trans H; with_reducible exact H2_) | with_reducible exact H | (rw [hy315]; exact H) | exact H
            have Ny315 := Aside0.mk hy315
            clear hy315
            obtain ⟨ji9, hji9⟩ : ∃ j_ : Int, (wrap64 (Int.tdiv x4_1 4)) = j_ := ⟨_, rfl⟩
            replace H : (if 0 ≤ (ji9) then (if (ji9) < (y315.length : Int) then (if 0 ≤ x4_1 then (if 0 ≤ (wrap64 (16 * (Int.tmod x4_1 4))) then (quipuref01_Out.l0 k1 t309 (y315.set ((ji9) : Int).toNat (Go.bits .or .u64 (rd y315 (ji9)) (shl .u64 (IntKind.u64.wrap (rd t309 x4_1)) (wrap64 (16 * (Int.tmod x4_1 4)))))) (wrap64 (x4_1 + 1))) else (none)) else (none)) else (none)) else (none)) = some r := by first | (rw [hji9] at H; exact H) | (simp only [hji9] at H ⊢; exact H)
            have hji9w : (IntKind.i64.wrap (Int.tdiv x4_1 4)) = ji9 := (i64_w _).trans hji9
            by_cases c10 : 0 ≤ (ji9)
            · rw [if_pos c10] at H
              have c10b0 : decide (0 ≤ (ji9)) = true := decide_eq_true c10
              clear c10
              by_cases c11 : (ji9) < (y315.length : Int)
              · rw [if_pos c11] at H
                have c11b0 : decide ((ji9) < (y315.length : Int)) = true := decide_eq_true c11
                clear c11
                by_cases c12 : 0 ≤ x4_1
                · rw [if_pos c12] at H
                  have c12b0 : decide (0 ≤ x4_1) = true := decide_eq_true c12
                  clear c12
                  obtain ⟨ji13, hji13⟩ : ∃ j_ : Int, (wrap64 (16 * (Int.tmod x4_1 4))) = j_ := ⟨_, rfl⟩
                  replace H : (if 0 ≤ (ji13) then (quipuref01_Out.l0 k1 t309 (y315.set ((ji9) : Int).toNat (Go.bits .or .u64 (rd y315 (ji9)) (shl .u64 (IntKind.u64.wrap (rd t309 x4_1)) (ji13)))) (wrap64 (x4_1 + 1))) else (none)) = some r := by first | (rw [hji13] at H; exact H) | (simp only [hji13] at H ⊢; exact H)
                  have hji13w : (IntKind.i64.wrap (16 * (Int.tmod x4_1 4))) = ji13 := (i64_w _).trans hji13
                  by_cases c14 : 0 ≤ (ji13)
                  · rw [if_pos c14] at H
                    have c14b0 := eq_true c14
                    have c14b1 : decide (0 ≤ (ji13)) = true := decide_eq_true c14
                    clear c14
                    obtain ⟨ji15, hji15⟩ : ∃ j_ : Int, (shl .u64 (IntKind.u64.wrap (rd t309 x4_1)) (ji13)) = j_ := ⟨_, rfl⟩
                    replace H : (quipuref01_Out.l0 k1 t309 (y315.set ((ji9) : Int).toNat (Go.bits .or .u64 (rd y315 (ji9)) (ji15))) (wrap64 (x4_1 + 1))) = some r := by first | (rw [hji15] at H; exact H) | (simp only [hji15] at H ⊢; exact H)
                    have hji15_ : (IntKind.u64.wrap ((IntKind.u64.wrap (rd t309 x4_1)) * 2 ^ min (ji13).toNat 64)) = ji15 := hji15
                    have hji15z : (ji13) ≤ 64 → (IntKind.u64.wrap ((IntKind.u64.wrap (rd t309 x4_1)) * 2 ^ (ji13).toNat)) = ji15 := shl_small hji15
                    obtain ⟨y320, hy320⟩ : ∃ y_ : List Int, y_ = (y315.set ((ji9) : Int).toNat (Go.bits .or .u64 (rd y315 (ji9)) (ji15))) := ⟨_, rfl⟩
                    replace H : (quipuref01_Out.l0 k1 t309 y320 (wrap64 (x4_1 + 1))) = some r := by first | (rw [hy320]; with_reducible exact H) | (have H2_ := (Option.bind_some _ _).symm.trans H; rw [hy320]; with_reducible exact H2_) | (have H2_ := (Option.bind_some _ _).symm.trans H; with_reducible exact H2_) | with_reducible exact H | (rw [hy320]; exact H) | exact H
                    have Ny320 := Aside0.mk hy320
                    clear hy320
                    have H' := Aside0.mk H
                    clear H
                    obtain ⟨Ao17, co17, eo17⟩ := Kd.V_slice HO_0.out
                    subst eo17
                    try go_wp2_with (first | ((with_reducible refine gate_builtin (b := .append) (xs := #[.tmp 17, .tmp 18]) rfl ?_); at_builtin; refine Kd.R_append (Kd.int .u64) (w0 := w) w.heap.size rfl (.tmp 17) (.tmp 18) 22 46 (.int .u64 0) 8 rfl Try.underlying22 info46 rfl (by decide) (by omega) u3 x3_1 0 [.int .u64 0] (fun _ => True) (fun _ => False) rfl rfl ?aP (fun _ hk => hk.elim) ?aF ?aO ?aB ?aS ?aL ?_; (case aP => exact rfl); (case aB => exact (by repeat (first | (with_reducible first | exact HB.out | apply below_alloc | apply pw_below_drewN | apply below_drew1) | exact HB.out))); (case aF => exact (fun _ _ => trivial)); (case aO => exact (by (with_reducible repeat (first | apply Kd.R_alloc | apply Kd.R_drewN | apply Kd.R_drew)); exact HO_3.out)); (case aS => exact (below_size (by repeat (first | (with_reducible first | exact HB.out | apply below_alloc | apply pw_below_drewN | apply below_drew1) | exact HB.out)))); (case aL => have := LMc8.out; omega); intro v316 w18 ho hb hg hat; rw [← Ny315.out] at ho; have n0_ := Aside0.mk (Kd.V_afterv (ok := (fun _ => True)) (by (with_reducible repeat (first | apply Kd.V_alloc | apply Kd.V_drewN | apply Kd.V_drew)); exact Kd.V_mono HO_0.out (fun _ hk => ⟨trivial, hk⟩)) hg hat); have n1_ := Aside0.mk (hb); have n2_ := Aside0.mk (ho); clear HO_0; clear HB; clear HO_3; have HO_0 := n0_; have HB := n1_; have HO317 := n2_; clear n0_ n1_ n2_; clear ho hb hg hat))
                    have n0_ := Aside0.mk (Kd.V_drew HO_0.out)
                    have n1_ := Aside0.mk (Kd.R_drew HO317.out)
                    have n2_ := Aside0.mk (below_drew1 HB.out)
                    clear HO_0
                    clear HO317
                    clear HB
                    have HO_0 := n0_
                    have HO317 := n1_
                    have HB := n2_
                    clear n0_ n1_ n2_
                    obtain ⟨Ao20, co20, eo20⟩ := Kd.R_slice HO317.out
                    (first | subst eo20 | (injection eo20 with f1_ f2_ f3_; have f4_ := f1_.symm; have f5_ := f3_.symm; clear f1_ f2_ f3_; subst f4_; subst f5_))
                    have p318 : 0 ≤ ((ji9) : Int) := of_decide_eq_true (by first | (with_reducible assumption) | assumption)
                    have q318 : (ji9) < (y315.length : Int) := of_decide_eq_true (by first | (with_reducible assumption) | assumption)
                    obtain ⟨ad318, e318, hx318_0⟩ := Kd.at_int (Kd.R_reads' HO317.out).2.2 (ji9) p318 q318
                    cases e318
                    replace p318 := eq_true p318
                    replace q318 := eq_true q318
                    have p319 : 0 ≤ (x4_1 : Int) := of_decide_eq_true (by first | (with_reducible assumption) | assumption)
                    have q319 : x4_1 < (t309.length : Int) := of_decide_eq_true (by first | (with_reducible assumption) | assumption)
                    obtain ⟨ad319, e319, hx319_0⟩ := Kd.at_int (Kd.V_reads' HO_0.out).2.2 x4_1 p319 q319
                    cases e319
                    replace p319 := eq_true p319
                    replace q319 := eq_true q319
                    have p16 : 0 ≤ ((ji9) : Int) := of_decide_eq_true (by first | (with_reducible assumption) | assumption)
                    have q16 : ((ji9) : Int) < ((y315.length : Int) : Int) := of_decide_eq_true (by first | (with_reducible assumption) | assumption)
                    obtain ⟨go16, co16, eo16, gb16, gl16, cl16, HG16⟩ := Kd.R_form HO317.out (by omega)
                    (first | cases eo16 | (injection eo16 with ea_ en_ ec_; (first | subst ea_ | (injection ea_ with ea_; subst ea_)); subst ec_; clear en_))
                    have GB16 := Aside0.mk gb16
                    have GG16 := Aside0.mk HG16
                    clear gb16 gl16 HG16
                    (first | simp only [add_plain] at hx318_0 | skip)
                    obtain ⟨hx16_0, hf16_0⟩ := Kd.R_celln 0 HO317.out ((ji9) : Int) p16 q16
                    replace p16 := eq_true p16
                    replace q16 := eq_true q16
                    have HP21 := Kd.R_putn HO317.out ((ji9) : Int) (Go.bits .or .u64 (rd y315 (ji9)) (ji15))
                    rw [← Ny320.out] at HP21
                    have HQ21 := Aside0.mk HP21
                    clear HP21
                    refine start_ (n := 17) (S := fun w' => w'.cell? ⟨go16, ((ji9)).toNat, none⟩ = some (.int .u64 (rd y315 (ji9))) ∧ w'.cell? (ad319.add (x4_1).toNat) = some (.int .u32 (rd t309 x4_1))) (ds := [16]) #[false, false, false, false, false, false, false, false, false, false, false, false, false, false, false, false, false] (by kernel_rfl) rfl rfl ⟨hx318_0, hx319_0⟩ (fun hHeld => ?_); refine with_tabW quipuref01_Out.tab8 quipuref01_Out.bits8 (fun HT_ HW_ => ?_)
                    generalize w18.drew = w19 at HO_0 HO317 HB GG16 HQ21 hf16_0 hx16_0 hx318_0 hx319_0 hHeld ⊢
                    refine pure_ (i := 0) (N := some 20) (v := ?_) (a' := ?_) #[true, false, false, false, false, false, false, false, false, false, false, false, false, false, false, false, false] rfl rfl (any_of HT_.out (by kernel_rfl)) (fun _ _ _ h => h) (Or.inl ⟨by rfl, ?_⟩) ?_ ?_
                    rotate_left
                    · intro w'
                      go_simp
                      with_reducible rfl
                    rotate_left
                    · simp only [Act.put, List.setIfInBounds_toArray, List.set_cons_zero, List.set_cons_succ, i64_w, i32_w]
                      rfl
                    refine pure_ (i := 1) (N := some 21) (v := ?_) (a' := ?_) #[true, true, false, false, false, false, false, false, false, false, false, false, false, false, false, false, false] rfl rfl (any_of HT_.out (by kernel_rfl)) (fun _ _ _ h => h) (Or.inl ⟨by rfl, ?_⟩) ?_ ?_
                    rotate_left
                    · intro w'
                      go_simp
                      with_reducible rfl
                    rotate_left
                    · simp only [Act.put, List.setIfInBounds_toArray, List.set_cons_zero, List.set_cons_succ, i64_w, i32_w]
                      rfl
                    refine pure_ (i := 2) (N := some 22) (v := ?_) (a' := ?_) #[true, true, true, false, false, false, false, false, false, false, false, false, false, false, false, false, false] rfl rfl (any_of HT_.out (by kernel_rfl)) (fun _ _ _ h => h) (Or.inl ⟨by rfl, ?_⟩) ?_ ?_
                    rotate_left
                    · intro w'
                      go_simp
                      with_reducible rfl
                    rotate_left
                    · simp only [Act.put, List.setIfInBounds_toArray, List.set_cons_zero, List.set_cons_succ, i64_w, i32_w]
                      rfl
                    refine pure_ (i := 3) (N := some 23) (v := ?_) (a' := ?_) #[true, true, true, true, false, false, false, false, false, false, false, false, false, false, false, false, false] rfl rfl (any_of HT_.out (by kernel_rfl)) (fun _ _ _ h => h) (Or.inl ⟨by rfl, ?_⟩) ?_ ?_
                    rotate_left
                    · intro w'
                      go_simp
                      with_reducible rfl
                    rotate_left
                    · simp only [Act.put, List.setIfInBounds_toArray, List.set_cons_zero, List.set_cons_succ, i64_w, i32_w]
                      rfl
                    refine pure_ (i := 5) (N := some 25) (v := ?_) (a' := ?_) #[true, true, true, true, false, true, false, false, false, false, false, false, false, false, false, false, false] rfl rfl (any_of HT_.out (by kernel_rfl)) (fun _ _ _ h => h) (Or.inl ⟨by rfl, ?_⟩) ?_ ?_
                    rotate_left
                    · intro w'
                      go_simp
                      with_reducible rfl
                    rotate_left
                    · simp only [Act.put, List.setIfInBounds_toArray, List.set_cons_zero, List.set_cons_succ, i64_w, i32_w]
                      rfl
                    refine pure_ (i := 6) (N := some 26) (v := ?_) (a' := ?_) #[true, true, true, true, false, true, true, false, false, false, false, false, false, false, false, false, false] rfl rfl (any_of HT_.out (by kernel_rfl)) (fun _ _ _ h => h) (Or.inl ⟨by rfl, ?_⟩) ?_ ?_
                    rotate_left
                    · intro w'
                      go_simp
                      with_reducible rfl
                    rotate_left
                    · simp only [Act.put, List.setIfInBounds_toArray, List.set_cons_zero, List.set_cons_succ, i64_w, i32_w]
                      rfl
                    refine pure_ (i := 7) (N := some 27) (v := ?_) (a' := ?_) #[true, true, true, true, false, true, true, true, false, false, false, false, false, false, false, false, false] rfl rfl (any_of HT_.out (by kernel_rfl)) (fun _ _ _ h => h) (Or.inl ⟨by rfl, ?_⟩) ?_ ?_
                    rotate_left
                    · intro w'
                      go_simp
                      with_reducible rfl
                    rotate_left
                    · simp only [Act.put, List.setIfInBounds_toArray, List.set_cons_zero, List.set_cons_succ, i64_w, i32_w]
                      rfl
                    refine pure_ (i := 10) (N := some 30) (v := ?_) (a' := ?_) #[true, true, true, true, false, true, true, true, false, false, true, false, false, false, false, false, false] rfl rfl (any_of HT_.out (by kernel_rfl)) (fun _ _ _ h => h) (Or.inl ⟨by rfl, ?_⟩) ?_ ?_
                    rotate_left
                    · intro w'
                      go_simp
                      with_reducible rfl
                    rotate_left
                    · simp only [Act.put, List.setIfInBounds_toArray, List.set_cons_zero, List.set_cons_succ, i64_w, i32_w]
                      rfl
                    refine pure_ (i := 11) (N := some 31) (v := ?_) (a' := ?_) #[true, true, true, true, false, true, true, true, false, false, true, true, false, false, false, false, false] rfl rfl (any_of HT_.out (by kernel_rfl)) (fun _ _ _ h => h) (Or.inl ⟨by rfl, ?_⟩) ?_ ?_
                    rotate_left
                    · intro w'
                      go_simp
                      with_reducible rfl
                    rotate_left
                    · simp only [Act.put, List.setIfInBounds_toArray, List.set_cons_zero, List.set_cons_succ, i64_w, i32_w]
                      rfl
                    refine pure_ (i := 12) (N := some 32) (v := ?_) (a' := ?_) #[true, true, true, true, false, true, true, true, false, false, true, true, true, false, false, false, false] rfl rfl (any_of HT_.out (by kernel_rfl)) (fun _ _ _ h => h) (Or.inl ⟨by rfl, ?_⟩) ?_ ?_
                    rotate_left
                    · intro w'
                      go_simp
                      with_reducible rfl
                    rotate_left
                    · simp only [Act.put, List.setIfInBounds_toArray, List.set_cons_zero, List.set_cons_succ, i64_w, i32_w]
                      rfl
                    refine take_ (i := 4) (N := some 24) (v := ?_) (a' := ?_) #[true, true, true, true, true, true, true, true, false, false, true, true, true, false, false, false, false] rfl rfl (take_ofW HT_.out HW_.out (by kernel_rfl)) (fun _ _ _ h => h) (Or.inl ⟨by rfl, ?_⟩) hHeld ?_ ?_
                    rotate_left
                    · rintro w' ⟨s0, s1⟩
                      go_simp
                      with_reducible rfl
                    rotate_left
                    · simp only [Act.put, List.setIfInBounds_toArray, List.set_cons_zero, List.set_cons_succ, i64_w, i32_w]
                      rfl
                    refine take_ (i := 8) (N := some 28) (v := ?_) (a' := ?_) #[true, true, true, true, true, true, true, true, true, false, true, true, true, false, false, false, false] rfl rfl (take_ofW HT_.out HW_.out (by kernel_rfl)) (fun _ _ _ h => h) (Or.inl ⟨by rfl, ?_⟩) hHeld ?_ ?_
                    rotate_left
                    · rintro w' ⟨s0, s1⟩
                      go_simp
                      with_reducible rfl
                    rotate_left
                    · simp only [Act.put, List.setIfInBounds_toArray, List.set_cons_zero, List.set_cons_succ, i64_w, i32_w]
                      rfl
                    refine pure_ (i := 9) (N := some 29) (v := ?_) (a' := ?_) #[true, true, true, true, true, true, true, true, true, true, true, true, true, false, false, false, false] rfl rfl (any_of HT_.out (by kernel_rfl)) (fun _ _ _ h => h) (Or.inl ⟨by rfl, ?_⟩) ?_ ?_
                    rotate_left
                    · intro w'
                      go_simp
                      with_reducible rfl
                    rotate_left
                    · simp only [Act.put, List.setIfInBounds_toArray, List.set_cons_zero, List.set_cons_succ, i64_w, i32_w]
                      rfl
                    refine pure_ (i := 13) (N := some 33) (v := ?_) (a' := ?_) #[true, true, true, true, true, true, true, true, true, true, true, true, true, true, false, false, false] rfl rfl (any_of HT_.out (by kernel_rfl)) (fun _ _ _ h => h) (Or.inl ⟨by rfl, ?_⟩) ?_ ?_
                    rotate_left
                    · intro w'
                      go_simp
                      with_reducible rfl
                    rotate_left
                    · simp only [Act.put, List.setIfInBounds_toArray, List.set_cons_zero, List.set_cons_succ, i64_w, i32_w]
                      rfl
                    refine pure_ (i := 14) (N := some 34) (v := ?_) (a' := ?_) #[true, true, true, true, true, true, true, true, true, true, true, true, true, true, true, false, false] rfl rfl (any_of HT_.out (by kernel_rfl)) (fun _ _ _ h => h) (Or.inl ⟨by rfl, ?_⟩) ?_ ?_
                    rotate_left
                    · intro w'
                      go_simp
                      with_reducible rfl
                    rotate_left
                    · simp only [Act.put, List.setIfInBounds_toArray, List.set_cons_zero, List.set_cons_succ, i64_w, i32_w]
                      rfl
                    refine pure_ (i := 15) (N := some 35) (v := ?_) (a' := ?_) #[true, true, true, true, true, true, true, true, true, true, true, true, true, true, true, true, false] rfl rfl (any_of HT_.out (by kernel_rfl)) (fun _ _ _ h => h) (Or.inl ⟨by rfl, ?_⟩) ?_ ?_
                    rotate_left
                    · intro w'
                      go_simp
                      with_reducible rfl
                    rotate_left
                    · simp only [Act.put, List.setIfInBounds_toArray, List.set_cons_zero, List.set_cons_succ, i64_w, i32_w]
                      rfl
                    refine last_ (i := 16) (N := none) #[true, true, true, true, true, true, true, true, true, true, true, true, true, true, true, true, true] rfl rfl (one_of HT_.out (by kernel_rfl)) (by decide) (fun K hK => ?_)
                    refine skip_ (w1 := ?_) (by rfl) rfl ?_ ?_
                    rotate_left
                    · go_simp
                      rfl
                    refine hK.out _ _ ?_
                    clear hK K
                    refine done_ (done_of HT_.out (by kernel_rfl)) ?_
                    try go_wp2
                    go_roundg k1
                    case measure => have := HK1.out; omega
                    case rel => exact ⟨(y320), (wrap64 (x4_1 + 1)), (by first | rfl | (simp; done) | (simp [*]; done)), H', ⟨by have := HK1.out; omega⟩, ⟨by (with_reducible repeat (first | apply Kd.V_alloc | apply Kd.V_drewN | apply Kd.V_drew)); exact Kd.V_mono (Kd.V_far (p := ⟨go16, ((ji9) : Int).toNat, none⟩) (Kd.V_mono HO_0.out (fun k_ hk => (⟨hk, fun e_ => hk.2 (by rw [e_]; rfl)⟩ : _ ∧ k_ ≠ go16))) (fun _ hk => hk.2) (.int .u64 (Go.bits .or .u64 (rd y315 (ji9)) (ji15)))) (fun _ hk => hk.1.2)⟩, ⟨by (with_reducible repeat (first | apply Kd.R_alloc | apply Kd.R_drewN | apply Kd.R_drew)); exact HQ21.out⟩, ⟨by repeat (first | (with_reducible first | exact HB.out | apply below_alloc | apply pw_below_drewN | apply below_drew1 | refine below_set ?_ GB16.out) | exact HB.out)⟩⟩
                  · rw [if_neg c14] at H
                    exact absurd H (by simp)
                · rw [if_neg c12] at H
                  exact absurd H (by simp)
              · rw [if_neg c11] at H
                exact absurd H (by simp)
            · rw [if_neg c10] at H
              exact absurd H (by simp)
          · rw [if_neg c8] at H
            exact absurd H (by simp)
        · rw [if_neg c7] at H
          have c7b0 : ((Int.tmod x4_1 4) == 0) = false := beq_eq_false_iff_ne.mpr c7
          have c7b1 : ((Int.tmod x4_1 4) != 0) = true := bne_iff_ne.mpr c7
          obtain ⟨ji22, hji22⟩ : ∃ j_ : Int, (wrap64 (Int.tdiv x4_1 4)) = j_ := ⟨_, rfl⟩
          replace H : (if 0 ≤ (ji22) then (if (ji22) < (x3_1.length : Int) then (if 0 ≤ x4_1 then (if 0 ≤ (wrap64 (16 * (Int.tmod x4_1 4))) then (quipuref01_Out.l0 k1 t309 (x3_1.set ((ji22) : Int).toNat (Go.bits .or .u64 (rd x3_1 (ji22)) (shl .u64 (IntKind.u64.wrap (rd t309 x4_1)) (wrap64 (16 * (Int.tmod x4_1 4)))))) (wrap64 (x4_1 + 1))) else (none)) else (none)) else (none)) else (none)) = some r := by first | (rw [hji22] at H; exact H) | (simp only [hji22] at H ⊢; exact H)
          have hji22w : (IntKind.i64.wrap (Int.tdiv x4_1 4)) = ji22 := (i64_w _).trans hji22
          by_cases c23 : 0 ≤ (ji22)
          · rw [if_pos c23] at H
            have c23b0 : decide (0 ≤ (ji22)) = true := decide_eq_true c23
            clear c23
            by_cases c24 : (ji22) < (x3_1.length : Int)
            · rw [if_pos c24] at H
              have c24b0 : decide ((ji22) < (x3_1.length : Int)) = true := decide_eq_true c24
              clear c24
              by_cases c25 : 0 ≤ x4_1
              · rw [if_pos c25] at H
                have c25b0 : decide (0 ≤ x4_1) = true := decide_eq_true c25
                clear c25
                obtain ⟨ji26, hji26⟩ : ∃ j_ : Int, (wrap64 (16 * (Int.tmod x4_1 4))) = j_ := ⟨_, rfl⟩
                replace H : (if 0 ≤ (ji26) then (quipuref01_Out.l0 k1 t309 (x3_1.set ((ji22) : Int).toNat (Go.bits .or .u64 (rd x3_1 (ji22)) (shl .u64 (IntKind.u64.wrap (rd t309 x4_1)) (ji26)))) (wrap64 (x4_1 + 1))) else (none)) = some r := by first | (rw [hji26] at H; exact H) | (simp only [hji26] at H ⊢; exact H)
                have hji26w : (IntKind.i64.wrap (16 * (Int.tmod x4_1 4))) = ji26 := (i64_w _).trans hji26
                by_cases c27 : 0 ≤ (ji26)
                · rw [if_pos c27] at H
                  have c27b0 := eq_true c27
                  have c27b1 : decide (0 ≤ (ji26)) = true := decide_eq_true c27
                  clear c27
                  obtain ⟨ji28, hji28⟩ : ∃ j_ : Int, (shl .u64 (IntKind.u64.wrap (rd t309 x4_1)) (ji26)) = j_ := ⟨_, rfl⟩
                  replace H : (quipuref01_Out.l0 k1 t309 (x3_1.set ((ji22) : Int).toNat (Go.bits .or .u64 (rd x3_1 (ji22)) (ji28))) (wrap64 (x4_1 + 1))) = some r := by first | (rw [hji28] at H; exact H) | (simp only [hji28] at H ⊢; exact H)
                  have hji28_ : (IntKind.u64.wrap ((IntKind.u64.wrap (rd t309 x4_1)) * 2 ^ min (ji26).toNat 64)) = ji28 := hji28
                  have hji28z : (ji26) ≤ 64 → (IntKind.u64.wrap ((IntKind.u64.wrap (rd t309 x4_1)) * 2 ^ (ji26).toNat)) = ji28 := shl_small hji28
                  obtain ⟨y323, hy323⟩ : ∃ y_ : List Int, y_ = (x3_1.set ((ji22) : Int).toNat (Go.bits .or .u64 (rd x3_1 (ji22)) (ji28))) := ⟨_, rfl⟩
                  replace H : (quipuref01_Out.l0 k1 t309 y323 (wrap64 (x4_1 + 1))) = some r := by first | (rw [hy323]; with_reducible exact H) | (have H2_ := (Option.bind_some _ _).symm.trans H; rw [hy323]; with_reducible exact H2_) | (have H2_ := (Option.bind_some _ _).symm.trans H; with_reducible exact H2_) | with_reducible exact H | (rw [hy323]; exact H) | exact H
                  have Ny323 := Aside0.mk hy323
                  clear hy323
                  have H' := Aside0.mk H
                  clear H
                  obtain ⟨Ao30, co30, eo30⟩ := Kd.V_slice HO_0.out
                  subst eo30
                  try go_wp2
                  have n0_ := Aside0.mk (Kd.V_drew HO_0.out)
                  have n1_ := Aside0.mk (Kd.R_drew HO_3.out)
                  have n2_ := Aside0.mk (below_drew1 HB.out)
                  clear HO_0
                  clear HO_3
                  clear HB
                  have HO_0 := n0_
                  have HO_3 := n1_
                  have HB := n2_
                  clear n0_ n1_ n2_
                  obtain ⟨Ao32, co32, eo32⟩ := Kd.R_slice HO_3.out
                  (first | subst eo32 | (injection eo32 with f1_ f2_ f3_; have f4_ := f1_.symm; have f5_ := f3_.symm; clear f1_ f2_ f3_; subst f4_; subst f5_))
                  have p321 : 0 ≤ ((ji22) : Int) := of_decide_eq_true (by first | (with_reducible assumption) | assumption)
                  have q321 : (ji22) < (x3_1.length : Int) := of_decide_eq_true (by first | (with_reducible assumption) | assumption)
                  obtain ⟨ad321, e321, hx321_0⟩ := Kd.at_int (Kd.R_reads' HO_3.out).2.2 (ji22) p321 q321
                  cases e321
                  replace p321 := eq_true p321
                  replace q321 := eq_true q321
                  have p322 : 0 ≤ (x4_1 : Int) := of_decide_eq_true (by first | (with_reducible assumption) | assumption)
                  have q322 : x4_1 < (t309.length : Int) := of_decide_eq_true (by first | (with_reducible assumption) | assumption)
                  obtain ⟨ad322, e322, hx322_0⟩ := Kd.at_int (Kd.V_reads' HO_0.out).2.2 x4_1 p322 q322
                  cases e322
                  replace p322 := eq_true p322
                  replace q322 := eq_true q322
                  have p29 : 0 ≤ ((ji22) : Int) := of_decide_eq_true (by first | (with_reducible assumption) | assumption)
                  have q29 : ((ji22) : Int) < ((x3_1.length : Int) : Int) := of_decide_eq_true (by first | (with_reducible assumption) | assumption)
                  obtain ⟨go29, co29, eo29, gb29, gl29, cl29, HG29⟩ := Kd.R_form HO_3.out (by omega)
                  (first | cases eo29 | (injection eo29 with ea_ en_ ec_; (first | subst ea_ | (injection ea_ with ea_; subst ea_)); subst ec_; clear en_))
                  have GB29 := Aside0.mk gb29
                  have GG29 := Aside0.mk HG29
                  clear gb29 gl29 HG29
                  (first | simp only [add_plain] at hx321_0 | skip)
                  obtain ⟨hx29_0, hf29_0⟩ := Kd.R_celln 0 HO_3.out ((ji22) : Int) p29 q29
                  replace p29 := eq_true p29
                  replace q29 := eq_true q29
                  have HP33 := Kd.R_putn HO_3.out ((ji22) : Int) (Go.bits .or .u64 (rd x3_1 (ji22)) (ji28))
                  rw [← Ny323.out] at HP33
                  have HQ33 := Aside0.mk HP33
                  clear HP33
                  refine start_ (n := 17) (S := fun w' => w'.cell? ⟨go29, ((ji22)).toNat, none⟩ = some (.int .u64 (rd x3_1 (ji22))) ∧ w'.cell? (ad322.add (x4_1).toNat) = some (.int .u32 (rd t309 x4_1))) (ds := [16]) #[false, false, false, false, false, false, false, false, false, false, false, false, false, false, false, false, false] (by kernel_rfl) rfl rfl ⟨hx321_0, hx322_0⟩ (fun hHeld => ?_); refine with_tabW quipuref01_Out.tab8 quipuref01_Out.bits8 (fun HT_ HW_ => ?_)
                  generalize wr.drew = w31 at HO_0 HO_3 HB GG29 HQ33 hf29_0 hx29_0 hx321_0 hx322_0 hHeld ⊢
                  refine pure_ (i := 0) (N := some 20) (v := ?_) (a' := ?_) #[true, false, false, false, false, false, false, false, false, false, false, false, false, false, false, false, false] rfl rfl (any_of HT_.out (by kernel_rfl)) (fun _ _ _ h => h) (Or.inl ⟨by rfl, ?_⟩) ?_ ?_
                  rotate_left
                  · intro w'
                    go_simp
                    with_reducible rfl
                  rotate_left
                  · simp only [Act.put, List.setIfInBounds_toArray, List.set_cons_zero, List.set_cons_succ, i64_w, i32_w]
                    rfl
                  refine pure_ (i := 1) (N := some 21) (v := ?_) (a' := ?_) #[true, true, false, false, false, false, false, false, false, false, false, false, false, false, false, false, false] rfl rfl (any_of HT_.out (by kernel_rfl)) (fun _ _ _ h => h) (Or.inl ⟨by rfl, ?_⟩) ?_ ?_
                  rotate_left
                  · intro w'
                    go_simp
                    with_reducible rfl
                  rotate_left
                  · simp only [Act.put, List.setIfInBounds_toArray, List.set_cons_zero, List.set_cons_succ, i64_w, i32_w]
                    rfl
                  refine pure_ (i := 2) (N := some 22) (v := ?_) (a' := ?_) #[true, true, true, false, false, false, false, false, false, false, false, false, false, false, false, false, false] rfl rfl (any_of HT_.out (by kernel_rfl)) (fun _ _ _ h => h) (Or.inl ⟨by rfl, ?_⟩) ?_ ?_
                  rotate_left
                  · intro w'
                    go_simp
                    with_reducible rfl
                  rotate_left
                  · simp only [Act.put, List.setIfInBounds_toArray, List.set_cons_zero, List.set_cons_succ, i64_w, i32_w]
                    rfl
                  refine pure_ (i := 3) (N := some 23) (v := ?_) (a' := ?_) #[true, true, true, true, false, false, false, false, false, false, false, false, false, false, false, false, false] rfl rfl (any_of HT_.out (by kernel_rfl)) (fun _ _ _ h => h) (Or.inl ⟨by rfl, ?_⟩) ?_ ?_
                  rotate_left
                  · intro w'
                    go_simp
                    with_reducible rfl
                  rotate_left
                  · simp only [Act.put, List.setIfInBounds_toArray, List.set_cons_zero, List.set_cons_succ, i64_w, i32_w]
                    rfl
                  refine pure_ (i := 5) (N := some 25) (v := ?_) (a' := ?_) #[true, true, true, true, false, true, false, false, false, false, false, false, false, false, false, false, false] rfl rfl (any_of HT_.out (by kernel_rfl)) (fun _ _ _ h => h) (Or.inl ⟨by rfl, ?_⟩) ?_ ?_
                  rotate_left
                  · intro w'
                    go_simp
                    with_reducible rfl
                  rotate_left
                  · simp only [Act.put, List.setIfInBounds_toArray, List.set_cons_zero, List.set_cons_succ, i64_w, i32_w]
                    rfl
                  refine pure_ (i := 6) (N := some 26) (v := ?_) (a' := ?_) #[true, true, true, true, false, true, true, false, false, false, false, false, false, false, false, false, false] rfl rfl (any_of HT_.out (by kernel_rfl)) (fun _ _ _ h => h) (Or.inl ⟨by rfl, ?_⟩) ?_ ?_
                  rotate_left
                  · intro w'
                    go_simp
                    with_reducible rfl
                  rotate_left
                  · simp only [Act.put, List.setIfInBounds_toArray, List.set_cons_zero, List.set_cons_succ, i64_w, i32_w]
                    rfl
                  refine pure_ (i := 7) (N := some 27) (v := ?_) (a' := ?_) #[true, true, true, true, false, true, true, true, false, false, false, false, false, false, false, false, false] rfl rfl (any_of HT_.out (by kernel_rfl)) (fun _ _ _ h => h) (Or.inl ⟨by rfl, ?_⟩) ?_ ?_
                  rotate_left
                  · intro w'
                    go_simp
                    with_reducible rfl
                  rotate_left
                  · simp only [Act.put, List.setIfInBounds_toArray, List.set_cons_zero, List.set_cons_succ, i64_w, i32_w]
                    rfl
                  refine pure_ (i := 10) (N := some 30) (v := ?_) (a' := ?_) #[true, true, true, true, false, true, true, true, false, false, true, false, false, false, false, false, false] rfl rfl (any_of HT_.out (by kernel_rfl)) (fun _ _ _ h => h) (Or.inl ⟨by rfl, ?_⟩) ?_ ?_
                  rotate_left
                  · intro w'
                    go_simp
                    with_reducible rfl
                  rotate_left
                  · simp only [Act.put, List.setIfInBounds_toArray, List.set_cons_zero, List.set_cons_succ, i64_w, i32_w]
                    rfl
                  refine pure_ (i := 11) (N := some 31) (v := ?_) (a' := ?_) #[true, true, true, true, false, true, true, true, false, false, true, true, false, false, false, false, false] rfl rfl (any_of HT_.out (by kernel_rfl)) (fun _ _ _ h => h) (Or.inl ⟨by rfl, ?_⟩) ?_ ?_
                  rotate_left
                  · intro w'
                    go_simp
                    with_reducible rfl
                  rotate_left
                  · simp only [Act.put, List.setIfInBounds_toArray, List.set_cons_zero, List.set_cons_succ, i64_w, i32_w]
                    rfl
                  refine pure_ (i := 12) (N := some 32) (v := ?_) (a' := ?_) #[true, true, true, true, false, true, true, true, false, false, true, true, true, false, false, false, false] rfl rfl (any_of HT_.out (by kernel_rfl)) (fun _ _ _ h => h) (Or.inl ⟨by rfl, ?_⟩) ?_ ?_
                  rotate_left
                  · intro w'
                    go_simp
                    with_reducible rfl
                  rotate_left
                  · simp only [Act.put, List.setIfInBounds_toArray, List.set_cons_zero, List.set_cons_succ, i64_w, i32_w]
                    rfl
                  refine take_ (i := 4) (N := some 24) (v := ?_) (a' := ?_) #[true, true, true, true, true, true, true, true, false, false, true, true, true, false, false, false, false] rfl rfl (take_ofW HT_.out HW_.out (by kernel_rfl)) (fun _ _ _ h => h) (Or.inl ⟨by rfl, ?_⟩) hHeld ?_ ?_
                  rotate_left
                  · rintro w' ⟨s0, s1⟩
                    go_simp
                    with_reducible rfl
                  rotate_left
                  · simp only [Act.put, List.setIfInBounds_toArray, List.set_cons_zero, List.set_cons_succ, i64_w, i32_w]
                    rfl
                  refine take_ (i := 8) (N := some 28) (v := ?_) (a' := ?_) #[true, true, true, true, true, true, true, true, true, false, true, true, true, false, false, false, false] rfl rfl (take_ofW HT_.out HW_.out (by kernel_rfl)) (fun _ _ _ h => h) (Or.inl ⟨by rfl, ?_⟩) hHeld ?_ ?_
                  rotate_left
                  · rintro w' ⟨s0, s1⟩
                    go_simp
                    with_reducible rfl
                  rotate_left
                  · simp only [Act.put, List.setIfInBounds_toArray, List.set_cons_zero, List.set_cons_succ, i64_w, i32_w]
                    rfl
                  refine pure_ (i := 9) (N := some 29) (v := ?_) (a' := ?_) #[true, true, true, true, true, true, true, true, true, true, true, true, true, false, false, false, false] rfl rfl (any_of HT_.out (by kernel_rfl)) (fun _ _ _ h => h) (Or.inl ⟨by rfl, ?_⟩) ?_ ?_
                  rotate_left
                  · intro w'
                    go_simp
                    with_reducible rfl
                  rotate_left
                  · simp only [Act.put, List.setIfInBounds_toArray, List.set_cons_zero, List.set_cons_succ, i64_w, i32_w]
                    rfl
                  refine pure_ (i := 13) (N := some 33) (v := ?_) (a' := ?_) #[true, true, true, true, true, true, true, true, true, true, true, true, true, true, false, false, false] rfl rfl (any_of HT_.out (by kernel_rfl)) (fun _ _ _ h => h) (Or.inl ⟨by rfl, ?_⟩) ?_ ?_
                  rotate_left
                  · intro w'
                    go_simp
                    with_reducible rfl
                  rotate_left
                  · simp only [Act.put, List.setIfInBounds_toArray, List.set_cons_zero, List.set_cons_succ, i64_w, i32_w]
                    rfl
                  refine pure_ (i := 14) (N := some 34) (v := ?_) (a' := ?_) #[true, true, true, true, true, true, true, true, true, true, true, true, true, true, true, false, false] rfl rfl (any_of HT_.out (by kernel_rfl)) (fun _ _ _ h => h) (Or.inl ⟨by rfl, ?_⟩) ?_ ?_
                  rotate_left
                  · intro w'
                    go_simp
                    with_reducible rfl
                  rotate_left
                  · simp only [Act.put, List.setIfInBounds_toArray, List.set_cons_zero, List.set_cons_succ, i64_w, i32_w]
                    rfl
                  refine pure_ (i := 15) (N := some 35) (v := ?_) (a' := ?_) #[true, true, true, true, true, true, true, true, true, true, true, true, true, true, true, true, false] rfl rfl (any_of HT_.out (by kernel_rfl)) (fun _ _ _ h => h) (Or.inl ⟨by rfl, ?_⟩) ?_ ?_
                  rotate_left
                  · intro w'
                    go_simp
                    with_reducible rfl
                  rotate_left
                  · simp only [Act.put, List.setIfInBounds_toArray, List.set_cons_zero, List.set_cons_succ, i64_w, i32_w]
                    rfl
                  refine last_ (i := 16) (N := none) #[true, true, true, true, true, true, true, true, true, true, true, true, true, true, true, true, true] rfl rfl (one_of HT_.out (by kernel_rfl)) (by decide) (fun K hK => ?_)
                  refine skip_ (w1 := ?_) (by rfl) rfl ?_ ?_
                  rotate_left
                  · go_simp
                    rfl
                  refine hK.out _ _ ?_
                  clear hK K
                  refine done_ (done_of HT_.out (by kernel_rfl)) ?_
                  try go_wp2
                  go_roundg k1
                  case measure => have := HK1.out; omega
                  case rel => exact ⟨(y323), (wrap64 (x4_1 + 1)), (by first | rfl | (simp; done) | (simp [*]; done)), H', ⟨by have := HK1.out; omega⟩, ⟨by (with_reducible repeat (first | apply Kd.V_alloc | apply Kd.V_drewN | apply Kd.V_drew)); exact Kd.V_mono (Kd.V_far (p := ⟨go29, ((ji22) : Int).toNat, none⟩) (Kd.V_mono HO_0.out (fun k_ hk => (⟨hk, fun e_ => hk (by rw [e_]; rfl)⟩ : _ ∧ k_ ≠ go29))) (fun _ hk => hk.2) (.int .u64 (Go.bits .or .u64 (rd x3_1 (ji22)) (ji28)))) (fun _ hk => hk.1)⟩, ⟨by (with_reducible repeat (first | apply Kd.R_alloc | apply Kd.R_drewN | apply Kd.R_drew)); exact HQ33.out⟩, ⟨by repeat (first | (with_reducible first | exact HB.out | apply below_alloc | apply pw_below_drewN | apply below_drew1 | refine below_set ?_ GB29.out) | exact HB.out)⟩⟩
                · rw [if_neg c27] at H
                  exact absurd H (by simp)
              · rw [if_neg c25] at H
                exact absurd H (by simp)
            · rw [if_neg c24] at H
              exact absurd H (by simp)
          · rw [if_neg c23] at H
            exact absurd H (by simp)
      · rw [if_neg c6] at H
        have c6b0 : decide (x4_1 < (t309.length : Int)) = false := decide_eq_false c6
        clear c6
        obtain rfl := Option.some.inj H
        obtain ⟨Ao34, co34, eo34⟩ := Kd.V_slice HO_0.out
        subst eo34
        go_wp2
        go_ret
        exact ⟨_, by first | rfl | (simp [errW_none, errW_some] <;> rfl) | (simp [*, errW_none, errW_some] <;> rfl), by (with_reducible repeat (first | apply Kd.R_alloc | apply Kd.R_drewN | apply Kd.R_drew)); exact HO_3.out, by repeat (first | (with_reducible first | exact HB.out | apply below_alloc | apply pw_below_drewN | apply below_drew1) | exact HB.out)⟩

/-! ### quipuref01_Add: function 18 (given) -/
/-- What the document's 'trim' answers. -/
theorem rtrim_loop (x : List Int) (hx : Dig x) (hb : x.length ≤ 9223372036854775806) (k : Nat) : ∀ m, m ≤ x.length → quipuref01_trim.l0 (k + m + 1) x m = some (digs (dval (x.take m)))
  | 0, _ => by
    simp only [quipuref01_trim.l0]
    rw [if_neg (by omega), if_pos (by omega), if_pos (by omega)]
    rfl
  | m + 1, hm => by
    obtain ⟨K, hK⟩ : ∃ K, K = k + m + 1 := ⟨_, rfl⟩
    rw [show k + (m + 1) + 1 = K + 1 by omega]
    simp only [quipuref01_trim.l0]
    have e1 : wrap64 (((m + 1 : Nat) : Int) - 1) = (m : Int) := by unfold wrap64; omega
    have e2 : x.take (m + 1) = x.take m ++ [rd x m] := by
      rw [List.take_add_one, List.getElem?_eq_getElem (by omega)]
      simp [rd, List.getD_eq_getElem?_getD, List.getElem?_eq_getElem (show m < x.length by omega)]
    have hxm : 0 ≤ rd x m ∧ rd x m < 65536 := hx.getD _
    rw [if_pos (by omega), e1, if_pos (by omega), if_pos (by omega)]
    by_cases c : rd x m = 0
    · rw [if_pos c, hK, rtrim_loop x hx hb k m (by omega), e2, c, dval_snoc0]
    · rw [if_neg c, if_pos (by omega), if_pos (by omega)]
      rw [show (((m + 1 : Nat) : Int)).toNat = m + 1 by omega, e2, digs_dval_snoc _ _ (hx.take m) (by omega) hxm.2]
theorem rtrim_eq (x : List Int) (hx : Dig x) (hb : x.length ≤ 9223372036854775806) (k : Nat) : quipuref01_trim.f (k + x.length + 1) x = some (digs (dval x)) := by
  have h := rtrim_loop x hx hb k x.length (Nat.le_refl _)
  rw [List.take_length] at h
  exact h
theorem and_u32 (x : Int) (h : 0 ≤ x ∧ x < 4294967296) : Go.bits .and .u32 x 65535 = x % 65536 := by
  obtain ⟨a, rfl⟩ : ∃ a : Nat, x = a := ⟨x.toNat, by omega⟩
  have ha : a < 2 ^ 32 := by omega
  have e1 : (65535 : Int) = ((2 ^ 16 - 1 : Nat) : Int) := by decide
  simp only [Go.bits]
  rw [e1, BitVec.ofInt_natCast, BitVec.ofInt_natCast, BitVec.toNat_and, BitVec.toNat_ofNat, BitVec.toNat_ofNat]
  have hb : IntKind.u32.bits = 32 := rfl
  rw [hb, Nat.mod_eq_of_lt ha, Nat.mod_eq_of_lt (by decide), Nat.and_two_pow_sub_one_eq_mod]
  simp [IntKind.wrap, IntKind.signed, IntKind.bits]
  omega
theorem dadd_step (l0 l1 xs : List Int) (i : Nat) (cr s c : Int) (hx : xs.length = i) (h : dval xs + 65536 ^ i * cr.toNat = dval (l0.take i) + dval (l1.take i))
    (h2 : s.toNat + 65536 * c.toNat = (l0.getD i 0).toNat + (l1.getD i 0).toNat + cr.toNat) :
    dval (xs ++ [s]) + 65536 ^ (i + 1) * c.toNat = dval (l0.take (i + 1)) + dval (l1.take (i + 1)) := by
  rw [dval_app, dval_one, hx, dtake_getD, dtake_getD, Nat.pow_succ, Nat.mul_assoc]
  have h3 : 65536 ^ i * (s.toNat + 65536 * c.toNat) = 65536 ^ i * ((l0.getD i 0).toNat + (l1.getD i 0).toNat + cr.toNat) := by rw [h2]
  rw [Nat.mul_add, Nat.mul_add, Nat.mul_add] at h3
  generalize 65536 ^ i = P at *
  generalize P * s.toNat = q1 at *
  generalize P * (65536 * c.toNat) = q2 at *
  generalize P * (l0.getD i 0).toNat = q3 at *
  generalize P * (l1.getD i 0).toNat = q4 at *
  generalize P * cr.toNat = q5 at *
  omega
def quipuref01_Add.f (a0 a1 : List Int) : Option (List Int) := if (wfd a0 && wfd a1) = true then some (digs (dval a0 + dval a1)) else none
set_option maxHeartbeats 8000000 in
set_option maxRecDepth 100000 in
theorem quipuref01_Add.calls (A0 : Option Addr) (c0 : Nat) (l0 : List Int) (A1 : Option Addr) (c1 : Nat) (l1 : List Int) (r : List Int) (w : World) (hr0 : Kd.C (Kd.int .u32) w A0 l0.length l0) (hc0 : l0.length ≤ c0) (hr1 : Kd.C (Kd.int .u32) w A1 l1.length l1) (hc1 : l1.length ≤ c1) (h : quipuref01_Add.f l0 l1 = some r) :
    Calls Try.prog 18 #[.slice A0 l0.length c0, .slice A1 l1.length c1] w fun e w' => ∃ v0_ : Value, e = .returned (v0_) ∧ Kd.V (Kd.int .u32) 55 w' w.heap.size (fun k_ => (w.heap.size ≤ k_)) v0_ r ∧ Below w.heap.size w w' := by
  unfold quipuref01_Add.f at h
  by_cases hw : (wfd l0 && wfd l1) = true
  case neg => rw [if_neg hw] at h; exact absurd h (by simp)
  rw [if_pos hw] at h
  obtain rfl := Option.some.inj h
  rw [Bool.and_eq_true] at hw
  have h0 := wfd_out hw.1
  have h1 := wfd_out hw.2
  have HR0 := Aside0.mk hr0
  have HR1 := Aside0.mk hr1
  have HL := Aside0.mk (And.intro h0.1 h1.1)
  have HN := Aside0.mk (And.intro h0.2 h1.2)
  clear hr0 hc0 hr1 hc1 h0 h1 hw h
  have HB := Aside0.mk (Below.refl w.heap.size w)
  obtain ⟨n, hn⟩ : ∃ n : Nat, l0.length ≤ n ∧ l1.length ≤ n ∧ (n = l0.length ∨ n = l1.length) := by
    rcases Nat.le_total l0.length l1.length with h | h
    · exact ⟨l1.length, by omega, by omega, by omega⟩
    · exact ⟨l0.length, by omega, by omega, by omega⟩
  have HM := Aside0.mk (show (l0.length ≤ n ∧ l1.length ≤ n ∧ (n = l0.length ∨ n = l1.length)) ∧ n ≤ 8796093022208 by have := HN.out; omega)
  clear hn
  go_enter Try.func18, Try.ntmps18
  go_wp2_with (first | ((with_reducible refine gate_dst (N := 8) rfl ?_); refine Kd.R_lit (Kd.int .u32) _ 55 ?hg (N := 8) ?hd (xs := ([] : List Int)) (inner := []) (ok := fun _ => True) (okp := fun _ => True) ?hr ?hp (fun _ hk => hk) trivial (Below.refl _ _) (Nat.le_refl _) (by simp) ?_; (case hd => rfl); (case hg => rfl); (case hr => first | (go_simp; done) | (go_simp; rfl)); (case hp => exact (Reps.none _ _)); intro v113 w2 ho3 hb hg_ hnew_; clear hg_ hnew_; have n0_ := Aside0.mk (Kd.R_lower (Kd.R_newM (M := fun k_ => (w.heap.size ≤ k_)) ho3 (below_size (by repeat (first | (with_reducible first | exact HB.out | apply below_alloc | apply pw_below_drewN | apply below_drew1) | exact HB.out))) (fun k_ h_ => h_)) (below_size (by repeat (first | (with_reducible first | exact HB.out | apply below_alloc | apply pw_below_drewN | apply below_drew1) | exact HB.out)))); have n1_ := Aside0.mk (below_step (by repeat (first | (with_reducible first | exact HB.out | apply below_alloc | apply pw_below_drewN | apply below_drew1) | exact HB.out)) hb); clear HB; have HO := n0_; have HB := n1_; clear n0_ n1_; clear hb ho3))
  go_loopg [5, 6, 7] n (fun gk v5 v6 v7 wr => ∃ (xs : List Int) (cr i : Int), v6 = .int .u32 cr ∧ v7 = .int .i64 i ∧ Aside0 (0 ≤ i ∧ (n : Int) - i = gk ∧ xs.length = i.toNat ∧ 0 ≤ cr ∧ cr ≤ 1) ∧ Aside0 (Dig xs) ∧ Aside0 (dval xs + 65536 ^ i.toNat * cr.toNat = dval (l0.take i.toNat) + dval (l1.take i.toNat)) ∧ Aside0 (Kd.R (Kd.int .u32) 55 wr w.heap.size (fun k_ => (w.heap.size ≤ k_)) v5 xs) ∧ Aside0 (Below w.heap.size w wr))
  case atStart => exact ⟨[], 0, 0, rfl, rfl, ⟨by omega, by omega, rfl, by decide, by decide⟩, ⟨Dig.nil⟩, ⟨by simp [dval]⟩, ⟨by (with_reducible repeat (first | apply Kd.R_alloc | apply Kd.R_drewN | apply Kd.R_drew)); exact Kd.R_mono HO.out (fun _ hk => hk.1)⟩, ⟨(by repeat (first | (with_reducible first | exact HB.out | apply below_alloc | apply pw_below_drewN | apply below_drew1) | exact HB.out))⟩⟩
  case round =>
    clear HO HB
    obtain ⟨xs, cr, i, rfl, rfl, HI, HX, HV, HO, HB⟩ := hrel
    have hi0 : 0 ≤ i := HI.out.1
    cases gk with
    | zero =>
      have d1 : decide (i < (l0.length : Int)) = false := decide_eq_false (by have := HI.out; have := HM.out; omega)
      have d2 : decide (i < (l1.length : Int)) = false := decide_eq_false (by have := HI.out; have := HM.out; omega)
      have hin_ : i.toNat = n := by have := HI.out; omega
      have hv := HV.out
      rw [hin_, List.take_of_length_le (by have := HM.out; omega), List.take_of_length_le (by have := HM.out; omega)] at hv
      have htr := rtrim_eq (xs ++ [cr]) (HX.out.app (Dig.one HI.out.2.2.2.1 (by have := HI.out; omega))) (by rw [List.length_append]; simp; have := HI.out; have := HM.out; omega) 0
      rw [dval_app, dval_one, HI.out.2.2.1, hin_, hv] at htr
      have HTR := Aside0.mk htr
      clear htr hv hin_
      go_wp2_with (first | ((with_reducible refine gate_builtin (b := .append) (xs := #[.tmp 48, .tmp 50]) rfl ?_); at_builtin; refine Kd.R_append (Kd.int .u32) (w0 := w) w.heap.size rfl (.tmp 48) (.tmp 50) 24 55 (.int .u32 0) 4 rfl Try.underlying24 info55 rfl (by decide) (by omega) u5 xs (cr) [.int .u32 (cr)] (fun k_ => (w.heap.size ≤ k_)) (fun _ => False) rfl rfl ?aP (fun _ hk => hk.elim) ?aF ?aO ?aB ?aS ?aL ?_; (case aP => exact rfl); (case aB => exact (by repeat (first | (with_reducible first | exact HB.out | apply below_alloc | apply pw_below_drewN | apply below_drew1) | exact HB.out))); (case aF => exact (fun k_ hk => (Nat.le_trans (below_size (by repeat (first | (with_reducible first | exact HB.out | apply below_alloc | apply pw_below_drewN | apply below_drew1) | exact HB.out))) hk))); (case aO => exact (by (with_reducible repeat (first | apply Kd.R_alloc | apply Kd.R_drewN | apply Kd.R_drew)); exact HO.out)); (case aS => exact (below_size (by repeat (first | (with_reducible first | exact HB.out | apply below_alloc | apply pw_below_drewN | apply below_drew1) | exact HB.out)))); (case aL => have := HI.out; have := HM.out; omega); intro v120 w12 ho hb hg hat; have n0_ := Aside0.mk (hb); have n1_ := Aside0.mk (ho); clear HB; clear HO; have HB := n0_; have HO := n1_; clear n0_ n1_; clear ho hb hg hat) | ((with_reducible refine gate_callee (f := 38) rfl ?_); refine goesL_ (some 52) rfl rfl Try.func38 (by kernel_rfl) rfl #[v120] rfl (by (try simp only [List.map_toArray, List.map_cons, List.map_nil]); first | done | rfl) ?_; obtain ⟨Ao, co, eo⟩ := Kd.R_slice HO.out; subst eo; (with_reducible refine (quipuref01_trim.calls _ (fun k_ => some k_ = (.slice Ao (xs ++ [cr]).length co : Value).ownBlock) _ _ (xs ++ [cr]) _ _ ?side1 HTR.out).mono ?_); (case side1 => exact Kd.R_V (Kd.R_tight rfl (by (with_reducible repeat (first | apply Kd.R_alloc | apply Kd.R_drewN | apply Kd.R_drew)); exact HO.out))); rintro e w30 ⟨v151, rfl, ho0, hb⟩; refine ⟨_, rfl, ?_⟩; have n1_ := Aside0.mk (Kd.V_lower (Kd.V_mono (ok' := fun k_ => (w.heap.size ≤ k_)) ho0 (fun k_ hk_ => Or.elim hk_ (fun hs_ => ((HO.out).1 k_ hs_.symm)) (fun hn_ => (Nat.le_trans (below_size (by repeat (first | (with_reducible first | exact HB.out | apply below_alloc | apply pw_below_drewN | apply below_drew1) | exact HB.out))) hn_)))) (below_size (by repeat (first | (with_reducible first | exact HB.out | apply below_alloc | apply pw_below_drewN | apply below_drew1) | exact HB.out)))); have n2_ := Aside0.mk (below_step (by repeat (first | (with_reducible first | exact HB.out | apply below_alloc | apply pw_below_drewN | apply below_drew1) | exact HB.out)) hb); clear HO; clear HB; have HO152 := n1_; have HB := n2_; clear n1_ n2_; (try clear hb); (try clear ho0)))
      go_ret
      exact ⟨_, rfl, by (with_reducible repeat (first | apply Kd.V_alloc | apply Kd.V_drewN | apply Kd.V_drew)); exact HO152.out, (by repeat (first | (with_reducible first | exact HB.out | apply below_alloc | apply pw_below_drewN | apply below_drew1) | exact HB.out))⟩
    | succ gk' =>
      have e1 : wrap64 (i + 1) = i + 1 := by have := HI.out; have := HM.out; unfold wrap64; omega
      by_cases b0 : i < (l0.length : Int)
      · by_cases b1 : i < (l1.length : Int)
        · have d1 : decide (i < (l0.length : Int)) = true := decide_eq_true (by omega)
          have p1 : 0 ≤ i := hi0
          have q1 : i < (l0.length : Int) := by omega
          obtain ⟨ad1, e1, hm1⟩ := Kd.at_int HR0.out i p1 q1
          cases e1
          replace hm1 := (HB.out.cell (World.block_lt_of_cell? w _ hm1)).trans hm1
          obtain ⟨x, hx1⟩ : ∃ x, rd l0 i = x := ⟨_, rfl⟩
          rw [hx1] at hm1
          replace p1 := eq_true p1
          replace q1 := eq_true q1
          have d2 : decide (i < (l1.length : Int)) = true := decide_eq_true (by omega)
          have p2 : 0 ≤ i := hi0
          have q2 : i < (l1.length : Int) := by omega
          obtain ⟨ad2, e2, hm2⟩ := Kd.at_int HR1.out i p2 q2
          cases e2
          replace hm2 := (HB.out.cell (World.block_lt_of_cell? w _ hm2)).trans hm2
          obtain ⟨y, hx2⟩ : ∃ y, rd l1 i = y := ⟨_, rfl⟩
          rw [hx2] at hm2
          replace p2 := eq_true p2
          replace q2 := eq_true q2
          have hgx : (0 : Int) ≤ x ∧ (x : Int) < 65536 := by have h_ := HL.out.1.getD i.toNat; rw [show l0.getD i.toNat 0 = x from hx1] at h_; exact h_
          have hgy : (0 : Int) ≤ y ∧ (y : Int) < 65536 := by have h_ := HL.out.2.getD i.toNat; rw [show l1.getD i.toNat 0 = y from hx2] at h_; exact h_
          have hS := Aside0.mk (show (cr + x + y) % 4294967296 = cr + x + y by have := HI.out; omega)
          have hB_ := Aside0.mk (show Go.bits .and .u32 ((cr + x + y) % 4294967296) 65535 = (cr + x + y) % 65536 by rw [and_u32 _ (by have := HI.out; omega), hS.out])
          have hV1 := Aside0.mk (dadd_step l0 l1 xs i.toNat cr ((cr + x + y) % 65536) ((cr + x + y) / 65536) HI.out.2.2.1 HV.out (by
            rw [show l0.getD i.toNat 0 = x from hx1, show l1.getD i.toNat 0 = y from hx2]; have := HI.out; omega))
          have hG := Aside0.mk (And.intro hgx hgy)
          clear hx1 hx2 hgx hgy
          go_wp2_with (first | ((with_reducible refine gate_builtin (b := .append) (xs := #[.tmp 41, .tmp 44]) rfl ?_); at_builtin; refine Kd.R_append (Kd.int .u32) (w0 := w) w.heap.size rfl (.tmp 41) (.tmp 44) 24 55 (.int .u32 0) 4 rfl Try.underlying24 info55 rfl (by decide) (by omega) u5 xs (Go.bits .and .u32 ((cr + x + y) % 4294967296) 65535) [.int .u32 (Go.bits .and .u32 ((cr + x + y) % 4294967296) 65535)] (fun k_ => (w.heap.size ≤ k_)) (fun _ => False) rfl rfl ?aP (fun _ hk => hk.elim) ?aF ?aO ?aB ?aS ?aL ?_; (case aP => exact rfl); (case aB => exact (by repeat (first | (with_reducible first | exact HB.out | apply below_alloc | apply pw_below_drewN | apply below_drew1) | exact HB.out))); (case aF => exact (fun k_ hk => (Nat.le_trans (below_size (by repeat (first | (with_reducible first | exact HB.out | apply below_alloc | apply pw_below_drewN | apply below_drew1) | exact HB.out))) hk))); (case aO => exact (by (with_reducible repeat (first | apply Kd.R_alloc | apply Kd.R_drewN | apply Kd.R_drew)); exact HO.out)); (case aS => exact (below_size (by repeat (first | (with_reducible first | exact HB.out | apply below_alloc | apply pw_below_drewN | apply below_drew1) | exact HB.out)))); (case aL => have := HI.out; have := HM.out; omega); intro v120 w12 ho hb hg hat; have n0_ := Aside0.mk (hb); have n1_ := Aside0.mk (ho); clear HB; clear HO; have HB := n0_; have HO := n1_; clear n0_ n1_; clear ho hb hg hat))
          rw [hB_.out] at HO
          go_roundg gk'
          case measure => omega
          case rel => exact ⟨xs ++ [(cr + x + y) % 65536], (cr + x + y) / 65536, i + 1, by first | (with_reducible rfl) | (have := HI.out; have := hG.out; congr 1; omega), by first | (with_reducible rfl) | (rw [e1]), ⟨by have := HI.out; have := hG.out; refine ⟨by omega, by omega, by rw [List.length_append]; simp; omega, by omega, by omega⟩⟩, ⟨HX.out.app (Dig.one (by omega) (by omega))⟩, ⟨by have h := hV1.out; rw [show (i + 1).toNat = i.toNat + 1 by omega]; exact h⟩, ⟨(by (with_reducible repeat (first | apply Kd.R_alloc | apply Kd.R_drewN | apply Kd.R_drew)); exact HO.out)⟩, ⟨(by repeat (first | (with_reducible first | exact HB.out | apply below_alloc | apply pw_below_drewN | apply below_drew1) | exact HB.out))⟩⟩
        · have d1 : decide (i < (l0.length : Int)) = true := decide_eq_true (by omega)
          have p1 : 0 ≤ i := hi0
          have q1 : i < (l0.length : Int) := by omega
          obtain ⟨ad1, e1, hm1⟩ := Kd.at_int HR0.out i p1 q1
          cases e1
          replace hm1 := (HB.out.cell (World.block_lt_of_cell? w _ hm1)).trans hm1
          obtain ⟨x, hx1⟩ : ∃ x, rd l0 i = x := ⟨_, rfl⟩
          rw [hx1] at hm1
          replace p1 := eq_true p1
          replace q1 := eq_true q1
          have d2 : decide (i < (l1.length : Int)) = false := decide_eq_false (by omega)
          have hx2 : rd l1 i = 0 := by rw [show rd l1 i = l1.getD i.toNat 0 from rfl, List.getD_eq_getElem?_getD, List.getElem?_eq_none (by omega)]; rfl
          have hgx : (0 : Int) ≤ x ∧ (x : Int) < 65536 := by have h_ := HL.out.1.getD i.toNat; rw [show l0.getD i.toNat 0 = x from hx1] at h_; exact h_
          have hgy : (0 : Int) ≤ 0 ∧ (0 : Int) < 65536 := by have h_ := HL.out.2.getD i.toNat; rw [show l1.getD i.toNat 0 = 0 from hx2] at h_; exact h_
          have hS := Aside0.mk (show (cr + x) % 4294967296 = cr + x + 0 by have := HI.out; omega)
          have hB_ := Aside0.mk (show Go.bits .and .u32 ((cr + x) % 4294967296) 65535 = (cr + x + 0) % 65536 by rw [and_u32 _ (by have := HI.out; omega), hS.out])
          have hV1 := Aside0.mk (dadd_step l0 l1 xs i.toNat cr ((cr + x + 0) % 65536) ((cr + x + 0) / 65536) HI.out.2.2.1 HV.out (by
            rw [show l0.getD i.toNat 0 = x from hx1, show l1.getD i.toNat 0 = 0 from hx2]; have := HI.out; omega))
          have hG := Aside0.mk (And.intro hgx hgy)
          clear hx1 hx2 hgx hgy
          go_wp2_with (first | ((with_reducible refine gate_builtin (b := .append) (xs := #[.tmp 41, .tmp 44]) rfl ?_); at_builtin; refine Kd.R_append (Kd.int .u32) (w0 := w) w.heap.size rfl (.tmp 41) (.tmp 44) 24 55 (.int .u32 0) 4 rfl Try.underlying24 info55 rfl (by decide) (by omega) u5 xs (Go.bits .and .u32 ((cr + x) % 4294967296) 65535) [.int .u32 (Go.bits .and .u32 ((cr + x) % 4294967296) 65535)] (fun k_ => (w.heap.size ≤ k_)) (fun _ => False) rfl rfl ?aP (fun _ hk => hk.elim) ?aF ?aO ?aB ?aS ?aL ?_; (case aP => exact rfl); (case aB => exact (by repeat (first | (with_reducible first | exact HB.out | apply below_alloc | apply pw_below_drewN | apply below_drew1) | exact HB.out))); (case aF => exact (fun k_ hk => (Nat.le_trans (below_size (by repeat (first | (with_reducible first | exact HB.out | apply below_alloc | apply pw_below_drewN | apply below_drew1) | exact HB.out))) hk))); (case aO => exact (by (with_reducible repeat (first | apply Kd.R_alloc | apply Kd.R_drewN | apply Kd.R_drew)); exact HO.out)); (case aS => exact (below_size (by repeat (first | (with_reducible first | exact HB.out | apply below_alloc | apply pw_below_drewN | apply below_drew1) | exact HB.out)))); (case aL => have := HI.out; have := HM.out; omega); intro v120 w12 ho hb hg hat; have n0_ := Aside0.mk (hb); have n1_ := Aside0.mk (ho); clear HB; clear HO; have HB := n0_; have HO := n1_; clear n0_ n1_; clear ho hb hg hat))
          rw [hB_.out] at HO
          go_roundg gk'
          case measure => omega
          case rel => exact ⟨xs ++ [(cr + x + 0) % 65536], (cr + x + 0) / 65536, i + 1, by first | (with_reducible rfl) | (have := HI.out; have := hG.out; congr 1; omega), by first | (with_reducible rfl) | (rw [e1]), ⟨by have := HI.out; have := hG.out; refine ⟨by omega, by omega, by rw [List.length_append]; simp; omega, by omega, by omega⟩⟩, ⟨HX.out.app (Dig.one (by omega) (by omega))⟩, ⟨by have h := hV1.out; rw [show (i + 1).toNat = i.toNat + 1 by omega]; exact h⟩, ⟨(by (with_reducible repeat (first | apply Kd.R_alloc | apply Kd.R_drewN | apply Kd.R_drew)); exact HO.out)⟩, ⟨(by repeat (first | (with_reducible first | exact HB.out | apply below_alloc | apply pw_below_drewN | apply below_drew1) | exact HB.out))⟩⟩
      · have b1 : i < (l1.length : Int) := by have := HI.out; have := HM.out; omega
        have d1 : decide (i < (l0.length : Int)) = false := decide_eq_false (by omega)
        have hx1 : rd l0 i = 0 := by rw [show rd l0 i = l0.getD i.toNat 0 from rfl, List.getD_eq_getElem?_getD, List.getElem?_eq_none (by omega)]; rfl
        have d2 : decide (i < (l1.length : Int)) = true := decide_eq_true (by omega)
        have p2 : 0 ≤ i := hi0
        have q2 : i < (l1.length : Int) := by omega
        obtain ⟨ad2, e2, hm2⟩ := Kd.at_int HR1.out i p2 q2
        cases e2
        replace hm2 := (HB.out.cell (World.block_lt_of_cell? w _ hm2)).trans hm2
        obtain ⟨y, hx2⟩ : ∃ y, rd l1 i = y := ⟨_, rfl⟩
        rw [hx2] at hm2
        replace p2 := eq_true p2
        replace q2 := eq_true q2
        have hgx : (0 : Int) ≤ 0 ∧ (0 : Int) < 65536 := by have h_ := HL.out.1.getD i.toNat; rw [show l0.getD i.toNat 0 = 0 from hx1] at h_; exact h_
        have hgy : (0 : Int) ≤ y ∧ (y : Int) < 65536 := by have h_ := HL.out.2.getD i.toNat; rw [show l1.getD i.toNat 0 = y from hx2] at h_; exact h_
        have hS := Aside0.mk (show (cr + y) % 4294967296 = cr + 0 + y by have := HI.out; omega)
        have hB_ := Aside0.mk (show Go.bits .and .u32 ((cr + y) % 4294967296) 65535 = (cr + 0 + y) % 65536 by rw [and_u32 _ (by have := HI.out; omega), hS.out])
        have hV1 := Aside0.mk (dadd_step l0 l1 xs i.toNat cr ((cr + 0 + y) % 65536) ((cr + 0 + y) / 65536) HI.out.2.2.1 HV.out (by
          rw [show l0.getD i.toNat 0 = 0 from hx1, show l1.getD i.toNat 0 = y from hx2]; have := HI.out; omega))
        have hG := Aside0.mk (And.intro hgx hgy)
        clear hx1 hx2 hgx hgy
        go_wp2_with (first | ((with_reducible refine gate_builtin (b := .append) (xs := #[.tmp 41, .tmp 44]) rfl ?_); at_builtin; refine Kd.R_append (Kd.int .u32) (w0 := w) w.heap.size rfl (.tmp 41) (.tmp 44) 24 55 (.int .u32 0) 4 rfl Try.underlying24 info55 rfl (by decide) (by omega) u5 xs (Go.bits .and .u32 ((cr + y) % 4294967296) 65535) [.int .u32 (Go.bits .and .u32 ((cr + y) % 4294967296) 65535)] (fun k_ => (w.heap.size ≤ k_)) (fun _ => False) rfl rfl ?aP (fun _ hk => hk.elim) ?aF ?aO ?aB ?aS ?aL ?_; (case aP => exact rfl); (case aB => exact (by repeat (first | (with_reducible first | exact HB.out | apply below_alloc | apply pw_below_drewN | apply below_drew1) | exact HB.out))); (case aF => exact (fun k_ hk => (Nat.le_trans (below_size (by repeat (first | (with_reducible first | exact HB.out | apply below_alloc | apply pw_below_drewN | apply below_drew1) | exact HB.out))) hk))); (case aO => exact (by (with_reducible repeat (first | apply Kd.R_alloc | apply Kd.R_drewN | apply Kd.R_drew)); exact HO.out)); (case aS => exact (below_size (by repeat (first | (with_reducible first | exact HB.out | apply below_alloc | apply pw_below_drewN | apply below_drew1) | exact HB.out)))); (case aL => have := HI.out; have := HM.out; omega); intro v120 w12 ho hb hg hat; have n0_ := Aside0.mk (hb); have n1_ := Aside0.mk (ho); clear HB; clear HO; have HB := n0_; have HO := n1_; clear n0_ n1_; clear ho hb hg hat))
        rw [hB_.out] at HO
        go_roundg gk'
        case measure => omega
        case rel => exact ⟨xs ++ [(cr + 0 + y) % 65536], (cr + 0 + y) / 65536, i + 1, by first | (with_reducible rfl) | (have := HI.out; have := hG.out; congr 1; omega), by first | (with_reducible rfl) | (rw [e1]), ⟨by have := HI.out; have := hG.out; refine ⟨by omega, by omega, by rw [List.length_append]; simp; omega, by omega, by omega⟩⟩, ⟨HX.out.app (Dig.one (by omega) (by omega))⟩, ⟨by have h := hV1.out; rw [show (i + 1).toNat = i.toNat + 1 by omega]; exact h⟩, ⟨(by (with_reducible repeat (first | apply Kd.R_alloc | apply Kd.R_drewN | apply Kd.R_drew)); exact HO.out)⟩, ⟨(by repeat (first | (with_reducible first | exact HB.out | apply below_alloc | apply pw_below_drewN | apply below_drew1) | exact HB.out))⟩⟩


end Go.Proofs.Ytfaknblpkegekaa.Q
