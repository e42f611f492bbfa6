import Derived.Test.YtfhlnmgaammofaaB1
import Derived.Test.YtfhlnmgaammofaaB2
namespace Go.Proofs.Ytfhlnmgaammofaa.Q
open Go.RowKit Go.Proofs.YtfhlnmgaammofaaW.PrintWords Go.Proofs.YtfhlnmgaammofaaW.PrintLast Go.Proofs.YtfhlnmgaammofaaW.PrintMore
open Go.Proofs.Ytfhlnmgaammofaa.R1
attribute [local go_sem] max2_int min2_int max_two min_two max_three min_three max_four min_four
set_option linter.unusedVariables false
set_option linter.unusedSimpArgs false

/-! ### quipulaw11_CursorBack: function 8 -/
def quipulaw11_CursorBack.l0 : Nat → List (S52) → List Int → List (S52) → Int → Option (Bool)
  | 0, _, _, _, _ => none
  | k + 1, x0, x3, x4, x5 => if x5 < (x0.length : Int) then (if 0 ≤ x5 then ((quipulaw11_laid.f k ((rd_T52 x0 x5).f0) ((rd_T52 x0 x5).f1) ((rd_T52 x0 x5).f2)).bind fun bt173 => (if bt173.2 = true then (if x3.length + bt173.1.size < 140737488355328 then (if x4.length < 4398046511104 then (quipulaw11_CursorBack.l0 k x0 (x3 ++ bytesOf bt173.1) (x4 ++ [(⟨(rd_T52 x0 x5).f0, (rd_T52 x0 x5).f1, (rd_T52 x0 x5).f2⟩ : S52)]) (wrap64 (x5 + 1))) else (none)) else (none)) else (quipulaw11_CursorBack.l0 k x0 x3 x4 (wrap64 (x5 + 1))))) else (none)) else (some (backChk x3 x4))
def quipulaw11_CursorBack.f (k : Nat) (l0 : List (S52)) : Option (Bool) := quipulaw11_CursorBack.l0 k l0 (([] : List Int)) (([] : List (S52))) 0
theorem quipulaw11_CursorBack.mono_l : ∀ k, (∀ y0 y1 y2 y3, LeO (quipulaw11_CursorBack.l0 k y0 y1 y2 y3) (quipulaw11_CursorBack.l0 (k + 1) y0 y1 y2 y3))
  | 0 => fun _ _ _ _ r h => by simp [quipulaw11_CursorBack.l0] at h
  | k + 1 => by
    have ih0 := quipulaw11_CursorBack.mono_l k
    · intro y0 y1 y2 y3
      unfold quipulaw11_CursorBack.l0
      repeat' first
      | (with_reducible exact ih0 _ _ _ _)
      | (with_reducible exact quipulaw11_laid.mono _ _ _ _)
      | (with_reducible exact LeO.refl _)
      | (with_reducible exact LeO.none _)
      | (with_reducible refine LeO.ite ?_ ?_)
      | (with_reducible refine LeO.bind ?_ (fun _ => ?_))
      | exact ih0 _ _ _ _
      | exact quipulaw11_laid.mono _ _ _ _
      | exact LeO.none _
      | refine LeO.ite ?_ ?_
      | refine LeO.bind ?_ (fun _ => ?_)
theorem quipulaw11_CursorBack.mono : ∀ a0 k, LeO (quipulaw11_CursorBack.f k a0) (quipulaw11_CursorBack.f (k + 1) a0) := by
  intro a0 k
  have ih0 := quipulaw11_CursorBack.mono_l k
  unfold quipulaw11_CursorBack.f
  repeat' first
      | (with_reducible exact ih0 _ _ _ _)
      | (with_reducible exact quipulaw11_laid.mono _ _ _ _)
      | (with_reducible exact LeO.refl _)
      | (with_reducible exact LeO.none _)
      | (with_reducible refine LeO.ite ?_ ?_)
      | (with_reducible refine LeO.bind ?_ (fun _ => ?_))
      | exact ih0 _ _ _ _
      | exact quipulaw11_laid.mono _ _ _ _
      | exact LeO.none _
      | refine LeO.ite ?_ ?_
      | refine LeO.bind ?_ (fun _ => ?_)
set_option maxHeartbeats 8000000 in
set_option maxRecDepth 100000 in
theorem quipulaw11_CursorBack.calls (k : Nat) (A0 : Option Addr) (c0 : Nat) (l0 : List (S52)) (r : Bool) (w : World) (hr0 : Kd.C k52 w A0 l0.length l0) (hc0 : l0.length ≤ c0) (h : quipulaw11_CursorBack.f k l0 = some r) (hrt : r = true) :
    Calls Try.prog 8 #[.slice A0 l0.length c0] w fun e w' => e = .returned (.bool r) ∧ Below w.heap.size w w' := by
  have hu52 := Try.underlying52
  have HR0 := Aside0.mk hr0
  have HC0 := Aside0.mk hc0
  clear hr0 hc0
  have HB := Aside0.mk (Below.refl w.heap.size w)
  have H : (quipulaw11_CursorBack.l0 k l0 (([] : List Int)) (([] : List (S52))) 0) = some r := h
  clear h
  obtain ⟨y166, hy166⟩ : ∃ y_ : List Int, y_ = (([] : List Int)) := ⟨_, rfl⟩
  replace H : (quipulaw11_CursorBack.l0 k l0 y166 (([] : List (S52))) 0) = some r := by first | (rw [hy166]; with_reducible exact H) | (have H2_ := (Option.bind_some _ _).symm.trans H; rw [hy166]; with_reducible exact H2_) | (have H2_ := (Option.bind_some _ _).symm.trans H; with_reducible exact H2_) | with_reducible exact H | (rw [hy166]; exact H) | exact H
  have Ny166 := Aside0.mk hy166
  clear hy166
  obtain ⟨y169, hy169⟩ : ∃ y_ : List (S52), y_ = (([] : List (S52))) := ⟨_, rfl⟩
  replace H : (quipulaw11_CursorBack.l0 k l0 y166 y169 0) = some r := by first | (rw [hy169]; with_reducible exact H) | (have H2_ := (Option.bind_some _ _).symm.trans H; rw [hy169]; with_reducible exact H2_) | (have H2_ := (Option.bind_some _ _).symm.trans H; with_reducible exact H2_) | with_reducible exact H | (rw [hy169]; exact H) | exact H
  have Ny169 := Aside0.mk hy169
  clear hy169
  have H' := Aside0.mk H
  clear H
  go_enter Try.func8, Try.ntmps8
  go_wp2_with (first | ((with_reducible refine gate_dst (N := 17) rfl ?_); (try (refine gate_guard (by rfl) ?_; dsimp only)); refine Kd.R_lit (Kd.int .u8) _ 5 ?hg (N := 17) ?hd (xs := ([] : List Int)) (inner := []) (ok := fun _ => True) (okp := fun _ => True) ?hr ?hp (fun _ hk => hk) trivial (Below.refl _ _) (Nat.le_refl _) (by simp) ?_; (case hd => rfl); (case hg => rfl); (case hr => first | (go_simp; done) | (go_simp; rfl)); (case hp => exact (Reps.none _ _)); intro v167 w2 ho3 hb hg_ hnew_; clear hg_ hnew_; (first | rw [← Ny166.out] at ho3 | (simp only [Int.reduceToNat] at ho3; rw [← Ny166.out] at ho3)); have n0_ := Aside0.mk (Kd.R_lower ho3 (below_size (by repeat (first | (with_reducible first | exact HB.out | apply below_alloc | apply pw_below_drewN | apply below_drew1) | exact HB.out)))); have n1_ := Aside0.mk (below_step (by repeat (first | (with_reducible first | exact HB.out | apply below_alloc | apply pw_below_drewN | apply below_drew1) | exact HB.out)) hb); clear HB; have HO168 := n0_; have HB := n1_; clear n0_ n1_; clear hb ho3) | ((with_reducible refine gate_dst (N := 18) rfl ?_); (try (refine gate_guard (by rfl) ?_; dsimp only)); refine Kd.R_lit k52 _ 52 ?hg (N := 18) ?hd (xs := ([] : List (S52))) (inner := []) (ok := fun _ => True) (okp := fun _ => True) ?hr ?hp (fun _ hk => hk) trivial (Below.refl _ _) (Nat.le_refl _) (by simp) ?_; (case hd => rfl); (case hg => rfl); (case hr => first | (go_simp; done) | (go_simp; rfl)); (case hp => exact (Reps.none _ _)); intro v170 w4 ho5 hb hg_ hnew_; clear hg_ hnew_; (first | rw [← Ny169.out] at ho5 | (simp only [Int.reduceToNat] at ho5; rw [← Ny169.out] at ho5)); have n0_ := Aside0.mk (Kd.R_below (by (with_reducible repeat (first | apply Kd.R_alloc | apply Kd.R_drewN | apply Kd.R_drew)); exact HO168.out) hb); have n1_ := Aside0.mk (Kd.R_lower ho5 (below_size (by repeat (first | (with_reducible first | exact HB.out | apply below_alloc | apply pw_below_drewN | apply below_drew1) | exact HB.out)))); have n2_ := Aside0.mk (below_step (by repeat (first | (with_reducible first | exact HB.out | apply below_alloc | apply pw_below_drewN | apply below_drew1) | exact HB.out)) hb); clear HO168; clear HB; have HO168 := n0_; have HO171 := n1_; have HB := n2_; clear n0_ n1_ n2_; clear hb ho5))
  go_loopg [3, 4, 5] k (fun kq v3 v4 v5 w' => ∃ (x3_1 : List Int) (x4_1 : List (S52)) (x5_1 : Int), v5 = .int .i64 x5_1 ∧ Aside0 (quipulaw11_CursorBack.l0 kq l0 x3_1 x4_1 x5_1 = some r) ∧ Aside0 (kq ≤ k) ∧ Aside0 (Kd.R (Kd.int .u8) 5 w' w.heap.size (fun _ => True) v3 x3_1) ∧ Aside0 (Kd.R k52 52 w' w.heap.size (fun _ => True) v4 x4_1) ∧ Aside0 (Below w.heap.size w w'))
  case atStart => exact ⟨(y166), (y169), (0), (by first | rfl | (simp; done) | (simp [*]; done)), H', ⟨Nat.le_refl _⟩, ⟨by (with_reducible repeat (first | apply Kd.R_alloc | apply Kd.R_drewN | apply Kd.R_drew)); exact HO168.out⟩, ⟨by (with_reducible repeat (first | apply Kd.R_alloc | apply Kd.R_drewN | apply Kd.R_drew)); exact HO171.out⟩, ⟨by repeat (first | (with_reducible first | exact HB.out | apply below_alloc | apply pw_below_drewN | apply below_drew1) | exact HB.out)⟩⟩
  case round =>
    clear H'
    try clear p2
    obtain ⟨x3_1, x4_1, x5_1, rfl, HA, HK1, HO_3, HO_4, HB⟩ := hrel
    cases gk with
    | zero => exact absurd HA.out (by simp [quipulaw11_CursorBack.l0])
    | succ k1 =>
      have H := HA.out
      clear HA
      simp only [quipulaw11_CursorBack.l0] at H
      by_cases c6 : x5_1 < (l0.length : Int)
      · rw [if_pos c6] at H
        have c6b0 : decide (x5_1 < (l0.length : Int)) = true := decide_eq_true c6
        clear c6
        by_cases c7 : 0 ≤ x5_1
        · rw [if_pos c7] at H
          have c7b0 : decide (0 ≤ x5_1) = true := decide_eq_true c7
          clear c7
          replace H := Option.bind_eq_some_iff.mp H
          obtain ⟨⟨t173, t174⟩, A80, H⟩ := H
          replace H : (if t174 = true then (if x3_1.length + t173.size < 140737488355328 then (if x4_1.length < 4398046511104 then (quipulaw11_CursorBack.l0 k1 l0 (x3_1 ++ bytesOf t173) (x4_1 ++ [(⟨(rd_T52 l0 x5_1).f0, (rd_T52 l0 x5_1).f1, (rd_T52 l0 x5_1).f2⟩ : S52)]) (wrap64 (x5_1 + 1))) else (none)) else (none)) else (quipulaw11_CursorBack.l0 k1 l0 x3_1 x4_1 (wrap64 (x5_1 + 1)))) = some r := H
          have A8 := Aside0.mk A80
          clear A80
          by_cases c9 : t174 = true
          · subst c9
            have H1 : (if x3_1.length + t173.size < 140737488355328 then (if x4_1.length < 4398046511104 then (quipulaw11_CursorBack.l0 k1 l0 (x3_1 ++ bytesOf t173) (x4_1 ++ [(⟨(rd_T52 l0 x5_1).f0, (rd_T52 l0 x5_1).f1, (rd_T52 l0 x5_1).f2⟩ : S52)]) (wrap64 (x5_1 + 1))) else (none)) else (none)) = some r := by rw [if_pos rfl] at H; exact H
            clear H
            have H := H1
            clear H1
            by_cases c10 : x3_1.length + t173.size < 140737488355328
            · rw [if_pos c10] at H
              have LMc10 := Aside0.mk c10
              clear c10
              obtain ⟨y175, hy175⟩ : ∃ y_ : List Int, y_ = (x3_1 ++ bytesOf t173) := ⟨_, rfl⟩
              replace H : (if x4_1.length < 4398046511104 then (quipulaw11_CursorBack.l0 k1 l0 y175 (x4_1 ++ [(⟨(rd_T52 l0 x5_1).f0, (rd_T52 l0 x5_1).f1, (rd_T52 l0 x5_1).f2⟩ : S52)]) (wrap64 (x5_1 + 1))) else (none)) = some r := by first | (rw [hy175]; with_reducible exact H) | (have H2_ := (Option.bind_some _ _).symm.trans H; rw [hy175]; with_reducible exact H2_) | (have H2_ := (Option.bind_some _ _).symm.trans H; with_reducible exact H2_) | with_reducible exact H | (rw [hy175]; exact H) | exact H
              have Ny175 := Aside0.mk hy175
              clear hy175
              by_cases c11 : x4_1.length < 4398046511104
              · rw [if_pos c11] at H
                have LMc11 := Aside0.mk c11
                clear c11
                obtain ⟨y179, hy179⟩ : ∃ y_ : List (S52), y_ = (x4_1 ++ [(⟨(rd_T52 l0 x5_1).f0, (rd_T52 l0 x5_1).f1, (rd_T52 l0 x5_1).f2⟩ : S52)]) := ⟨_, rfl⟩
                replace H : (quipulaw11_CursorBack.l0 k1 l0 y175 y179 (wrap64 (x5_1 + 1))) = some r := by first | (rw [hy179]; with_reducible exact H) | (have H2_ := (Option.bind_some _ _).symm.trans H; rw [hy179]; with_reducible exact H2_) | (have H2_ := (Option.bind_some _ _).symm.trans H; with_reducible exact H2_) | with_reducible exact H | (rw [hy179]; exact H) | exact H
                have Ny179 := Aside0.mk hy179
                clear hy179
                have H' := Aside0.mk H
                clear H
                have p172 : 0 ≤ (x5_1 : Int) := of_decide_eq_true (by first | (with_reducible assumption) | assumption)
                have q172 : x5_1 < (l0.length : Int) := of_decide_eq_true (by first | (with_reducible assumption) | assumption)
                obtain ⟨ad172, e172, hx172_0, hx172_1, hx172_2⟩ := at_T52 HR0.out x5_1 p172 q172
                cases e172
                replace hx172_0 := (HB.out.cell (World.block_lt_of_cell? w _ hx172_0)).trans hx172_0
                replace hx172_1 := (HB.out.cell (World.block_lt_of_cell? w _ hx172_1)).trans hx172_1
                replace hx172_2 := (HB.out.cell (World.block_lt_of_cell? w _ hx172_2)).trans hx172_2
                replace p172 := eq_true p172
                replace q172 := eq_true q172
                go_wp2_with (first | ((with_reducible refine gate_callee (f := 33) rfl ?_); refine goesL_ (some 30) rfl rfl Try.func33 (by kernel_rfl) rfl #[.agg #[.int .i64 ((rd_T52 l0 x5_1).f0), .int .i64 ((rd_T52 l0 x5_1).f1), .string ((rd_T52 l0 x5_1).f2)]] rfl (by (try simp only [List.map_toArray, List.map_cons, List.map_nil]); first | done | rfl | (simp only [List.length_drop, List.length_take]; rfl)) ?_; (with_reducible refine (quipulaw11_laid.calls k1 ((rd_T52 l0 x5_1).f0) ((rd_T52 l0 x5_1).f1) ((rd_T52 l0 x5_1).f2) t173 true _ A8.out).mono ?_); rintro e w12 ⟨rfl, hb⟩; refine ⟨_, rfl, ?_⟩; have n0_ := Aside0.mk (Kd.R_below (by (with_reducible repeat (first | apply Kd.R_alloc | apply Kd.R_drewN | apply Kd.R_drew)); exact HO_3.out) hb); have n1_ := Aside0.mk (Kd.R_below (by (with_reducible repeat (first | apply Kd.R_alloc | apply Kd.R_drewN | apply Kd.R_drew)); exact HO_4.out) hb); have n2_ := Aside0.mk (below_step (by repeat (first | (with_reducible first | exact HB.out | apply below_alloc | apply pw_below_drewN | apply below_drew1) | exact HB.out)) hb); clear HO_3; clear HO_4; clear HB; have HO_3 := n0_; have HO_4 := n1_; have HB := n2_; clear n0_ n1_ n2_; (try clear hb); (try clear hb2); (try clear hk); (try clear hi)) | (at_builtin; refine print_append_str (w0 := w) w.heap.size rfl (.tmp 34) _ 48 9 5 rfl Try.underlying48 Try.underlying9 info5 u3 x3_1 t173 rfl rfl ?aO ?aB ?aS ?aL ?_; (case aB => exact (by repeat (first | (with_reducible first | exact HB.out | apply below_alloc | apply pw_below_drewN | apply below_drew1) | exact HB.out))); (case aO => exact (Kd.own_of_R (by (with_reducible repeat (first | apply Kd.R_alloc | apply Kd.R_drewN | apply Kd.R_drew)); exact HO_3.out))); (case aS => exact (below_size (by repeat (first | (with_reducible first | exact HB.out | apply below_alloc | apply pw_below_drewN | apply below_drew1) | exact HB.out)))); (case aL => have := LMc10.out; omega); intro v176 w13 ho0 hb hg; have ho := Kd.R_of_own (h1 := fun _ => rfl) (ok := fun _ => True) ho0 (fun _ _ => trivial); clear ho0; have hat := True.intro; rw [← Ny175.out] at ho; change Kd.R (Kd.int .u8) 5 w13 w.heap.size (fun _ => True) v176 y175 at ho; have n0_ := Aside0.mk (Kd.R_over' (by (with_reducible repeat (first | apply Kd.R_alloc | apply Kd.R_drewN | apply Kd.R_drew)); exact HO_4.out) (Kd.R_typed (by (with_reducible repeat (first | apply Kd.R_alloc | apply Kd.R_drewN | apply Kd.R_drew)); exact HO_3.out)) (by decide) hg); have n1_ := Aside0.mk (hb); have n2_ := Aside0.mk (ho); clear HO_4; clear HB; clear HO_3; have HO_4 := n0_; have HB := n1_; have HO177 := n2_; clear n0_ n1_ n2_; clear ho hb hg hat; have p178 : 0 ≤ (x5_1 : Int) := of_decide_eq_true (by first | (with_reducible assumption) | assumption); have q178 : x5_1 < (l0.length : Int) := of_decide_eq_true (by first | (with_reducible assumption) | assumption); obtain ⟨ad178, e178, hx178_0, hx178_1, hx178_2⟩ := at_T52 HR0.out x5_1 p178 q178; obtain rfl : ad172 = ad178 := (by injection e178); replace hx178_0 := (HB.out.cell (World.block_lt_of_cell? w _ hx178_0)).trans hx178_0; replace hx178_1 := (HB.out.cell (World.block_lt_of_cell? w _ hx178_1)).trans hx178_1; replace hx178_2 := (HB.out.cell (World.block_lt_of_cell? w _ hx178_2)).trans hx178_2; replace p178 := eq_true p178; replace q178 := eq_true q178) | ((with_reducible refine gate_builtin (b := .append) (xs := #[.tmp 37, .tmp 42]) rfl ?_); (try (refine gate_guard (by rfl) ?_; dsimp only)); at_builtin; refine Kd.R_append k52 (w0 := w) w.heap.size rfl (.tmp 37) (.tmp 42) 47 52 (.agg #[(.int .i64 0), (.int .i64 0), (.string ⟨#[]⟩)]) 32 rfl Try.underlying47 info52 rfl (by decide) (by omega) u4 x4_1 (⟨(rd_T52 l0 x5_1).f0, (rd_T52 l0 x5_1).f1, (rd_T52 l0 x5_1).f2⟩ : S52) [.int .i64 ((rd_T52 l0 x5_1).f0), .int .i64 ((rd_T52 l0 x5_1).f1), .string ((rd_T52 l0 x5_1).f2)] (fun _ => True) (fun _ => False) rfl rfl ?aP (fun _ hk => hk.elim) ?aF ?aO ?aB ?aS ?aL ?_; (case aP => exact k52_mkM _ _ _ (⟨(rd_T52 l0 x5_1).f0, (rd_T52 l0 x5_1).f1, (rd_T52 l0 x5_1).f2⟩ : S52)); (case aB => exact (by repeat (first | (with_reducible first | exact HB.out | apply below_alloc | apply pw_below_drewN | apply below_drew1) | exact HB.out))); (case aF => exact (fun _ _ => trivial)); (case aO => exact (by (with_reducible repeat (first | apply Kd.R_alloc | apply Kd.R_drewN | apply Kd.R_drew)); exact HO_4.out)); (case aS => exact (below_size (by repeat (first | (with_reducible first | exact HB.out | apply below_alloc | apply pw_below_drewN | apply below_drew1) | exact HB.out)))); (case aL => have := LMc11.out; omega); intro v180 w14 ho hb hg hat; rw [← Ny179.out] at ho; have n0_ := Aside0.mk (Kd.R_over' (by (with_reducible repeat (first | apply Kd.R_alloc | apply Kd.R_drewN | apply Kd.R_drew)); exact HO177.out) (Kd.R_typed (by (with_reducible repeat (first | apply Kd.R_alloc | apply Kd.R_drewN | apply Kd.R_drew)); exact HO_4.out)) (by decide) hg); have n1_ := Aside0.mk (hb); have n2_ := Aside0.mk (ho); clear HO177; clear HB; clear HO_4; have HO177 := n0_; have HB := n1_; have HO181 := n2_; clear n0_ n1_ n2_; clear ho hb hg hat))
                go_roundg k1
                case measure => have := HK1.out; omega
                case rel => exact ⟨(y175), (y179), (wrap64 (x5_1 + 1)), (by first | rfl | (simp; done) | (simp [*]; done)), H', ⟨by have := HK1.out; omega⟩, ⟨by (with_reducible repeat (first | apply Kd.R_alloc | apply Kd.R_drewN | apply Kd.R_drew)); exact HO177.out⟩, ⟨by (with_reducible repeat (first | apply Kd.R_alloc | apply Kd.R_drewN | apply Kd.R_drew)); exact HO181.out⟩, ⟨by repeat (first | (with_reducible first | exact HB.out | apply below_alloc | apply pw_below_drewN | apply below_drew1) | exact HB.out)⟩⟩
              · rw [if_neg c11] at H
                exact absurd H (by simp)
            · rw [if_neg c10] at H
              exact absurd H (by simp)
          · replace c9 := Bool.eq_false_iff.mpr c9
            subst c9
            have H1 : (quipulaw11_CursorBack.l0 k1 l0 x3_1 x4_1 (wrap64 (x5_1 + 1))) = some r := by rw [if_neg (show ¬ (false = true) by decide)] at H; exact H
            clear H
            have H := H1
            clear H1
            have H' := Aside0.mk H
            clear H
            have p172 : 0 ≤ (x5_1 : Int) := of_decide_eq_true (by first | (with_reducible assumption) | assumption)
            have q172 : x5_1 < (l0.length : Int) := of_decide_eq_true (by first | (with_reducible assumption) | assumption)
            obtain ⟨ad172, e172, hx172_0, hx172_1, hx172_2⟩ := at_T52 HR0.out x5_1 p172 q172
            cases e172
            replace hx172_0 := (HB.out.cell (World.block_lt_of_cell? w _ hx172_0)).trans hx172_0
            replace hx172_1 := (HB.out.cell (World.block_lt_of_cell? w _ hx172_1)).trans hx172_1
            replace hx172_2 := (HB.out.cell (World.block_lt_of_cell? w _ hx172_2)).trans hx172_2
            replace p172 := eq_true p172
            replace q172 := eq_true q172
            go_wp2_with (first | ((with_reducible refine gate_callee (f := 33) rfl ?_); refine goesL_ (some 30) rfl rfl Try.func33 (by kernel_rfl) rfl #[.agg #[.int .i64 ((rd_T52 l0 x5_1).f0), .int .i64 ((rd_T52 l0 x5_1).f1), .string ((rd_T52 l0 x5_1).f2)]] rfl (by (try simp only [List.map_toArray, List.map_cons, List.map_nil]); first | done | rfl | (simp only [List.length_drop, List.length_take]; rfl)) ?_; (with_reducible refine (quipulaw11_laid.calls k1 ((rd_T52 l0 x5_1).f0) ((rd_T52 l0 x5_1).f1) ((rd_T52 l0 x5_1).f2) t173 false _ A8.out).mono ?_); rintro e w15 ⟨rfl, hb⟩; refine ⟨_, rfl, ?_⟩; have n0_ := Aside0.mk (Kd.R_below (by (with_reducible repeat (first | apply Kd.R_alloc | apply Kd.R_drewN | apply Kd.R_drew)); exact HO_3.out) hb); have n1_ := Aside0.mk (Kd.R_below (by (with_reducible repeat (first | apply Kd.R_alloc | apply Kd.R_drewN | apply Kd.R_drew)); exact HO_4.out) hb); have n2_ := Aside0.mk (below_step (by repeat (first | (with_reducible first | exact HB.out | apply below_alloc | apply pw_below_drewN | apply below_drew1) | exact HB.out)) hb); clear HO_3; clear HO_4; clear HB; have HO_3 := n0_; have HO_4 := n1_; have HB := n2_; clear n0_ n1_ n2_; (try clear hb); (try clear hb2); (try clear hk); (try clear hi)))
            go_roundg k1
            case measure => have := HK1.out; omega
            case rel => exact ⟨(x3_1), (x4_1), (wrap64 (x5_1 + 1)), (by first | rfl | (simp; done) | (simp [*]; done)), H', ⟨by have := HK1.out; omega⟩, ⟨by (with_reducible repeat (first | apply Kd.R_alloc | apply Kd.R_drewN | apply Kd.R_drew)); exact HO_3.out⟩, ⟨by (with_reducible repeat (first | apply Kd.R_alloc | apply Kd.R_drewN | apply Kd.R_drew)); exact HO_4.out⟩, ⟨by repeat (first | (with_reducible first | exact HB.out | apply below_alloc | apply pw_below_drewN | apply below_drew1) | exact HB.out)⟩⟩
        · rw [if_neg c7] at H
          exact absurd H (by simp)
      · rw [if_neg c6] at H
        have c6b0 : decide (x5_1 < (l0.length : Int)) = false := decide_eq_false c6
        clear c6
        subst hrt
        obtain ⟨W0, hW0⟩ : ∃ W0 : World, W0 = wr := ⟨_, rfl⟩
        subst hW0
        obtain ⟨hall, hok, hlen, hsz⟩ := chk_out (Option.some.inj H)
        clear H
        have HALL := Aside0.mk (show strOfNums x3_1 = cat x4_1 by rw [hall, cat_eq])
        have HOK := Aside0.mk hok
        have HSZ := Aside0.mk hsz
        have HLEN := Aside0.mk hlen.1
        have HX4 := Aside0.mk (show x4_1.length ≤ 9223372036854775806 by have := hlen.2; omega)
        clear hall hok hsz hlen
        obtain ⟨A3, cc3, rfl, hcc3, hC3⟩ := Kd.R_reads HO_3.out
        obtain ⟨A4, cc4, rfl, hcc4, hC4⟩ := Kd.R_reads HO_4.out
        have HC4 := Aside0.mk hC4
        clear hC3 hC4 hcc3 hcc4 HO_4
        obtain ⟨T, hT⟩ : ∃ T, strOfNums x3_1 = T := ⟨_, rfl⟩
        have HTZ := Aside0.mk (show T.size = x3_1.length by rw [← hT, strOfNums_size])
        have HTC := Aside0.mk (show T = cat x4_1 by rw [← hT]; exact HALL.out)
        have hcv1 := own_string (P := Try.prog) Try.underlying48 Try.underlying5 Try.underlying9 (Kd.own_of_R HO_3.out)
        rw [hT] at hcv1
        go_wp2_with fail
        refine (cursor_New.calls T T 0 0 W0 _ (Below.refl _ _) rfl).mono ?_
        rintro en w1 ⟨g, rfl, hI1, hb1, _⟩
        have HI1 := Aside0.mk hI1
        have HB1 := Aside0.mk hb1
        clear hI1 hb1 hcv1
        have hcv2 := own_string (P := Try.prog) Try.underlying48 Try.underlying5 Try.underlying9 (Kd.own_of_R (Kd.R_below HO_3.out HB1.out))
        rw [hT] at hcv2
        have hq1 : T.size + 1 ≤ 9223372036854775807 := by have := HTZ.out; have := HLEN.out; omega
        clear HALL
        go_wp2_with fail
        refine (cursor_New.calls (T ++ ⟨#[120]⟩) (T ++ ⟨#[120]⟩) 0 0 w1 _ (Below.refl _ _) rfl).mono ?_
        rintro en w2 ⟨x, rfl, hI2, hb2, _⟩
        have HS := Aside0.mk (sd_new HI1.out HB1.out hI2 hb2)
        clear hI2 hb2 HI1 HB1 hcv2 HO_3
        have HT2 := Aside0.mk (show (T ++ (⟨#[120]⟩ : ByteArray)).size ≤ 281474976710656 ∧ T.size ≤ 281474976710656 ∧ x4_1.length ≤ 9223372036854775806 by
          have := HTZ.out; have := HLEN.out; have h3 := HC4.out; have := size_app T (⟨#[120]⟩ : ByteArray); have e : (⟨#[120]⟩ : ByteArray).size = 1 := rfl; rw [e] at this; have := HX4.out
          omega)
        clear hT HK1 c6b0
        go_wp2_with fail
        go_loopg [10] x4_1.length (fun gk v10 wl => ∃ (i : Int) (pre post : List S52), v10 = .int .i64 i ∧ Aside0 (i = pre.length) ∧ Aside0 (x4_1 = pre ++ post) ∧ Aside0 (post.length = gk) ∧ Aside0 (Sd W0 wl g x T (T ++ (⟨#[120]⟩ : ByteArray)) (cat pre).size (cat pre).size))
        case atStart => exact ⟨0, [], x4_1, rfl, ⟨rfl⟩, ⟨rfl⟩, ⟨rfl⟩, HS⟩
        case round =>
          clear HS
          obtain ⟨i, pre, post, rfl, HI, HX, HG, HS0⟩ := hrel
          cases gk with
          | zero =>
            obtain rfl : post = [] := List.eq_nil_of_length_eq_zero HG.out
            have HP := Aside0.mk (show pre = x4_1 by have := HX.out; rw [this]; simp)
            have hd : decide (i < (x4_1.length : Int)) = false := decide_eq_false (by have := HI.out; have h := congrArg List.length HP.out; omega)
            have HZ := Aside0.mk (show ((cat pre).size : Int) = T.size by rw [HP.out, ← HTC.out])
            have hq2 : (((x3_1.length : Int)) == (x3_1.length : Int)) = true := beq_iff_eq.mpr rfl
            go_wp2_with fail
            refine (sd_end HS0.out HZ.out).mono ?_
            rintro en w3 ⟨rfl, hS3⟩
            have HS3 := Aside0.mk hS3
            clear hS3 HS0
            go_wp2_with fail
            refine (sd_end2 HS3.out (by have := HZ.out; have e := size_app T (⟨#[120]⟩ : ByteArray); have e1 : (⟨#[120]⟩ : ByteArray).size = 1 := rfl; rw [e1] at e; omega) (x3_1.length : Int) (by have := HZ.out; have := HTZ.out; omega)).mono ?_
            rintro en w4 ⟨rfl, hS4⟩
            have HS4 := Aside0.mk hS4
            clear hS4 HS3
            go_wp2_with fail
            refine (quipulaw11_fixed.calls 40 true _ fixed40).mono ?_
            rintro en w5 ⟨rfl, hb⟩
            have HB4 := Aside0.mk (HS4.out.2.2.2.trans (hb.mono HS4.out.2.2.2.size))
            have HBZ := Aside0.mk (HB.out.trans (HB4.out.mono HB.out.size))
            clear hb HS4
            go_wp2
            go_ret
            exact ⟨rfl, HBZ.out⟩
          | succ gk' =>
            cases post with
            | nil => exact absurd HG.out (by simp)
            | cons t post' =>
              have hd : decide (i < (x4_1.length : Int)) = true := decide_eq_true (by have := HI.out; have h := congrArg List.length HX.out; simp at h; omega)
              have hi0 : 0 ≤ i := by have := HI.out; omega
              have hi1 : i < (x4_1.length : Int) := of_decide_eq_true hd
              have e1 : wrap64 (i + 1) = i + 1 := R1.wr _ (by omega) (by have := HT2.out; omega)
              have hrd : rd_T52 x4_1 i = t := by have := HX.out; rw [this]; exact rd_mid pre post' t i HI.out
              obtain ⟨ad0, hA0, hw0, hw1, hw2⟩ := at_T52 HC4.out i hi0 hi1
              obtain ⟨ad, rfl, hm0, hm1, hm2⟩ := at_T52 (Kd.C_below HC4.out HS0.out.2.2.2) i hi0 hi1
              obtain rfl : ad = ad0 := by injection hA0
              clear hA0
              rw [hrd] at hw0 hw1 hw2 hm0 hm1 hm2
              have HC0 := Aside0.mk hw0
              have HC1 := Aside0.mk hw1
              have HC2 := Aside0.mk hw2
              have HM := Aside0.mk (And.intro hm0 (And.intro hm1 hm2))
              clear hw0 hw1 hw2 hrd
              have HT1 := Aside0.mk (show T = cat pre ++ ((formS t).1 ++ cat post') by have h1 := HTC.out; have h2 := HX.out; rw [h1, h2, cat_app]; rfl)
              have HT3 := Aside0.mk (show T ++ (⟨#[120]⟩ : ByteArray) = cat pre ++ ((formS t).1 ++ (cat post' ++ (⟨#[120]⟩ : ByteArray))) by have h1 := HT1.out; conv => { lhs; rw [h1] }; simp only [ByteArray.append_assoc])
              have HMT := Aside0.mk (show (formS t).2 = true ∧ t.f2.size ≤ 140737488355328 from ⟨HOK.out t (by have := HX.out; rw [this]; simp), HSZ.out t (by have := HX.out; rw [this]; simp)⟩)
              have hin0 := eq_true hi0
              have hin1 := eq_true hi1
              go_wp2
              go_region_held3 (fun w' => w'.cell? (ad.add (i.toNat * 3)) = some (.int .i64 t.f0) ∧ w'.cell? ⟨(ad.add (i.toNat * 3)).block, (ad.add (i.toNat * 3)).off + 1, none⟩ = some (.int .i64 t.f1) ∧ w'.cell? ⟨(ad.add (i.toNat * 3)).block, (ad.add (i.toNat * 3)).off + 2, none⟩ = some (.string t.f2)) (first | exact ⟨pw_cell_below HS2.out.2.2.2 HC0.out, pw_cell_below HS2.out.2.2.2 HC1.out, pw_cell_below HS2.out.2.2.2 HC2.out⟩ | exact ⟨pw_cell_below HS1.out.2.2.2 HC0.out, pw_cell_below HS1.out.2.2.2 HC1.out, pw_cell_below HS1.out.2.2.2 HC2.out⟩ | exact HM.out | (simpa using HM.out)) (first | (go_at_call 34; have hs0 := HS0.out; clear hs0; refine (sd_read (w0 := W0) (g := g) (x := x) (T := T) (z := T ++ (⟨#[120]⟩ : ByteArray)) (pre := pre) (t := t) (c := cat post') (q := (cat pre).size) ?_ HT1.out HMT.out.2 HMT.out.1 HT2.out.2.1).mono ?_; (with_reducible first | exact HS0.out | exact Sd.drew1 HS0.out | exact Sd.drewN HS0.out _); rintro en w2 ⟨rfl, hS1⟩; have HS1 := Aside0.mk hS1; clear hS1 HS0) | (go_at_call 34; refine (sd_read2 (w0 := W0) (g := g) (x := x) (z := T) (T := T ++ (⟨#[120]⟩ : ByteArray)) (pre := pre) (t := t) (c := cat post' ++ (⟨#[120]⟩ : ByteArray)) (p := (cat pre).size + (formS t).1.size) ?_ HT3.out HMT.out.2 HMT.out.1 HT2.out.1).mono ?_; (with_reducible first | exact HS1.out | exact Sd.drew1 HS1.out | exact Sd.drewN HS1.out _); rintro en w3 ⟨rfl, hS2⟩; have HS2 := Aside0.mk hS2; clear hS2 HS1))
              go_wp2
              go_roundg gk'
              case measure => omega
              case rel => exact ⟨i + 1, pre ++ [t], post', by first | rfl | (rw [e1]) | go_num, ⟨by have := HI.out; simp; omega⟩, ⟨by have := HX.out; rw [this]; simp⟩, ⟨by have := HG.out; simp at this; exact this⟩, ⟨by rw [cat_one]; with_reducible first | exact HS2.out | exact Sd.drew1 HS2.out | exact Sd.drewN HS2.out _⟩⟩
end Go.Proofs.Ytfhlnmgaammofaa.Q
