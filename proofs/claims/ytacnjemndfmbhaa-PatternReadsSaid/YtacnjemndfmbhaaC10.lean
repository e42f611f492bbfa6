import Derived.Test.YtacnjemndfmbhaaC6
import Derived.Test.YtacnjemndfmbhaaC9
namespace Go.Proofs.Ytacnjemndfmbhaa
open Go.RowKit
theorem aP117 {p : Prop} (h : p := by (with_reducible repeat (first | apply Kd.R_alloc | apply Kd.R_drewN | apply Kd.R_drew)); exact Kd.R_mono (Kd.R_far (p := ⟨gb178, 2, none⟩) (Kd.R_far (p := ⟨gb178, 1, none⟩) (Kd.R_far (p := ⟨gb178, 0, none⟩) (Kd.R_mono HO_0.out (fun k_ hk => (⟨hk, hk.2⟩ : _ ∧ k_ ≠ gb178))) (fun _ hk => hk.2) (.int .i64 a1)) (fun _ hk => hk.2) (.int .i64 0)) (fun _ hk => hk.2) (.string (⟨#[]⟩ : ByteArray))) (fun _ hk => ⟨hk.1.1, hk.1.2⟩)) : p := h
theorem aP116 {p : Prop} (h : p := by (with_reducible repeat (first | refine blk_drewN ?_ _ | refine blk_drew ?_ | refine blk_alloc ?_ _)); refine blk_put (cs := #[.int .i64 a1, .int .i64 0, .string (⟨#[]⟩ : ByteArray)]) ?_ 2 _ rfl; (with_reducible repeat (first | refine blk_drewN ?_ _ | refine blk_drew ?_ | refine blk_alloc ?_ _)); refine blk_put (cs := #[.int .i64 a1, .int .i64 0, .string (⟨#[]⟩ : ByteArray)]) ?_ 1 _ rfl; (with_reducible repeat (first | refine blk_drewN ?_ _ | refine blk_drew ?_ | refine blk_alloc ?_ _)); refine blk_put (cs := #[.int .i64 0, .int .i64 0, .string (⟨#[]⟩ : ByteArray)]) ?_ 0 _ rfl; (with_reducible repeat (first | refine blk_drewN ?_ _ | refine blk_drew ?_ | refine blk_alloc ?_ _)); exact BK178.out) : p := h
theorem aP115 {p : Prop} (h : p := by (with_reducible repeat (first | apply Kd.R_alloc | apply Kd.R_drewN | apply Kd.R_drew)); exact Kd.R_mono (Kd.R_far (p := ⟨gb178, 1, none⟩) (Kd.R_far (p := ⟨gb178, 2, none⟩) (Kd.R_far (p := ⟨gb178, 1, none⟩) (Kd.R_far (p := ⟨gb178, 0, none⟩) (Kd.R_mono HO_0.out (fun k_ hk => (⟨hk, hk.2⟩ : _ ∧ k_ ≠ gb178))) (fun _ hk => hk.2) (.int .i64 a1)) (fun _ hk => hk.2) (.int .i64 0)) (fun _ hk => hk.2) (.string (⟨#[]⟩ : ByteArray))) (fun _ hk => hk.2) (.int .i64 1)) (fun _ hk => ⟨hk.1.1, hk.1.2⟩)) : p := h
theorem aP114 {p : Prop} (h : p := by (with_reducible repeat (first | refine blk_drewN ?_ _ | refine blk_drew ?_ | refine blk_alloc ?_ _)); refine blk_put (cs := #[.int .i64 a1, .int .i64 0, .string (⟨#[]⟩ : ByteArray)]) ?_ 1 _ rfl; (with_reducible repeat (first | refine blk_drewN ?_ _ | refine blk_drew ?_ | refine blk_alloc ?_ _)); refine blk_put (cs := #[.int .i64 a1, .int .i64 0, .string (⟨#[]⟩ : ByteArray)]) ?_ 2 _ rfl; (with_reducible repeat (first | refine blk_drewN ?_ _ | refine blk_drew ?_ | refine blk_alloc ?_ _)); refine blk_put (cs := #[.int .i64 a1, .int .i64 0, .string (⟨#[]⟩ : ByteArray)]) ?_ 1 _ rfl; (with_reducible repeat (first | refine blk_drewN ?_ _ | refine blk_drew ?_ | refine blk_alloc ?_ _)); refine blk_put (cs := #[.int .i64 0, .int .i64 0, .string (⟨#[]⟩ : ByteArray)]) ?_ 0 _ rfl; (with_reducible repeat (first | refine blk_drewN ?_ _ | refine blk_drew ?_ | refine blk_alloc ?_ _)); exact BK178.out) : p := h
theorem aP113 {p : Prop} (h : p := by repeat (first | (with_reducible first | exact HK.out | apply Kept.alloc | apply Kept.drewN | apply Kept.drew | refine Kept.setCell ?_ (.inr GW178.out) _) | exact HK.out)) : p := h
theorem aP112 {p : Prop} (h : p := by repeat (first | (with_reducible first | exact HB.out | apply below_alloc | apply pw_below_drewN | apply below_drew1 | refine below_set ?_ GE178.out) | exact HB.out)) : p := h
theorem aP111 {p : Prop} (h : p := by first | (go_simp; done) | (go_simp; rfl)) : p := h
theorem aP110 {p : Prop} (h : p := by rw [hg]; exact (by first | exact HK.out.1 | exact (show Kept w _ (fun k_ => P0_ k_) from by repeat (first | (with_reducible first | exact HK.out | apply Kept.alloc | apply Kept.drewN | apply Kept.drew) | exact HK.out)).1)) : p := h
theorem aP109 {p : Prop} (h : p := by rw [hw]; exact below_set (HB.out) GB14.out) : p := h
theorem aP108 {p : Prop} (h : p := by (with_reducible repeat (first | apply Kd.R_alloc | apply Kd.R_drewN | apply Kd.R_drew)); exact HO_0.out) : p := h
theorem aP46 {p : Prop} (h : p := by
    have H' := aMk H
    clear H
    go_wp2
    repeat (go_quiet (fail); try go_wp2)
    go_meet
    case rel => exact ⟨_, (false), (by first | rfl | (simp; done) | (simp [*]; done)), H', ⟨by first | omega | exact Nat.le_refl _⟩, ⟨by (with_reducible repeat (first | apply Kd.R_alloc | apply Kd.R_drewN | apply Kd.R_drew)); exact HO0.out⟩, ⟨by repeat (first | (with_reducible first | exact HK.out | apply Kept.alloc | apply Kept.drewN | apply Kept.drew) | exact HK.out)⟩, ⟨by repeat (first | (with_reducible first | exact HB.out | apply below_alloc | apply pw_below_drewN | apply below_drew1) | exact HB.out)⟩⟩) : p := h
theorem aP107 {p : Prop} (h : p := by first | exact HK.out.1 | exact (show Kept w _ (fun k_ => P0_ k_) from by repeat (first | (with_reducible first | exact HK.out | apply Kept.alloc | apply Kept.drewN | apply Kept.drew) | exact HK.out)).1) : p := h
theorem aP106 {p : Prop} (h : p := by repeat (first | (with_reducible first | exact HK.out | apply Kept.alloc | apply Kept.drewN | apply Kept.drew) | exact HK.out)) : p := h
theorem aP105 {p : Prop} (h : p := by (with_reducible repeat (first | apply Kd.R_alloc | apply Kd.R_drewN | apply Kd.R_drew)); exact HO0.out) : p := h
end Go.Proofs.Ytacnjemndfmbhaa
section
namespace Go.Proofs.Ytacnjemndfmbhaa.Q
open Go.RowKit Go.Proofs.YtacnjemndfmbhaaW.PrintWords Go.Proofs.YtacnjemndfmbhaaW.PrintLast Go.Proofs.YtacnjemndfmbhaaW.PrintMore
attribute [local go_sem] max2_int min2_int max_two min_two max_three min_three max_four min_four   -- for this text's walks alone
set_option linter.unusedVariables false
set_option linter.unusedSimpArgs false
mutual
def quipuref13_Print.l0 : Nat → List (S53) → ByteArray → Int → Option (ByteArray × Int)
 | 0, _, _, _ => none
 | k + 1, x0, x5, x6 => if x6 < (x0.length : Int) then (if 0 ≤ x6 then (if ((rd_T53 x0 x6).f0) = 0 then ((quipuref13_text.f k ((rd_T53 x0 x6).f2)).bind fun t163 => (if x5.size + t163.size ≤ 9223372036854775807 then (quipuref13_Print.l0 k x0 (x5 ++ t163) (wrap64 (x6 + 1))) else (none))) else (if ((rd_T53 x0 x6).f0) = 1 then (if x5.size + 1 ≤ 9223372036854775807 then (quipuref13_Print.l0 k x0 (x5 ++ (⟨#[45]⟩ : ByteArray)) (wrap64 (x6 + 1))) else (none)) else (if ((rd_T53 x0 x6).f0) = 2 then (if x5.size + 1 ≤ 9223372036854775807 then (quipuref13_Print.l0 k x0 (x5 ++ (⟨#[43]⟩ : ByteArray)) (wrap64 (x6 + 1))) else (none)) else (if ((rd_T53 x0 x6).f0) = 3 then (if x5.size + 1 ≤ 9223372036854775807 then (quipuref13_Print.l0 k x0 (x5 ++ (⟨#[37]⟩ : ByteArray)) (wrap64 (x6 + 1))) else (none)) else (if ((rd_T53 x0 x6).f0) = 4 then (if x5.size + 3 ≤ 9223372036854775807 then (quipuref13_Print.l0 k x0 (x5 ++ (⟨#[226, 128, 176]⟩ : ByteArray)) (wrap64 (x6 + 1))) else (none)) else (quipuref13_Print.l1 k x0 x5 x6 0)))))) else (none)) else (some (x5, 0))
def quipuref13_Print.l1 : Nat → List (S53) → ByteArray → Int → Int → Option (ByteArray × Int)
 | 0, _, _, _, _ => none
 | k + 1, x0, x5, x6, x7 => if 0 ≤ x6 then (if x6 < (x0.length : Int) then (if x7 < ((rd_T53 x0 x6).f1) then (if x5.size + 2 ≤ 9223372036854775807 then (quipuref13_Print.l1 k x0 (x5 ++ (⟨#[194, 164]⟩ : ByteArray)) x6 (wrap64 (x7 + 1))) else (none)) else (quipuref13_Print.l0 k x0 x5 (wrap64 (x6 + 1)))) else (none)) else (none)
end
def quipuref13_Print.f (k : Nat) (l0 : List (S53)) : Option (ByteArray × Int) := (quipuref13_Check.f k l0).bind fun t160 => (if t160 = 0 then (quipuref13_Print.l0 k l0 (⟨#[]⟩ : ByteArray) 0) else (some ((⟨#[]⟩ : ByteArray), t160)))
set_option maxHeartbeats 8000000 in
set_option maxRecDepth 100000 in
theorem quipuref13_Print.calls (k : Nat) (A0 : Option Addr) (c0 : Nat) (l0 : List (S53)) (r1 : ByteArray) (r2 : Int) (w : World) (hr0 : Kd.C k53 w A0 l0.length l0) (hc0 : l0.length ≤ c0) (h : quipuref13_Print.f k l0 = some (r1, r2)) :
  Calls Try.prog 60 #[.slice A0 l0.length c0] w fun e w' => e = .returned (.tuple #[.string r1, .int .i64 r2]) ∧ Below w.heap.size w w' := by
 have HR0 := aMk hr0
 have HC0 := aMk hc0
 clear hr0 hc0
 have HB := aMk (Below.refl w.heap.size w)
 have H : ((quipuref13_Check.f k l0).bind fun t160 => (if t160 = 0 then (quipuref13_Print.l0 k l0 (⟨#[]⟩ : ByteArray) 0) else (some ((⟨#[]⟩ : ByteArray), t160)))) = some (r1, r2) := h
 clear h
 replace H := Option.bind_eq_some_iff.mp H
 obtain ⟨t160, A20, H⟩ := H
 replace H : (if t160 = 0 then (quipuref13_Print.l0 k l0 (⟨#[]⟩ : ByteArray) 0) else (some ((⟨#[]⟩ : ByteArray), t160))) = some (r1, r2) := H
 have A2 := aMk A20
 clear A20
 by_cases c3 : t160 = 0
 ·rw [if_pos c3] at H
  have c3b0 : (t160 == 0) = true := beT c3
  have c3b1 : (t160 != 0) = false := bnF c3
  clear c3
  have H' := aMk H
  clear H
  go_enter Try.func60, Try.ntmps60
  go_wp2_with (first | ((with_reducible refine gate_callee (f := 55) rfl ?_); refine goesL_ (some 9) rfl rfl Try.func55 (by kernel_rfl) rfl #[.slice A0 l0.length c0] rfl (aP76) ?_; (with_reducible refine (quipuref13_Check.calls k _ _ l0 t160 _ ?side1 ?side2 A2.out).mono ?_); (case side1 => repeat (first | exact HR0.out | (with_reducible refine Kd.C_alloc ?_ _) | (with_reducible refine Kd.C_drewN ?_ _) | (with_reducible refine Kd.C_drew ?_))); (case side2 => exact HC0.out); rintro e w4 ⟨rfl, hb⟩; refine ⟨_, rfl, ?_⟩; have n0_ := aMk (below_step (aP80) hb); clear HB; have HB := n0_; clear n0_; (try clear hb); (try clear hb2); (try clear hk); (try clear hi)))
  go_loopg [5, 6] k (fun kq v5 v6 w' => ∃ (x5_1 : ByteArray) (x6_1 : Int), v5 = .string x5_1 ∧ v6 = .int .i64 x6_1 ∧ Aside0 (quipuref13_Print.l0 kq l0 x5_1 x6_1 = some (r1, r2)) ∧ Aside0 (kq ≤ k) ∧ Aside0 (Below w.heap.size w w'))
  case atStart => exact ⟨((⟨#[]⟩ : ByteArray)), (0), (aP77), (aP77), H', ⟨Nat.le_refl _⟩, ⟨aP80⟩⟩
  case round =>
   clear H'
   try clear p2
   try clear c3
   try clear c3b0
   try clear c3b1
   obtain ⟨x5_1, x6_1, rfl, rfl, HA, HK1, HB⟩ := hrel
   cases gk with
   | zero => exact absurd HA.out (by simp [quipuref13_Print.l0])
   | succ k1 =>
    have H := HA.out
    clear HA
    simp only [quipuref13_Print.l0] at H
    by_cases c5 : x6_1 < (l0.length : Int)
    ·rw [if_pos c5] at H
     have c5b0 : decide (x6_1 < (l0.length : Int)) = true := dTr c5
     clear c5
     by_cases c6 : 0 ≤ x6_1
     ·rw [if_pos c6] at H
      have c6b0 : decide (0 ≤ x6_1) = true := dTr c6
      clear c6
      by_cases c7 : ((rd_T53 l0 x6_1).f0) = 0
      ·rw [if_pos c7] at H
       have c7b0 : (((rd_T53 l0 x6_1).f0) == 0) = true := beT c7
       have c7b1 : (((rd_T53 l0 x6_1).f0) != 0) = false := bnF c7
       clear c7
       replace H := Option.bind_eq_some_iff.mp H
       obtain ⟨t163, A80, H⟩ := H
       replace H : (if x5_1.size + t163.size ≤ 9223372036854775807 then (quipuref13_Print.l0 k1 l0 (x5_1 ++ t163) (wrap64 (x6_1 + 1))) else (none)) = some (r1, r2) := H
       have A8 := aMk A80
       clear A80
       by_cases c9 : x5_1.size + t163.size ≤ 9223372036854775807
       ·rw [if_pos c9] at H
        have c9b0 := eq_true c9
        have c9b1 : decide (x5_1.size + t163.size ≤ 9223372036854775807) = true := dTr c9
        try have c9b2 : (9223372036854775807 < x5_1.size + t163.size) = False := eq_false (Nat.not_lt.2 c9)
        have H' := aMk H
        clear H
        have p161 : 0 ≤ (x6_1 : Int) := of_decide_eq_true (aP75)
        have q161 : x6_1 < (l0.length : Int) := of_decide_eq_true (aP75)
        obtain ⟨ad161, e161, hx161_0, hx161_1, hx161_2⟩ := at_T53 HR0.out x6_1 p161 q161
        cases e161
        replace hx161_0 := (HB.out.cell (World.block_lt_of_cell? w _ hx161_0)).trans hx161_0
        replace hx161_1 := (HB.out.cell (World.block_lt_of_cell? w _ hx161_1)).trans hx161_1
        replace hx161_2 := (HB.out.cell (World.block_lt_of_cell? w _ hx161_2)).trans hx161_2
        replace p161 := eq_true p161
        replace q161 := eq_true q161
        have p162 : 0 ≤ (x6_1 : Int) := of_decide_eq_true (aP75)
        have q162 : x6_1 < (l0.length : Int) := of_decide_eq_true (aP75)
        obtain ⟨ad162, e162, hx162_0, hx162_1, hx162_2⟩ := at_T53 HR0.out x6_1 p162 q162
        obtain rfl : ad161 = ad162 := (by injection e162)
        replace hx162_0 := (HB.out.cell (World.block_lt_of_cell? w _ hx162_0)).trans hx162_0
        replace hx162_1 := (HB.out.cell (World.block_lt_of_cell? w _ hx162_1)).trans hx162_1
        replace hx162_2 := (HB.out.cell (World.block_lt_of_cell? w _ hx162_2)).trans hx162_2
        replace p162 := eq_true p162
        replace q162 := eq_true q162
        go_wp2_with (first | ((with_reducible refine gate_callee (f := 81) rfl ?_); refine goesL_ (some 43) rfl rfl Try.func81 (by kernel_rfl) rfl #[.string ((rd_T53 l0 x6_1).f2)] rfl (aP76) ?_; (with_reducible refine (quipuref13_text.calls k1 ((rd_T53 l0 x6_1).f2) t163 _ A8.out).mono ?_); rintro e w10 ⟨rfl, hb⟩; refine ⟨_, rfl, ?_⟩; have n0_ := aMk (below_step (aP80) hb); clear HB; have HB := n0_; clear n0_; (try clear hb); (try clear hb2); (try clear hk); (try clear hi)))
        go_roundg k1
        case measure => have := HK1.out; omega
        case rel => exact ⟨(x5_1 ++ t163), (wrap64 (x6_1 + 1)), (aP77), (aP77), H', ⟨by have := HK1.out; omega⟩, ⟨aP80⟩⟩
       ·rw [if_neg c9] at H
        exact absurd H (by simp)
      ·rw [if_neg c7] at H
       have c7b0 : (((rd_T53 l0 x6_1).f0) == 0) = false := beF c7
       have c7b1 : (((rd_T53 l0 x6_1).f0) != 0) = true := bnT c7
       by_cases c11 : ((rd_T53 l0 x6_1).f0) = 1
       ·rw [if_pos c11] at H
        have c11b0 : (((rd_T53 l0 x6_1).f0) == 1) = true := beT c11
        have c11b1 : (((rd_T53 l0 x6_1).f0) != 1) = false := bnF c11
        clear c11
        by_cases c12 : x5_1.size + 1 ≤ 9223372036854775807
        ·rw [if_pos c12] at H
         have c12b0 := eq_true c12
         have c12b1 : decide (x5_1.size + 1 ≤ 9223372036854775807) = true := dTr c12
         try have c12b2 : (9223372036854775807 < x5_1.size + 1) = False := eq_false (Nat.not_lt.2 c12)
         have H' := aMk H
         clear H
         have p161 : 0 ≤ (x6_1 : Int) := of_decide_eq_true (aP75)
         have q161 : x6_1 < (l0.length : Int) := of_decide_eq_true (aP75)
         obtain ⟨ad161, e161, hx161_0, hx161_1, hx161_2⟩ := at_T53 HR0.out x6_1 p161 q161
         cases e161
         replace hx161_0 := (HB.out.cell (World.block_lt_of_cell? w _ hx161_0)).trans hx161_0
         replace hx161_1 := (HB.out.cell (World.block_lt_of_cell? w _ hx161_1)).trans hx161_1
         replace hx161_2 := (HB.out.cell (World.block_lt_of_cell? w _ hx161_2)).trans hx161_2
         replace p161 := eq_true p161
         replace q161 := eq_true q161
         go_wp2
         go_roundg k1
         case measure => have := HK1.out; omega
         case rel => exact ⟨(x5_1 ++ (⟨#[45]⟩ : ByteArray)), (wrap64 (x6_1 + 1)), (aP77), (aP77), H', ⟨by have := HK1.out; omega⟩, ⟨aP80⟩⟩
        ·rw [if_neg c12] at H
         exact absurd H (by simp)
       ·rw [if_neg c11] at H
        have c11b0 : (((rd_T53 l0 x6_1).f0) == 1) = false := beF c11
        have c11b1 : (((rd_T53 l0 x6_1).f0) != 1) = true := bnT c11
        by_cases c13 : ((rd_T53 l0 x6_1).f0) = 2
        ·rw [if_pos c13] at H
         have c13b0 : (((rd_T53 l0 x6_1).f0) == 2) = true := beT c13
         have c13b1 : (((rd_T53 l0 x6_1).f0) != 2) = false := bnF c13
         clear c13
         by_cases c14 : x5_1.size + 1 ≤ 9223372036854775807
         ·rw [if_pos c14] at H
          have c14b0 := eq_true c14
          have c14b1 : decide (x5_1.size + 1 ≤ 9223372036854775807) = true := dTr c14
          try have c14b2 : (9223372036854775807 < x5_1.size + 1) = False := eq_false (Nat.not_lt.2 c14)
          have H' := aMk H
          clear H
          have p161 : 0 ≤ (x6_1 : Int) := of_decide_eq_true (aP75)
          have q161 : x6_1 < (l0.length : Int) := of_decide_eq_true (aP75)
          obtain ⟨ad161, e161, hx161_0, hx161_1, hx161_2⟩ := at_T53 HR0.out x6_1 p161 q161
          cases e161
          replace hx161_0 := (HB.out.cell (World.block_lt_of_cell? w _ hx161_0)).trans hx161_0
          replace hx161_1 := (HB.out.cell (World.block_lt_of_cell? w _ hx161_1)).trans hx161_1
          replace hx161_2 := (HB.out.cell (World.block_lt_of_cell? w _ hx161_2)).trans hx161_2
          replace p161 := eq_true p161
          replace q161 := eq_true q161
          go_wp2
          go_roundg k1
          case measure => have := HK1.out; omega
          case rel => exact ⟨(x5_1 ++ (⟨#[43]⟩ : ByteArray)), (wrap64 (x6_1 + 1)), (aP77), (aP77), H', ⟨by have := HK1.out; omega⟩, ⟨aP80⟩⟩
         ·rw [if_neg c14] at H
          exact absurd H (by simp)
        ·rw [if_neg c13] at H
         have c13b0 : (((rd_T53 l0 x6_1).f0) == 2) = false := beF c13
         have c13b1 : (((rd_T53 l0 x6_1).f0) != 2) = true := bnT c13
         by_cases c15 : ((rd_T53 l0 x6_1).f0) = 3
         ·rw [if_pos c15] at H
          have c15b0 : (((rd_T53 l0 x6_1).f0) == 3) = true := beT c15
          have c15b1 : (((rd_T53 l0 x6_1).f0) != 3) = false := bnF c15
          clear c15
          by_cases c16 : x5_1.size + 1 ≤ 9223372036854775807
          ·rw [if_pos c16] at H
           have c16b0 := eq_true c16
           have c16b1 : decide (x5_1.size + 1 ≤ 9223372036854775807) = true := dTr c16
           try have c16b2 : (9223372036854775807 < x5_1.size + 1) = False := eq_false (Nat.not_lt.2 c16)
           have H' := aMk H
           clear H
           have p161 : 0 ≤ (x6_1 : Int) := of_decide_eq_true (aP75)
           have q161 : x6_1 < (l0.length : Int) := of_decide_eq_true (aP75)
           obtain ⟨ad161, e161, hx161_0, hx161_1, hx161_2⟩ := at_T53 HR0.out x6_1 p161 q161
           cases e161
           replace hx161_0 := (HB.out.cell (World.block_lt_of_cell? w _ hx161_0)).trans hx161_0
           replace hx161_1 := (HB.out.cell (World.block_lt_of_cell? w _ hx161_1)).trans hx161_1
           replace hx161_2 := (HB.out.cell (World.block_lt_of_cell? w _ hx161_2)).trans hx161_2
           replace p161 := eq_true p161
           replace q161 := eq_true q161
           go_wp2
           go_roundg k1
           case measure => have := HK1.out; omega
           case rel => exact ⟨(x5_1 ++ (⟨#[37]⟩ : ByteArray)), (wrap64 (x6_1 + 1)), (aP77), (aP77), H', ⟨by have := HK1.out; omega⟩, ⟨aP80⟩⟩
          ·rw [if_neg c16] at H
           exact absurd H (by simp)
         ·rw [if_neg c15] at H
          have c15b0 : (((rd_T53 l0 x6_1).f0) == 3) = false := beF c15
          have c15b1 : (((rd_T53 l0 x6_1).f0) != 3) = true := bnT c15
          by_cases c17 : ((rd_T53 l0 x6_1).f0) = 4
          ·rw [if_pos c17] at H
           have c17b0 : (((rd_T53 l0 x6_1).f0) == 4) = true := beT c17
           have c17b1 : (((rd_T53 l0 x6_1).f0) != 4) = false := bnF c17
           clear c17
           by_cases c18 : x5_1.size + 3 ≤ 9223372036854775807
           ·rw [if_pos c18] at H
            have c18b0 := eq_true c18
            have c18b1 : decide (x5_1.size + 3 ≤ 9223372036854775807) = true := dTr c18
            try have c18b2 : (9223372036854775807 < x5_1.size + 3) = False := eq_false (Nat.not_lt.2 c18)
            have H' := aMk H
            clear H
            have p161 : 0 ≤ (x6_1 : Int) := of_decide_eq_true (aP75)
            have q161 : x6_1 < (l0.length : Int) := of_decide_eq_true (aP75)
            obtain ⟨ad161, e161, hx161_0, hx161_1, hx161_2⟩ := at_T53 HR0.out x6_1 p161 q161
            cases e161
            replace hx161_0 := (HB.out.cell (World.block_lt_of_cell? w _ hx161_0)).trans hx161_0
            replace hx161_1 := (HB.out.cell (World.block_lt_of_cell? w _ hx161_1)).trans hx161_1
            replace hx161_2 := (HB.out.cell (World.block_lt_of_cell? w _ hx161_2)).trans hx161_2
            replace p161 := eq_true p161
            replace q161 := eq_true q161
            go_wp2
            go_roundg k1
            case measure => have := HK1.out; omega
            case rel => exact ⟨(x5_1 ++ (⟨#[226, 128, 176]⟩ : ByteArray)), (wrap64 (x6_1 + 1)), (aP77), (aP77), H', ⟨by have := HK1.out; omega⟩, ⟨aP80⟩⟩
           ·rw [if_neg c18] at H
            exact absurd H (by simp)
          ·rw [if_neg c17] at H
           have c17b0 : (((rd_T53 l0 x6_1).f0) == 4) = false := beF c17
           have c17b1 : (((rd_T53 l0 x6_1).f0) != 4) = true := bnT c17
           have H' := aMk H
           clear H
           have p161 : 0 ≤ (x6_1 : Int) := of_decide_eq_true (aP75)
           have q161 : x6_1 < (l0.length : Int) := of_decide_eq_true (aP75)
           obtain ⟨ad161, e161, hx161_0, hx161_1, hx161_2⟩ := at_T53 HR0.out x6_1 p161 q161
           cases e161
           replace hx161_0 := (HB.out.cell (World.block_lt_of_cell? w _ hx161_0)).trans hx161_0
           replace hx161_1 := (HB.out.cell (World.block_lt_of_cell? w _ hx161_1)).trans hx161_1
           replace hx161_2 := (HB.out.cell (World.block_lt_of_cell? w _ hx161_2)).trans hx161_2
           replace p161 := eq_true p161
           replace q161 := eq_true q161
           go_wp2
           go_loopg [5, 7] k1 (fun kq v5 v7 w' => ∃ (x5_2 : ByteArray) (x7_2 : Int), v5 = .string x5_2 ∧ v7 = .int .i64 x7_2 ∧ Aside0 (quipuref13_Print.l1 kq l0 x5_2 x6_1 x7_2 = some (r1, r2)) ∧ Aside0 (kq ≤ k1) ∧ Aside0 (Below w.heap.size w w'))
           case atStart => exact ⟨(x5_1), (0), (aP77), (aP77), H', ⟨Nat.le_refl _⟩, ⟨aP80⟩⟩
           case round =>
            clear H'
            try clear c1
            try clear p1
            try clear q1
            try clear hx1
            try clear p2
            try clear c3
            try clear c3b0
            try clear c3b1
            try clear c5
            try clear c5b0
            try clear c6
            try clear c6b0
            try clear p6
            try clear c7
            try clear c7b0
            try clear c7b1
            try clear c8
            try clear c9
            try clear c9b0
            try clear c9b1
            try clear c9b2
            try clear c11
            try clear c11b0
            try clear c11b1
            try clear c12
            try clear c12b0
            try clear c12b1
            try clear c12b2
            try clear c13
            try clear c13b0
            try clear c13b1
            try clear c14
            try clear c14b0
            try clear c14b1
            try clear c14b2
            try clear c15
            try clear c15b0
            try clear c15b1
            try clear c16
            try clear c16b0
            try clear c16b1
            try clear c16b2
            try clear p16
            try clear q16
            try clear hx16
            try clear c17
            try clear c17b0
            try clear c17b1
            try clear c18
            try clear c18b0
            try clear c18b1
            try clear c18b2
            try clear hx161_0
            try clear hx161_1
            try clear hx161_2
            try clear hx162_0
            try clear hx162_1
            try clear hx162_2
            try clear p161
            try clear p162
            try clear p2
            try clear q161
            try clear q162
            obtain ⟨x5_2, x7_2, rfl, rfl, HA, HK2, HB⟩ := hrel
            cases gk with
            | zero => exact absurd HA.out (by simp [quipuref13_Print.l1])
            | succ k2 =>
             have H := HA.out
             clear HA
             simp only [quipuref13_Print.l1] at H
             by_cases c19 : 0 ≤ x6_1
             ·rw [if_pos c19] at H
              have c19b0 : decide (0 ≤ x6_1) = true := dTr c19
              clear c19
              by_cases c20 : x6_1 < (l0.length : Int)
              ·rw [if_pos c20] at H
               have c20b0 : decide (x6_1 < (l0.length : Int)) = true := dTr c20
               clear c20
               by_cases c21 : x7_2 < ((rd_T53 l0 x6_1).f1)
               ·rw [if_pos c21] at H
                have c21b0 : decide (x7_2 < ((rd_T53 l0 x6_1).f1)) = true := dTr c21
                clear c21
                by_cases c22 : x5_2.size + 2 ≤ 9223372036854775807
                ·rw [if_pos c22] at H
                 have c22b0 := eq_true c22
                 have c22b1 : decide (x5_2.size + 2 ≤ 9223372036854775807) = true := dTr c22
                 try have c22b2 : (9223372036854775807 < x5_2.size + 2) = False := eq_false (Nat.not_lt.2 c22)
                 have H' := aMk H
                 clear H
                 have p164 : 0 ≤ (x6_1 : Int) := of_decide_eq_true (aP75)
                 have q164 : x6_1 < (l0.length : Int) := of_decide_eq_true (aP75)
                 obtain ⟨ad164, e164, hx164_0, hx164_1, hx164_2⟩ := at_T53 HR0.out x6_1 p164 q164
                 obtain rfl : ad161 = ad164 := (by injection e164)
                 replace hx164_0 := (HB.out.cell (World.block_lt_of_cell? w _ hx164_0)).trans hx164_0
                 replace hx164_1 := (HB.out.cell (World.block_lt_of_cell? w _ hx164_1)).trans hx164_1
                 replace hx164_2 := (HB.out.cell (World.block_lt_of_cell? w _ hx164_2)).trans hx164_2
                 replace p164 := eq_true p164
                 replace q164 := eq_true q164
                 go_wp2
                 go_roundg k2
                 case measure => have := HK1.out; have := HK2.out; omega
                 case rel => exact ⟨(x5_2 ++ (⟨#[194, 164]⟩ : ByteArray)), (wrap64 (x7_2 + 1)), (aP77), (aP77), H', ⟨by have := HK1.out; have := HK2.out; omega⟩, ⟨aP80⟩⟩
                ·rw [if_neg c22] at H
                 exact absurd H (by simp)
               ·rw [if_neg c21] at H
                have c21b0 : decide (x7_2 < ((rd_T53 l0 x6_1).f1)) = false := dFa c21
                clear c21
                have H' := aMk H
                clear H
                have p164 : 0 ≤ (x6_1 : Int) := of_decide_eq_true (aP75)
                have q164 : x6_1 < (l0.length : Int) := of_decide_eq_true (aP75)
                obtain ⟨ad164, e164, hx164_0, hx164_1, hx164_2⟩ := at_T53 HR0.out x6_1 p164 q164
                obtain rfl : ad161 = ad164 := (by injection e164)
                replace hx164_0 := (HB.out.cell (World.block_lt_of_cell? w _ hx164_0)).trans hx164_0
                replace hx164_1 := (HB.out.cell (World.block_lt_of_cell? w _ hx164_1)).trans hx164_1
                replace hx164_2 := (HB.out.cell (World.block_lt_of_cell? w _ hx164_2)).trans hx164_2
                replace p164 := eq_true p164
                replace q164 := eq_true q164
                go_wp2
                go_roundg k2
                case measure => have := HK1.out; have := HK2.out; omega
                case rel => exact ⟨(x5_2), (wrap64 (x6_1 + 1)), (aP77), (aP77), H', ⟨by have := HK1.out; have := HK2.out; omega⟩, ⟨aP80⟩⟩
              ·rw [if_neg c20] at H
               exact absurd H (by simp)
             ·rw [if_neg c19] at H
              exact absurd H (by simp)
     ·rw [if_neg c6] at H
      exact absurd H (by simp)
    ·rw [if_neg c5] at H
     have c5b0 : decide (x6_1 < (l0.length : Int)) = false := dFa c5
     exact aP30
 ·rw [if_neg c3] at H
  have c3b0 : (t160 == 0) = false := beF c3
  have c3b1 : (t160 != 0) = true := bnT c3
  simp only [Option.some.injEq, Prod.mk.injEq] at H
  obtain ⟨rfl, rfl⟩ := H
  go_enter Try.func60, Try.ntmps60
  go_wp2_with (first | ((with_reducible refine gate_callee (f := 55) rfl ?_); refine goesL_ (some 9) rfl rfl Try.func55 (by kernel_rfl) rfl #[.slice A0 l0.length c0] rfl (aP76) ?_; (with_reducible refine (quipuref13_Check.calls k _ _ l0 t160 _ ?side1 ?side2 A2.out).mono ?_); (case side1 => repeat (first | exact HR0.out | (with_reducible refine Kd.C_alloc ?_ _) | (with_reducible refine Kd.C_drewN ?_ _) | (with_reducible refine Kd.C_drew ?_))); (case side2 => exact HC0.out); rintro e w23 ⟨rfl, hb⟩; refine ⟨_, rfl, ?_⟩; have n0_ := aMk (below_step (aP80) hb); clear HB; have HB := n0_; clear n0_; (try clear hb); (try clear hb2); (try clear hk); (try clear hi)))
  exact aP29
def quipuref13_with.f (l0 : List (S53)) (a1 : ByteArray) : Option ((List (S53))) := if (l0.length : Int) > 0 then (if 0 ≤ (wrap64 ((l0.length : Int) - 1)) then (if (wrap64 ((l0.length : Int) - 1)) < (l0.length : Int) then (if ((rd_T53 l0 (wrap64 ((l0.length : Int) - 1))).f0) = 0 then (if ((rd_T53 l0 (wrap64 ((l0.length : Int) - 1))).f2).size + a1.size ≤ 9223372036854775807 then (some (l0.set ((wrap64 ((l0.length : Int) - 1)) : Int).toNat (⟨(rd_T53 l0 (wrap64 ((l0.length : Int) - 1))).f0, (rd_T53 l0 (wrap64 ((l0.length : Int) - 1))).f1, ((rd_T53 l0 (wrap64 ((l0.length : Int) - 1))).f2) ++ a1⟩ : S53))) else (none)) else (if l0.length < 4398046511104 then (some (l0 ++ [(⟨0, 0, a1⟩ : S53)])) else (none))) else (none)) else (none)) else (if l0.length < 4398046511104 then (some (l0 ++ [(⟨0, 0, a1⟩ : S53)])) else (none))
set_option maxHeartbeats 8000000 in
set_option maxRecDepth 100000 in
theorem quipuref13_with.calls (P0_ : Nat → Prop) (u9000_ : Value) (l0 : List (S53)) (a1 : ByteArray) (r : List (S53)) (w0 w : World) (hB : Below w0.heap.size w0 w) (ho0 : Kd.R k53 53 w w0.heap.size P0_ u9000_ l0) (h : quipuref13_with.f l0 a1 = some r) :
  Calls Try.prog 70 #[u9000_, .string a1] w fun e w' => ∃ v0_ : Value, e = .returned (v0_) ∧ Kd.R k53 53 w' w0.heap.size (fun k_ => (P0_ k_ ∨ w.heap.size ≤ k_)) v0_ r ∧ Below w0.heap.size w0 w' ∧ Kept w w' (fun k_ => P0_ k_) := by
 have hu53 := Try.underlying53
 have HO0 := aMk (show Kd.R k53 53 w w0.heap.size (fun k_ => (P0_ k_ ∨ w.heap.size ≤ k_)) u9000_ l0 from Kd.R_mono ho0 (fun k_ hk => (.inl hk)))
 have HK := aMk (Kept.refl w (fun k_ => P0_ k_))
 have HW0 := aMk hB.size
 have HB := aMk hB
 clear hB
 have H : (if (l0.length : Int) > 0 then (if 0 ≤ (wrap64 ((l0.length : Int) - 1)) then (if (wrap64 ((l0.length : Int) - 1)) < (l0.length : Int) then (if ((rd_T53 l0 (wrap64 ((l0.length : Int) - 1))).f0) = 0 then (if ((rd_T53 l0 (wrap64 ((l0.length : Int) - 1))).f2).size + a1.size ≤ 9223372036854775807 then (some (l0.set ((wrap64 ((l0.length : Int) - 1)) : Int).toNat (⟨(rd_T53 l0 (wrap64 ((l0.length : Int) - 1))).f0, (rd_T53 l0 (wrap64 ((l0.length : Int) - 1))).f1, ((rd_T53 l0 (wrap64 ((l0.length : Int) - 1))).f2) ++ a1⟩ : S53))) else (none)) else (if l0.length < 4398046511104 then (some (l0 ++ [(⟨0, 0, a1⟩ : S53)])) else (none))) else (none)) else (none)) else (if l0.length < 4398046511104 then (some (l0 ++ [(⟨0, 0, a1⟩ : S53)])) else (none))) = some r := h
 clear h
 by_cases c3 : (l0.length : Int) > 0
 ·rw [if_pos c3] at H
  have c3b0 : decide (0 < (l0.length : Int)) = true := dTr c3
  have c3b1 : decide (0 < l0.length) = true := dTr (by omega)
  clear c3
  obtain ⟨ji4, hji4⟩ : ∃ j_ : Int, (wrap64 ((l0.length : Int) - 1)) = j_ := ⟨_, rfl⟩
  replace H : (if 0 ≤ (ji4) then (if (ji4) < (l0.length : Int) then (if ((rd_T53 l0 (ji4)).f0) = 0 then (if ((rd_T53 l0 (ji4)).f2).size + a1.size ≤ 9223372036854775807 then (some (l0.set ((ji4) : Int).toNat (⟨(rd_T53 l0 (ji4)).f0, (rd_T53 l0 (ji4)).f1, ((rd_T53 l0 (ji4)).f2) ++ a1⟩ : S53))) else (none)) else (if l0.length < 4398046511104 then (some (l0 ++ [(⟨0, 0, a1⟩ : S53)])) else (none))) else (none)) else (none)) = some r := by first | (rw [hji4] at H; exact H) | (simp only [hji4] at H ⊢; exact H)
  have hji4w : (IntKind.i64.wrap ((l0.length : Int) - 1)) = ji4 := (i64_w _).trans hji4
  by_cases c5 : 0 ≤ (ji4)
  ·rw [if_pos c5] at H
   have c5b0 : decide (0 ≤ (ji4)) = true := dTr c5
   clear c5
   by_cases c6 : (ji4) < (l0.length : Int)
   ·rw [if_pos c6] at H
    have c6b0 : decide ((ji4) < (l0.length : Int)) = true := dTr c6
    clear c6
    by_cases c7 : ((rd_T53 l0 (ji4)).f0) = 0
    ·rw [if_pos c7] at H
     have c7b0 : (((rd_T53 l0 (ji4)).f0) == 0) = true := beT c7
     have c7b1 : (((rd_T53 l0 (ji4)).f0) != 0) = false := bnF c7
     clear c7
     by_cases c8 : ((rd_T53 l0 (ji4)).f2).size + a1.size ≤ 9223372036854775807
     ·rw [if_pos c8] at H
      have c8b0 := eq_true c8
      have c8b1 : decide (((rd_T53 l0 (ji4)).f2).size + a1.size ≤ 9223372036854775807) = true := dTr c8
      try have c8b2 : (9223372036854775807 < ((rd_T53 l0 (ji4)).f2).size + a1.size) = False := eq_false (Nat.not_lt.2 c8)
      obtain ⟨y167, hy167⟩ : ∃ y_ : List (S53), y_ = (l0.set ((ji4) : Int).toNat (⟨(rd_T53 l0 (ji4)).f0, (rd_T53 l0 (ji4)).f1, ((rd_T53 l0 (ji4)).f2) ++ a1⟩ : S53)) := ⟨_, rfl⟩
      replace H : (some y167) = some r := by first | (rw [hy167]; with_reducible exact H) | (have H2_ := (Option.bind_some _ _).symm.trans H; rw [hy167]; with_reducible exact H2_) | (have H2_ := (Option.bind_some _ _).symm.trans H; with_reducible exact H2_) | with_reducible exact H | (rw [hy167]; exact H) | exact H
      have Ny167 := aMk hy167
      clear hy167
      obtain rfl := Option.some.inj H
      obtain ⟨Ao10, co10, eo10⟩ := Kd.R_slice HO0.out
      subst eo10
      have p165 : 0 ≤ ((ji4) : Int) := of_decide_eq_true (aP75)
      have q165 : (ji4) < (l0.length : Int) := of_decide_eq_true (aP75)
      obtain ⟨ad165, e165, hx165_0, hx165_1, hx165_2⟩ := at_T53 (Kd.R_reads' HO0.out).2.2 (ji4) p165 q165
      cases e165
      replace p165 := eq_true p165
      replace q165 := eq_true q165
      have p166 : 0 ≤ ((ji4) : Int) := of_decide_eq_true (aP75)
      have q166 : (ji4) < (l0.length : Int) := of_decide_eq_true (aP75)
      obtain ⟨ad166, e166, hx166_0, hx166_1, hx166_2⟩ := at_T53 (Kd.R_reads' HO0.out).2.2 (ji4) p166 q166
      obtain rfl : ad165 = ad166 := (by injection e166)
      replace p166 := eq_true p166
      replace q166 := eq_true q166
      have p9 : 0 ≤ ((ji4) : Int) := of_decide_eq_true (aP75)
      have q9 : ((ji4) : Int) < ((l0.length : Int) : Int) := of_decide_eq_true (aP75)
      obtain ⟨go9, co9, eo9, gb9, gl9, cl9, HG9⟩ := Kd.R_form HO0.out (by omega)
      (first | cases eo9 | (injection eo9 with ea_ en_ ec_; (first | subst ea_ | (injection ea_ with ea_; subst ea_)); subst ec_; clear en_))
      have GB9 := aMk gb9
      have GG9 := aMk HG9
      clear gb9 gl9 HG9
      have HMgo9 := aMk (show (P0_ go9 ∨ w.heap.size ≤ go9) from (HO0.out.1 _ rfl))
      (first | simp only [add_plain] at hx165_0 | skip)
      (first | simp only [add_plain] at hx165_1 | skip)
      (first | simp only [add_plain] at hx165_2 | skip)
      (first | simp only [add_plain] at hx166_0 | skip)
      (first | simp only [add_plain] at hx166_1 | skip)
      (first | simp only [add_plain] at hx166_2 | skip)
      obtain ⟨ce9, hcl9, hM9, hcc9, hfr9⟩ := Kd.R_elem HO0.out z53 ((ji4) : Int) p9 q9
      obtain rfl := k53_openM hM9
      have hx9_0 : w.cell? ⟨go9, ((ji4) : Int).toNat * 3, none⟩ = some (.int .i64 ((rd_T53 l0 (ji4)).f0)) := hcc9 0 _ rfl
      have hx9_1 : w.cell? ⟨go9, ((ji4) : Int).toNat * 3 + 1, none⟩ = some (.int .i64 ((rd_T53 l0 (ji4)).f1)) := hcc9 1 _ rfl
      have hx9_2 : w.cell? ⟨go9, ((ji4) : Int).toNat * 3 + 2, none⟩ = some (.string ((rd_T53 l0 (ji4)).f2)) := hcc9 2 _ rfl
      have hf9_0 : w.frozen? ⟨go9, ((ji4) : Int).toNat * 3, none⟩ = false := hfr9 0
      have hf9_1 : w.frozen? ⟨go9, ((ji4) : Int).toNat * 3 + 1, none⟩ = false := hfr9 1
      have hf9_2 : w.frozen? ⟨go9, ((ji4) : Int).toNat * 3 + 2, none⟩ = false := hfr9 2
      clear hcl9 hcc9 hfr9 hM9
      replace p9 := eq_true p9
      replace q9 := eq_true q9
      have HX11 := aMk (show Kd.R k53 53 w w0.heap.size (fun k_ => (P0_ k_ ∨ w.heap.size ≤ k_)) (.slice (some ⟨go9, 0, none⟩) l0.length co10) l0 from (aP105))
      obtain ⟨ce11, hcl11, hM11, hcc11, hfr11⟩ := Kd.R_elem HX11.out z53 ((ji4) : Int) (of_decide_eq_true (aP75)) (by have h_ : ((ji4) : Int) < ((l0.length : Int) : Int) := of_decide_eq_true (aP75); first | exact h_ | (have e_ := (Kd.R_reads' HO0.out).1; omega) | simpa using h_)
      obtain rfl := k53_openM hM11
      have HP11 := Kd.R_seg HX11.out ((ji4) : Int) (of_decide_eq_true (aP75)) (by have h_ : ((ji4) : Int) < ((l0.length : Int) : Int) := of_decide_eq_true (aP75); first | exact h_ | (have e_ := (Kd.R_reads' HO0.out).1; omega) | simpa using h_) (seg := [.string (((rd_T53 l0 (ji4)).f2) ++ a1)]) (j := 2) hcl11 hcc11 (show 3 ≤ 3 from by decide) (x' := (⟨(rd_T53 l0 (ji4)).f0, (rd_T53 l0 (ji4)).f1, ((rd_T53 l0 (ji4)).f2) ++ a1⟩ : S53)) (k53_mkM _ _ _ (⟨(rd_T53 l0 (ji4)).f0, (rd_T53 l0 (ji4)).f1, ((rd_T53 l0 (ji4)).f2) ++ a1⟩ : S53) ) (fun _ hk => hk)
      have hx11_2 := hcc11 2 _ rfl
      (try simp only [show (k53).sz = 3 from rfl, Nat.mul_one, Nat.add_zero] at hx11_2)
      have hf11_2 := hfr11 2
      (try simp only [show (k53).sz = 3 from rfl, Nat.mul_one, Nat.add_zero] at hf11_2)
      clear hcl11 hcc11 hfr11 hM11
      go_enter Try.func70, Try.ntmps70
      go_wp2_with (first | ((with_reducible refine gate_store (t := 9) (p := 28) rfl ?_); refine store_event (t := 9) (p := 28) (v := ?vo_w12) (w1 := (w.setCell ⟨go9, ((ji4) : Int).toNat * 3 + 2, none⟩ (.string (((rd_T53 l0 (ji4)).f2) ++ a1)))) ?hg ?ho ?hn ?hr ?_; (case ho => rfl); (case hg => rfl); (case hn => rfl); (case hr => first | (go_simp; done) | (go_simp; rfl)); intro w12 hw; have hg : w.grownBy w12 (some go9) := (by rw [hw]; exact HP11.2); have hp_ : Kd.R k53 53 w12 w0.heap.size (fun k_ => (P0_ k_ ∨ w.heap.size ≤ k_)) (.slice (some ⟨go9, 0, none⟩) l0.length co10) y167 := (by rw [hw, Ny167.out]; exact HP11.1); clear HP11; have n0_ := aMk (hp_); have n1_ := aMk ((by rw [hw]; exact below_set (HB.out) GB9.out : Below w0.heap.size w0 w12)); have n2_ := aMk (Kept.of_grown (S := (fun k_ => P0_ k_)) hg (aP106) (fun k_ e_ => (HO0.out.1 k_ e_))); clear HO0; clear HB; clear HK; have HO0 := n0_; have HB := n1_; have HK := n2_; clear n0_ n1_ n2_; clear hg hw hp_))
      go_ret
      exact ⟨_, by first | rfl | (simp [errW_none, errW_some] <;> rfl) | (simp only [← hji4]; first | rfl | (simp [errW_none, errW_some] <;> rfl)) | (simp [*, errW_none, errW_some] <;> rfl), aP105, aP80, aP106⟩
     ·rw [if_neg c8] at H
      exact absurd H (by simp)
    ·rw [if_neg c7] at H
     have c7b0 : (((rd_T53 l0 (ji4)).f0) == 0) = false := beF c7
     have c7b1 : (((rd_T53 l0 (ji4)).f0) != 0) = true := bnT c7
     by_cases c13 : l0.length < 4398046511104
     ·rw [if_pos c13] at H
      have LMc13 := aMk c13
      clear c13
      obtain ⟨y168, hy168⟩ : ∃ y_ : List (S53), y_ = (l0 ++ [(⟨0, 0, a1⟩ : S53)]) := ⟨_, rfl⟩
      replace H : (some y168) = some r := by first | (rw [hy168]; with_reducible exact H) | (have H2_ := (Option.bind_some _ _).symm.trans H; rw [hy168]; with_reducible exact H2_) | (have H2_ := (Option.bind_some _ _).symm.trans H; with_reducible exact H2_) | with_reducible exact H | (rw [hy168]; exact H) | exact H
      have Ny168 := aMk hy168
      clear hy168
      obtain rfl := Option.some.inj H
      obtain ⟨Ao14, co14, eo14⟩ := Kd.R_slice HO0.out
      subst eo14
      have p165 : 0 ≤ ((ji4) : Int) := of_decide_eq_true (aP75)
      have q165 : (ji4) < (l0.length : Int) := of_decide_eq_true (aP75)
      obtain ⟨ad165, e165, hx165_0, hx165_1, hx165_2⟩ := at_T53 (Kd.R_reads' HO0.out).2.2 (ji4) p165 q165
      cases e165
      replace p165 := eq_true p165
      replace q165 := eq_true q165
      go_enter Try.func70, Try.ntmps70
      go_wp2_with (first | ((with_reducible refine gate_builtin (b := .append) (xs := #[.tmp 30, .tmp 33]) rfl ?_); (try (refine gate_guard (by rfl) ?_; dsimp only)); at_builtin; refine Kd.R_append k53 (w0 := w0) w0.heap.size rfl (.tmp 30) (.tmp 33) 22 53 (.agg #[(.int .i64 0), (.int .i64 0), (.string ⟨#[]⟩)]) 32 rfl Try.underlying22 info53 rfl (by decide) (by omega) (.slice (some ad165) l0.length co14) l0 (⟨0, 0, a1⟩ : S53) [.int .i64 0, .int .i64 0, .string a1] (fun k_ => (P0_ k_ ∨ w.heap.size ≤ k_)) (fun _ => False) rfl rfl ?aP (fun _ hk => hk.elim) ?aF ?aO ?aB ?aS ?aL ?_; (case aP => exact k53_mkM _ _ _ (⟨0, 0, a1⟩ : S53)); (case aB => exact (aP80)); (case aF => exact (fun k_ hk => (.inr (Nat.le_trans (aP107) hk)))); (case aO => exact (aP105)); (case aS => exact (below_size (aP80))); (case aL => have := LMc13.out; omega); intro v169 w15 ho hb hg hat; rw [← Ny168.out] at ho; have n0_ := aMk (hb); have n1_ := aMk (Kept.of_grown (S := (fun k_ => P0_ k_)) hg (aP106) (fun k_ e_ => (HO0.out.1 k_ e_))); have n2_ := aMk (ho); clear HB; clear HK; clear HO0; have HB := n0_; have HK := n1_; have HO170 := n2_; clear n0_ n1_ n2_; clear ho hb hg hat))
      go_ret
      exact ⟨_, by first | rfl | (simp [errW_none, errW_some] <;> rfl) | (simp only [← hji4]; first | rfl | (simp [errW_none, errW_some] <;> rfl)) | (simp [*, errW_none, errW_some] <;> rfl), by (with_reducible repeat (first | apply Kd.R_alloc | apply Kd.R_drewN | apply Kd.R_drew)); exact HO170.out, aP80, aP106⟩
     ·rw [if_neg c13] at H
      exact absurd H (by simp)
   ·rw [if_neg c6] at H
    exact absurd H (by simp)
  ·rw [if_neg c5] at H
   exact absurd H (by simp)
 ·rw [if_neg c3] at H
  have c3b0 : decide (0 < (l0.length : Int)) = false := dFa c3
  have c3b1 : decide (0 < l0.length) = false := dFa (by omega)
  clear c3
  by_cases c16 : l0.length < 4398046511104
  ·rw [if_pos c16] at H
   have LMc16 := aMk c16
   clear c16
   obtain ⟨y171, hy171⟩ : ∃ y_ : List (S53), y_ = (l0 ++ [(⟨0, 0, a1⟩ : S53)]) := ⟨_, rfl⟩
   replace H : (some y171) = some r := by first | (rw [hy171]; with_reducible exact H) | (have H2_ := (Option.bind_some _ _).symm.trans H; rw [hy171]; with_reducible exact H2_) | (have H2_ := (Option.bind_some _ _).symm.trans H; with_reducible exact H2_) | with_reducible exact H | (rw [hy171]; exact H) | exact H
   have Ny171 := aMk hy171
   clear hy171
   obtain rfl := Option.some.inj H
   obtain ⟨Ao17, co17, eo17⟩ := Kd.R_slice HO0.out
   subst eo17
   go_enter Try.func70, Try.ntmps70
   go_wp2_with (first | ((with_reducible refine gate_builtin (b := .append) (xs := #[.tmp 30, .tmp 33]) rfl ?_); (try (refine gate_guard (by rfl) ?_; dsimp only)); at_builtin; refine Kd.R_append k53 (w0 := w0) w0.heap.size rfl (.tmp 30) (.tmp 33) 22 53 (.agg #[(.int .i64 0), (.int .i64 0), (.string ⟨#[]⟩)]) 32 rfl Try.underlying22 info53 rfl (by decide) (by omega) (.slice Ao17 l0.length co17) l0 (⟨0, 0, a1⟩ : S53) [.int .i64 0, .int .i64 0, .string a1] (fun k_ => (P0_ k_ ∨ w.heap.size ≤ k_)) (fun _ => False) rfl rfl ?aP (fun _ hk => hk.elim) ?aF ?aO ?aB ?aS ?aL ?_; (case aP => exact k53_mkM _ _ _ (⟨0, 0, a1⟩ : S53)); (case aB => exact (aP80)); (case aF => exact (fun k_ hk => (.inr (Nat.le_trans (aP107) hk)))); (case aO => exact (aP105)); (case aS => exact (below_size (aP80))); (case aL => have := LMc16.out; omega); intro v172 w18 ho hb hg hat; rw [← Ny171.out] at ho; have n0_ := aMk (hb); have n1_ := aMk (Kept.of_grown (S := (fun k_ => P0_ k_)) hg (aP106) (fun k_ e_ => (HO0.out.1 k_ e_))); have n2_ := aMk (ho); clear HB; clear HK; clear HO0; have HB := n0_; have HK := n1_; have HO173 := n2_; clear n0_ n1_ n2_; clear ho hb hg hat))
   go_ret
   exact ⟨_, aP91, by (with_reducible repeat (first | apply Kd.R_alloc | apply Kd.R_drewN | apply Kd.R_drew)); exact HO173.out, aP80, aP106⟩
  ·rw [if_neg c16] at H
   exact absurd H (by simp)
def quipuref13_signed.j0 : Nat → List (S53) → Int → Int → Bool → Option ((List (S53)) × Bool)
 | 0, _, _, _, _ => none
 | k + 1, x0, x1, x6, x24 => if x24 = true then (if 0 ≤ (wrap64 (x6 - 1)) then (if (wrap64 (x6 - 1)) < (x0.length : Int) then ((some (x0.set ((wrap64 (x6 - 1)) : Int).toNat (⟨(rd_T53 x0 (wrap64 (x6 - 1))).f0, wrap64 (((rd_T53 x0 (wrap64 (x6 - 1))).f1) + 1), (rd_T53 x0 (wrap64 (x6 - 1))).f2⟩ : S53) : List (S53))).bind fun y176 => (some (y176, decide (((rd_T53 y176 (wrap64 (x6 - 1))).f1) ≤ 3)))) else (none)) else (none)) else (if x1 = 5 then (if x0.length < 4398046511104 then (some ((x0 ++ [(⟨x1, 1, (⟨#[]⟩ : ByteArray)⟩ : S53)]), true)) else (none)) else (if x0.length < 4398046511104 then (some ((x0 ++ [(⟨x1, 0, (⟨#[]⟩ : ByteArray)⟩ : S53)]), true)) else (none)))
def quipuref13_signed.f (k : Nat) (l0 : List (S53)) (a1 : Int) : Option ((List (S53)) × Bool) := if a1 = 5 then (if (l0.length : Int) > 0 then (if 0 ≤ (wrap64 ((l0.length : Int) - 1)) then (if (wrap64 ((l0.length : Int) - 1)) < (l0.length : Int) then (quipuref13_signed.j0 k l0 a1 (l0.length : Int) (((rd_T53 l0 (wrap64 ((l0.length : Int) - 1))).f0) == 5)) else (none)) else (none)) else (quipuref13_signed.j0 k l0 a1 (l0.length : Int) false)) else (quipuref13_signed.j0 k l0 a1 (l0.length : Int) false)
set_option maxHeartbeats 8000000 in
set_option maxRecDepth 100000 in
theorem quipuref13_signed.calls (k : Nat) (P0_ : Nat → Prop) (u9000_ : Value) (l0 : List (S53)) (a1 : Int) (r1 : List (S53)) (r2 : Bool) (w0 w : World) (hB : Below w0.heap.size w0 w) (ho0 : Kd.R k53 53 w w0.heap.size P0_ u9000_ l0) (h : quipuref13_signed.f k l0 a1 = some (r1, r2)) :
  Calls Try.prog 73 #[u9000_, .int .i64 a1] w fun e w' => ∃ v0_ : Value, e = .returned (.tuple #[v0_, .bool r2]) ∧ Kd.R k53 53 w' w0.heap.size (fun k_ => (P0_ k_ ∨ w.heap.size ≤ k_)) v0_ r1 ∧ Below w0.heap.size w0 w' ∧ Kept w w' (fun k_ => P0_ k_) := by
 have hu53 := Try.underlying53
 have HO0 := aMk (show Kd.R k53 53 w w0.heap.size (fun k_ => (P0_ k_ ∨ w.heap.size ≤ k_)) u9000_ l0 from Kd.R_mono ho0 (fun k_ hk => (.inl hk)))
 have HK := aMk (Kept.refl w (fun k_ => P0_ k_))
 have HW0 := aMk hB.size
 have HB := aMk hB
 clear hB
 have H : (if a1 = 5 then (if (l0.length : Int) > 0 then (if 0 ≤ (wrap64 ((l0.length : Int) - 1)) then (if (wrap64 ((l0.length : Int) - 1)) < (l0.length : Int) then (quipuref13_signed.j0 k l0 a1 (l0.length : Int) (((rd_T53 l0 (wrap64 ((l0.length : Int) - 1))).f0) == 5)) else (none)) else (none)) else (quipuref13_signed.j0 k l0 a1 (l0.length : Int) false)) else (quipuref13_signed.j0 k l0 a1 (l0.length : Int) false)) = some (r1, r2) := h
 clear h
 have HC3 := aMk H
 clear H
 obtain ⟨Ao4, co4, eo4⟩ := Kd.R_slice HO0.out
 subst eo4
 go_enter Try.func73, Try.ntmps73
 go_upto_region 2 with (fail)
 repeat (go_quiet (fail); go_upto_region 2 with (fail))
 go_cut [24] (fun v24 wc => ∃ (kq : Nat) (x24_2 : Bool), v24 = .bool x24_2 ∧ Aside0 (quipuref13_signed.j0 kq l0 a1 (l0.length : Int) x24_2 = some (r1, r2)) ∧ Aside0 (kq ≤ k) ∧ Aside0 (Kd.R k53 53 wc w0.heap.size (fun k_ => (P0_ k_ ∨ w.heap.size ≤ k_)) (.slice Ao4 l0.length co4) l0) ∧ Aside0 (Kept w wc (fun k_ => P0_ k_)) ∧ Aside0 (Below w0.heap.size w0 wc))
 case first =>
  have H := HC3.out
  clear HC3
  by_cases c5 : a1 = 5
  ·rw [if_pos c5] at H
   have c5b0 : (a1 == 5) = true := beT c5
   have c5b1 : (a1 != 5) = false := bnF c5
   clear c5
   (first | rw [c5b0] | (simp only [i64_w, i32_w]; rw [c5b0]) | skip)
   by_cases c6 : (l0.length : Int) > 0
   ·rw [if_pos c6] at H
    have c6b0 : decide (0 < (l0.length : Int)) = true := dTr c6
    have c6b1 : decide (0 < l0.length) = true := dTr (by omega)
    clear c6
    obtain ⟨ji7, hji7⟩ : ∃ j_ : Int, (wrap64 ((l0.length : Int) - 1)) = j_ := ⟨_, rfl⟩
    replace H : (if 0 ≤ (ji7) then (if (ji7) < (l0.length : Int) then (quipuref13_signed.j0 k l0 a1 (l0.length : Int) (((rd_T53 l0 (ji7)).f0) == 5)) else (none)) else (none)) = some (r1, r2) := by first | (rw [hji7] at H; exact H) | (simp only [hji7] at H ⊢; exact H)
    have hji7w : (IntKind.i64.wrap ((l0.length : Int) - 1)) = ji7 := (i64_w _).trans hji7
    by_cases c8 : 0 ≤ (ji7)
    ·rw [if_pos c8] at H
     have c8b0 : decide (0 ≤ (ji7)) = true := dTr c8
     clear c8
     by_cases c9 : (ji7) < (l0.length : Int)
     ·rw [if_pos c9] at H
      have c9b0 : decide ((ji7) < (l0.length : Int)) = true := dTr c9
      clear c9
      have H' := aMk H
      clear H
      have p174 : 0 ≤ ((ji7) : Int) := of_decide_eq_true (aP75)
      have q174 : (ji7) < (l0.length : Int) := of_decide_eq_true (aP75)
      obtain ⟨ad174, e174, hx174_0, hx174_1, hx174_2⟩ := at_T53 (Kd.R_reads' HO0.out).2.2 (ji7) p174 q174
      cases e174
      replace p174 := eq_true p174
      replace q174 := eq_true q174
      go_wp2
      repeat (go_quiet (fail); try go_wp2)
      go_meet
      case rel => exact ⟨_, ((((rd_T53 l0 (ji7)).f0) == 5)), (by first | rfl | (simp; done) | (simp only [← hji7] <;> (first | rfl | simp)) | (simp [*]; done)), H', ⟨aP82⟩, ⟨aP105⟩, ⟨aP106⟩, ⟨aP80⟩⟩
     ·rw [if_neg c9] at H
      exact absurd H (by simp)
    ·rw [if_neg c8] at H
     exact absurd H (by simp)
   ·rw [if_neg c6] at H
    have c6b0 : decide (0 < (l0.length : Int)) = false := dFa c6
    have c6b1 : decide (0 < l0.length) = false := dFa (by omega)
    clear c6
    exact aP46
  ·rw [if_neg c5] at H
   have c5b0 : (a1 == 5) = false := beF c5
   have c5b1 : (a1 != 5) = true := bnT c5
   (first | rw [c5b0] | (simp only [i64_w, i32_w]; rw [c5b0]) | skip)
   exact aP46
 case rest =>
  clear HC3
  try clear p1
  try clear q1
  try clear hx1
  try clear p2
  try clear c5
  try clear c5b0
  try clear c5b1
  try clear c6
  try clear c6b0
  try clear c6b1
  try clear p6
  try clear c7
  try clear c8
  try clear c8b0
  try clear c9
  try clear c9b0
  try clear hx174_0
  try clear hx174_1
  try clear hx174_2
  try clear p174
  try clear q174
  obtain ⟨kq, x24_2, rfl, HA, HJ2, HO_0, HK, HB⟩ := hcut
  cases kq with
  | zero => exact absurd HA.out (by simp [quipuref13_signed.j0])
  | succ kj2 =>
   have H := HA.out
   clear HA
   simp only [quipuref13_signed.j0] at H
   by_cases c10 : x24_2 = true
   ·subst c10
    have H1 : (if 0 ≤ (wrap64 ((l0.length : Int) - 1)) then (if (wrap64 ((l0.length : Int) - 1)) < (l0.length : Int) then ((some (l0.set ((wrap64 ((l0.length : Int) - 1)) : Int).toNat (⟨(rd_T53 l0 (wrap64 ((l0.length : Int) - 1))).f0, wrap64 (((rd_T53 l0 (wrap64 ((l0.length : Int) - 1))).f1) + 1), (rd_T53 l0 (wrap64 ((l0.length : Int) - 1))).f2⟩ : S53) : List (S53))).bind fun y176 => (some (y176, decide (((rd_T53 y176 (wrap64 ((l0.length : Int) - 1))).f1) ≤ 3)))) else (none)) else (none)) = some (r1, r2) := aP79
    clear H
    have H := H1
    clear H1
    obtain ⟨ji11, hji11⟩ : ∃ j_ : Int, (wrap64 ((l0.length : Int) - 1)) = j_ := ⟨_, rfl⟩
    replace H : (if 0 ≤ (ji11) then (if (ji11) < (l0.length : Int) then ((some (l0.set ((ji11) : Int).toNat (⟨(rd_T53 l0 (ji11)).f0, wrap64 (((rd_T53 l0 (ji11)).f1) + 1), (rd_T53 l0 (ji11)).f2⟩ : S53) : List (S53))).bind fun y176 => (some (y176, decide (((rd_T53 y176 (ji11)).f1) ≤ 3)))) else (none)) else (none)) = some (r1, r2) := by first | (rw [hji11] at H; exact H) | (simp only [hji11] at H ⊢; exact H)
    have hji11w : (IntKind.i64.wrap ((l0.length : Int) - 1)) = ji11 := (i64_w _).trans hji11
    by_cases c12 : 0 ≤ (ji11)
    ·rw [if_pos c12] at H
     have c12b0 : decide (0 ≤ (ji11)) = true := dTr c12
     clear c12
     by_cases c13 : (ji11) < (l0.length : Int)
     ·rw [if_pos c13] at H
      have c13b0 : decide ((ji11) < (l0.length : Int)) = true := dTr c13
      clear c13
      obtain ⟨y176, hy176⟩ : ∃ y_ : List (S53), y_ = (l0.set ((ji11) : Int).toNat (⟨(rd_T53 l0 (ji11)).f0, wrap64 (((rd_T53 l0 (ji11)).f1) + 1), (rd_T53 l0 (ji11)).f2⟩ : S53)) := ⟨_, rfl⟩
      replace H : (some (y176, decide (((rd_T53 y176 (ji11)).f1) ≤ 3))) = some (r1, r2) := by first | (rw [hy176]; with_reducible exact H) | (have H2_ := (Option.bind_some _ _).symm.trans H; rw [hy176]; with_reducible exact H2_) | (have H2_ := (Option.bind_some _ _).symm.trans H; with_reducible exact H2_) | with_reducible exact H | (rw [hy176]; exact H) | exact H
      have Ny176 := aMk hy176
      clear hy176
      simp only [Option.some.injEq, Prod.mk.injEq] at H
      obtain ⟨rfl, rfl⟩ := H
      have p175 : 0 ≤ ((ji11) : Int) := of_decide_eq_true (aP75)
      have q175 : (ji11) < (l0.length : Int) := of_decide_eq_true (aP75)
      obtain ⟨ad175, e175, hx175_0, hx175_1, hx175_2⟩ := at_T53 (Kd.R_reads' HO_0.out).2.2 (ji11) p175 q175
      cases e175
      replace p175 := eq_true p175
      replace q175 := eq_true q175
      have p14 : 0 ≤ ((ji11) : Int) := of_decide_eq_true (aP75)
      have q14 : ((ji11) : Int) < ((l0.length : Int) : Int) := of_decide_eq_true (aP75)
      obtain ⟨go14, co14, eo14, gb14, gl14, cl14, HG14⟩ := Kd.R_form HO_0.out (by omega)
      (first | cases eo14 | (injection eo14 with ea_ en_ ec_; (first | subst ea_ | (injection ea_ with ea_; subst ea_)); subst ec_; clear en_))
      have GB14 := aMk gb14
      have GG14 := aMk HG14
      clear gb14 gl14 HG14
      have HMgo14 := aMk (show (P0_ go14 ∨ w.heap.size ≤ go14) from (HO_0.out.1 _ rfl))
      (first | simp only [add_plain] at hx175_0 | skip)
      (first | simp only [add_plain] at hx175_1 | skip)
      (first | simp only [add_plain] at hx175_2 | skip)
      obtain ⟨ce14, hcl14, hM14, hcc14, hfr14⟩ := Kd.R_elem HO_0.out z53 ((ji11) : Int) p14 q14
      obtain rfl := k53_openM hM14
      have hx14_0 : wc.cell? ⟨go14, ((ji11) : Int).toNat * 3, none⟩ = some (.int .i64 ((rd_T53 l0 (ji11)).f0)) := hcc14 0 _ rfl
      have hx14_1 : wc.cell? ⟨go14, ((ji11) : Int).toNat * 3 + 1, none⟩ = some (.int .i64 ((rd_T53 l0 (ji11)).f1)) := hcc14 1 _ rfl
      have hx14_2 : wc.cell? ⟨go14, ((ji11) : Int).toNat * 3 + 2, none⟩ = some (.string ((rd_T53 l0 (ji11)).f2)) := hcc14 2 _ rfl
      have hf14_0 : wc.frozen? ⟨go14, ((ji11) : Int).toNat * 3, none⟩ = false := hfr14 0
      have hf14_1 : wc.frozen? ⟨go14, ((ji11) : Int).toNat * 3 + 1, none⟩ = false := hfr14 1
      have hf14_2 : wc.frozen? ⟨go14, ((ji11) : Int).toNat * 3 + 2, none⟩ = false := hfr14 2
      clear hcl14 hcc14 hfr14 hM14
      replace p14 := eq_true p14
      replace q14 := eq_true q14
      have HX15 := aMk (show Kd.R k53 53 wc w0.heap.size (fun k_ => (P0_ k_ ∨ w.heap.size ≤ k_)) (.slice (some ⟨go14, 0, none⟩) l0.length co4) l0 from (aP108))
      obtain ⟨ce15, hcl15, hM15, hcc15, hfr15⟩ := Kd.R_elem HX15.out z53 ((ji11) : Int) (of_decide_eq_true (aP75)) (by have h_ : ((ji11) : Int) < ((l0.length : Int) : Int) := of_decide_eq_true (aP75); first | exact h_ | (have e_ := (Kd.R_reads' HO_0.out).1; omega) | simpa using h_)
      obtain rfl := k53_openM hM15
      have HP15 := Kd.R_seg HX15.out ((ji11) : Int) (of_decide_eq_true (aP75)) (by have h_ : ((ji11) : Int) < ((l0.length : Int) : Int) := of_decide_eq_true (aP75); first | exact h_ | (have e_ := (Kd.R_reads' HO_0.out).1; omega) | simpa using h_) (seg := [.int .i64 (wrap64 (((rd_T53 l0 (ji11)).f1) + 1))]) (j := 1) hcl15 hcc15 (show 2 ≤ 3 from by decide) (x' := (⟨(rd_T53 l0 (ji11)).f0, wrap64 (((rd_T53 l0 (ji11)).f1) + 1), (rd_T53 l0 (ji11)).f2⟩ : S53)) (k53_mkM _ _ _ (⟨(rd_T53 l0 (ji11)).f0, wrap64 (((rd_T53 l0 (ji11)).f1) + 1), (rd_T53 l0 (ji11)).f2⟩ : S53) ) (fun _ hk => hk)
      have hx15_1 := hcc15 1 _ rfl
      (try simp only [show (k53).sz = 3 from rfl, Nat.mul_one, Nat.add_zero] at hx15_1)
      have hf15_1 := hfr15 1
      (try simp only [show (k53).sz = 3 from rfl, Nat.mul_one, Nat.add_zero] at hf15_1)
      clear hcl15 hcc15 hfr15 hM15
      go_wp2_with (first | ((with_reducible refine gate_store (t := 3) (p := 33) rfl ?_); (try (rw [drewN_self wc]; generalize hq_ : World.drewN wc _ = wc; have n0_ := aMk (Kd.R_at hq_ HO_0.out); have n1_ := aMk (kept_at hq_ HK.out); have n2_ := aMk (below_at hq_ HB.out); clear hq_ HO_0 HK HB; have HO_0 := n0_; have HK := n1_; have HB := n2_; clear n0_ n1_ n2_; (try (have HX15 := aMk (show Kd.R k53 53 wc w0.heap.size (fun k_ => (P0_ k_ ∨ w.heap.size ≤ k_)) (.slice (some ⟨go14, 0, none⟩) l0.length co4) l0 from (aP108)))); (try (obtain ⟨ce15, hcl15, hM15, hcc15, hfr15⟩ := Kd.R_elem HX15.out z53 ((ji11) : Int) (of_decide_eq_true (aP75)) (by have h_ : ((ji11) : Int) < ((l0.length : Int) : Int) := of_decide_eq_true (aP75); first | exact h_ | (have e_ := (Kd.R_reads' HO_0.out).1; omega) | simpa using h_))); (try (obtain rfl := k53_openM hM15)); (try (have HP15 := Kd.R_seg HX15.out ((ji11) : Int) (of_decide_eq_true (aP75)) (by have h_ : ((ji11) : Int) < ((l0.length : Int) : Int) := of_decide_eq_true (aP75); first | exact h_ | (have e_ := (Kd.R_reads' HO_0.out).1; omega) | simpa using h_) (seg := [.int .i64 (wrap64 (((rd_T53 l0 (ji11)).f1) + 1))]) (j := 1) hcl15 hcc15 (show 2 ≤ 3 from by decide) (x' := (⟨(rd_T53 l0 (ji11)).f0, wrap64 (((rd_T53 l0 (ji11)).f1) + 1), (rd_T53 l0 (ji11)).f2⟩ : S53)) (k53_mkM _ _ _ (⟨(rd_T53 l0 (ji11)).f0, wrap64 (((rd_T53 l0 (ji11)).f1) + 1), (rd_T53 l0 (ji11)).f2⟩ : S53) ) (fun _ hk => hk))); (try (have hx15_1 := hcc15 1 _ rfl)); (try (try simp only [show (k53).sz = 3 from rfl, Nat.mul_one, Nat.add_zero] at hx15_1)); (try (have hf15_1 := hfr15 1)); (try (try simp only [show (k53).sz = 3 from rfl, Nat.mul_one, Nat.add_zero] at hf15_1)); (try (clear hcl15 hcc15 hfr15 hM15)))); refine store_event (t := 3) (p := 33) (v := ?vo_w16) (w1 := (wc.setCell ⟨go14, ((ji11) : Int).toNat * 3 + 1, none⟩ (.int .i64 (wrap64 (((rd_T53 l0 (ji11)).f1) + 1))))) ?hg ?ho ?hn ?hr ?_; (case ho => rfl); (case hg => rfl); (case hn => rfl); (case hr => first | (go_simp; done) | (go_simp; rfl)); intro w16 hw; have hg : wc.grownBy w16 (some go14) := (by rw [hw]; exact HP15.2); have hp_ : Kd.R k53 53 w16 w0.heap.size (fun k_ => (P0_ k_ ∨ w.heap.size ≤ k_)) (.slice (some ⟨go14, 0, none⟩) l0.length co4) y176 := (by rw [hw, Ny176.out]; exact HP15.1); clear HP15; have n0_ := aMk (hp_); have n1_ := aMk ((aP109 : Below w0.heap.size w0 w16)); have n2_ := aMk (Kept.of_grown (S := (fun k_ => P0_ k_)) hg (aP106) (fun k_ e_ => (HO_0.out.1 k_ e_))); clear HO_0; clear HB; clear HK; have HO_0 := n0_; have HB := n1_; have HK := n2_; clear n0_ n1_ n2_; clear hg hw hp_; have p177 : 0 ≤ ((ji11) : Int) := of_decide_eq_true (aP75); have q177 : (ji11) < (y176.length : Int) := (by have h_ : ((ji11) : Int) < ((l0.length : Int) : Int) := of_decide_eq_true (aP75); first | (have e_ := (Kd.R_reads' HO_0.out).1; omega) | simpa only [Ny176.out, List.length_set] using h_); have ql177 : (((ji11) : Int) < ((l0.length : Int) : Int)) = True := eq_true (of_decide_eq_true (aP75)); obtain ⟨ad177, e177, hx177_0, hx177_1, hx177_2⟩ := at_T53 (Kd.R_reads' HO_0.out).2.2 (ji11) p177 q177; obtain rfl : (⟨go14, 0, none⟩ : Addr) = ad177 := (by injection e177); (first | simp only [add_plain] at hx177_0 | simp only [add_at] at hx177_0 | simp only [Addr.add, Nat.zero_add] at hx177_0 | skip); (first | simp only [add_plain] at hx177_1 | simp only [add_at] at hx177_1 | simp only [Addr.add, Nat.zero_add] at hx177_1 | skip); (first | simp only [add_plain] at hx177_2 | simp only [add_at] at hx177_2 | simp only [Addr.add, Nat.zero_add] at hx177_2 | skip); replace p177 := eq_true p177; replace q177 := eq_true q177))
      repeat (go_quiet (first | ((with_reducible refine gate_store (t := 3) (p := 33) rfl ?_); (try (rw [drewN_self wc]; generalize hq_ : World.drewN wc _ = wc; have n0_ := aMk (Kd.R_at hq_ HO_0.out); have n1_ := aMk (kept_at hq_ HK.out); have n2_ := aMk (below_at hq_ HB.out); clear hq_ HO_0 HK HB; have HO_0 := n0_; have HK := n1_; have HB := n2_; clear n0_ n1_ n2_; (try (have HX15 := aMk (show Kd.R k53 53 wc w0.heap.size (fun k_ => (P0_ k_ ∨ w.heap.size ≤ k_)) (.slice (some ⟨go14, 0, none⟩) l0.length co4) l0 from (aP108)))); (try (obtain ⟨ce15, hcl15, hM15, hcc15, hfr15⟩ := Kd.R_elem HX15.out z53 ((ji11) : Int) (of_decide_eq_true (aP75)) (by have h_ : ((ji11) : Int) < ((l0.length : Int) : Int) := of_decide_eq_true (aP75); first | exact h_ | (have e_ := (Kd.R_reads' HO_0.out).1; omega) | simpa using h_))); (try (obtain rfl := k53_openM hM15)); (try (have HP15 := Kd.R_seg HX15.out ((ji11) : Int) (of_decide_eq_true (aP75)) (by have h_ : ((ji11) : Int) < ((l0.length : Int) : Int) := of_decide_eq_true (aP75); first | exact h_ | (have e_ := (Kd.R_reads' HO_0.out).1; omega) | simpa using h_) (seg := [.int .i64 (wrap64 (((rd_T53 l0 (ji11)).f1) + 1))]) (j := 1) hcl15 hcc15 (show 2 ≤ 3 from by decide) (x' := (⟨(rd_T53 l0 (ji11)).f0, wrap64 (((rd_T53 l0 (ji11)).f1) + 1), (rd_T53 l0 (ji11)).f2⟩ : S53)) (k53_mkM _ _ _ (⟨(rd_T53 l0 (ji11)).f0, wrap64 (((rd_T53 l0 (ji11)).f1) + 1), (rd_T53 l0 (ji11)).f2⟩ : S53) ) (fun _ hk => hk))); (try (have hx15_1 := hcc15 1 _ rfl)); (try (try simp only [show (k53).sz = 3 from rfl, Nat.mul_one, Nat.add_zero] at hx15_1)); (try (have hf15_1 := hfr15 1)); (try (try simp only [show (k53).sz = 3 from rfl, Nat.mul_one, Nat.add_zero] at hf15_1)); (try (clear hcl15 hcc15 hfr15 hM15)))); refine store_event (t := 3) (p := 33) (v := ?vo_w16) (w1 := (wc.setCell ⟨go14, ((ji11) : Int).toNat * 3 + 1, none⟩ (.int .i64 (wrap64 (((rd_T53 l0 (ji11)).f1) + 1))))) ?hg ?ho ?hn ?hr ?_; (case ho => rfl); (case hg => rfl); (case hn => rfl); (case hr => first | (go_simp; done) | (go_simp; rfl)); intro w16 hw; have hg : wc.grownBy w16 (some go14) := (by rw [hw]; exact HP15.2); have hp_ : Kd.R k53 53 w16 w0.heap.size (fun k_ => (P0_ k_ ∨ w.heap.size ≤ k_)) (.slice (some ⟨go14, 0, none⟩) l0.length co4) y176 := (by rw [hw, Ny176.out]; exact HP15.1); clear HP15; have n0_ := aMk (hp_); have n1_ := aMk ((aP109 : Below w0.heap.size w0 w16)); have n2_ := aMk (Kept.of_grown (S := (fun k_ => P0_ k_)) hg (aP106) (fun k_ e_ => (HO_0.out.1 k_ e_))); clear HO_0; clear HB; clear HK; have HO_0 := n0_; have HB := n1_; have HK := n2_; clear n0_ n1_ n2_; clear hg hw hp_; have p177 : 0 ≤ ((ji11) : Int) := of_decide_eq_true (aP75); have q177 : (ji11) < (y176.length : Int) := (by have h_ : ((ji11) : Int) < ((l0.length : Int) : Int) := of_decide_eq_true (aP75); first | (have e_ := (Kd.R_reads' HO_0.out).1; omega) | simpa only [Ny176.out, List.length_set] using h_); have ql177 : (((ji11) : Int) < ((l0.length : Int) : Int)) = True := eq_true (of_decide_eq_true (aP75)); obtain ⟨ad177, e177, hx177_0, hx177_1, hx177_2⟩ := at_T53 (Kd.R_reads' HO_0.out).2.2 (ji11) p177 q177; obtain rfl : (⟨go14, 0, none⟩ : Addr) = ad177 := (by injection e177); (first | simp only [add_plain] at hx177_0 | simp only [add_at] at hx177_0 | simp only [Addr.add, Nat.zero_add] at hx177_0 | skip); (first | simp only [add_plain] at hx177_1 | simp only [add_at] at hx177_1 | simp only [Addr.add, Nat.zero_add] at hx177_1 | skip); (first | simp only [add_plain] at hx177_2 | simp only [add_at] at hx177_2 | simp only [Addr.add, Nat.zero_add] at hx177_2 | skip); replace p177 := eq_true p177; replace q177 := eq_true q177)); try go_wp2_with (first | ((with_reducible refine gate_store (t := 3) (p := 33) rfl ?_); (try (rw [drewN_self wc]; generalize hq_ : World.drewN wc _ = wc; have n0_ := aMk (Kd.R_at hq_ HO_0.out); have n1_ := aMk (kept_at hq_ HK.out); have n2_ := aMk (below_at hq_ HB.out); clear hq_ HO_0 HK HB; have HO_0 := n0_; have HK := n1_; have HB := n2_; clear n0_ n1_ n2_; (try (have HX15 := aMk (show Kd.R k53 53 wc w0.heap.size (fun k_ => (P0_ k_ ∨ w.heap.size ≤ k_)) (.slice (some ⟨go14, 0, none⟩) l0.length co4) l0 from (aP108)))); (try (obtain ⟨ce15, hcl15, hM15, hcc15, hfr15⟩ := Kd.R_elem HX15.out z53 ((ji11) : Int) (of_decide_eq_true (aP75)) (by have h_ : ((ji11) : Int) < ((l0.length : Int) : Int) := of_decide_eq_true (aP75); first | exact h_ | (have e_ := (Kd.R_reads' HO_0.out).1; omega) | simpa using h_))); (try (obtain rfl := k53_openM hM15)); (try (have HP15 := Kd.R_seg HX15.out ((ji11) : Int) (of_decide_eq_true (aP75)) (by have h_ : ((ji11) : Int) < ((l0.length : Int) : Int) := of_decide_eq_true (aP75); first | exact h_ | (have e_ := (Kd.R_reads' HO_0.out).1; omega) | simpa using h_) (seg := [.int .i64 (wrap64 (((rd_T53 l0 (ji11)).f1) + 1))]) (j := 1) hcl15 hcc15 (show 2 ≤ 3 from by decide) (x' := (⟨(rd_T53 l0 (ji11)).f0, wrap64 (((rd_T53 l0 (ji11)).f1) + 1), (rd_T53 l0 (ji11)).f2⟩ : S53)) (k53_mkM _ _ _ (⟨(rd_T53 l0 (ji11)).f0, wrap64 (((rd_T53 l0 (ji11)).f1) + 1), (rd_T53 l0 (ji11)).f2⟩ : S53) ) (fun _ hk => hk))); (try (have hx15_1 := hcc15 1 _ rfl)); (try (try simp only [show (k53).sz = 3 from rfl, Nat.mul_one, Nat.add_zero] at hx15_1)); (try (have hf15_1 := hfr15 1)); (try (try simp only [show (k53).sz = 3 from rfl, Nat.mul_one, Nat.add_zero] at hf15_1)); (try (clear hcl15 hcc15 hfr15 hM15)))); refine store_event (t := 3) (p := 33) (v := ?vo_w16) (w1 := (wc.setCell ⟨go14, ((ji11) : Int).toNat * 3 + 1, none⟩ (.int .i64 (wrap64 (((rd_T53 l0 (ji11)).f1) + 1))))) ?hg ?ho ?hn ?hr ?_; (case ho => rfl); (case hg => rfl); (case hn => rfl); (case hr => first | (go_simp; done) | (go_simp; rfl)); intro w16 hw; have hg : wc.grownBy w16 (some go14) := (by rw [hw]; exact HP15.2); have hp_ : Kd.R k53 53 w16 w0.heap.size (fun k_ => (P0_ k_ ∨ w.heap.size ≤ k_)) (.slice (some ⟨go14, 0, none⟩) l0.length co4) y176 := (by rw [hw, Ny176.out]; exact HP15.1); clear HP15; have n0_ := aMk (hp_); have n1_ := aMk ((aP109 : Below w0.heap.size w0 w16)); have n2_ := aMk (Kept.of_grown (S := (fun k_ => P0_ k_)) hg (aP106) (fun k_ e_ => (HO_0.out.1 k_ e_))); clear HO_0; clear HB; clear HK; have HO_0 := n0_; have HB := n1_; have HK := n2_; clear n0_ n1_ n2_; clear hg hw hp_; have p177 : 0 ≤ ((ji11) : Int) := of_decide_eq_true (aP75); have q177 : (ji11) < (y176.length : Int) := (by have h_ : ((ji11) : Int) < ((l0.length : Int) : Int) := of_decide_eq_true (aP75); first | (have e_ := (Kd.R_reads' HO_0.out).1; omega) | simpa only [Ny176.out, List.length_set] using h_); have ql177 : (((ji11) : Int) < ((l0.length : Int) : Int)) = True := eq_true (of_decide_eq_true (aP75)); obtain ⟨ad177, e177, hx177_0, hx177_1, hx177_2⟩ := at_T53 (Kd.R_reads' HO_0.out).2.2 (ji11) p177 q177; obtain rfl : (⟨go14, 0, none⟩ : Addr) = ad177 := (by injection e177); (first | simp only [add_plain] at hx177_0 | simp only [add_at] at hx177_0 | simp only [Addr.add, Nat.zero_add] at hx177_0 | skip); (first | simp only [add_plain] at hx177_1 | simp only [add_at] at hx177_1 | simp only [Addr.add, Nat.zero_add] at hx177_1 | skip); (first | simp only [add_plain] at hx177_2 | simp only [add_at] at hx177_2 | simp only [Addr.add, Nat.zero_add] at hx177_2 | skip); replace p177 := eq_true p177; replace q177 := eq_true q177)))
      go_ret2
      exact ⟨_, by first | rfl | (simp [errW_none, errW_some] <;> rfl) | (simp only [← hji11]; first | rfl | (simp [errW_none, errW_some] <;> rfl)) | (simp [*, errW_none, errW_some] <;> rfl), aP108, aP80, aP106⟩
     ·rw [if_neg c13] at H
      exact absurd H (by simp)
    ·rw [if_neg c12] at H
     exact absurd H (by simp)
   ·replace c10 := Bool.eq_false_iff.mpr c10
    subst c10
    have H1 : (if a1 = 5 then (if l0.length < 4398046511104 then (some ((l0 ++ [(⟨a1, 1, (⟨#[]⟩ : ByteArray)⟩ : S53)]), true)) else (none)) else (if l0.length < 4398046511104 then (some ((l0 ++ [(⟨a1, 0, (⟨#[]⟩ : ByteArray)⟩ : S53)]), true)) else (none))) = some (r1, r2) := aP74
    clear H
    have H := H1
    clear H1
    by_cases c17 : a1 = 5
    ·rw [if_pos c17] at H
     have c17b0 : (a1 == 5) = true := beT c17
     have c17b1 : (a1 != 5) = false := bnF c17
     clear c17
     by_cases c18 : l0.length < 4398046511104
     ·rw [if_pos c18] at H
      have LMc18 := aMk c18
      clear c18
      obtain ⟨y179, hy179⟩ : ∃ y_ : List (S53), y_ = (l0 ++ [(⟨a1, 1, (⟨#[]⟩ : ByteArray)⟩ : S53)]) := ⟨_, rfl⟩
      replace H : (some (y179, true)) = some (r1, r2) := by first | (rw [hy179]; with_reducible exact H) | (have H2_ := (Option.bind_some _ _).symm.trans H; rw [hy179]; with_reducible exact H2_) | (have H2_ := (Option.bind_some _ _).symm.trans H; with_reducible exact H2_) | with_reducible exact H | (rw [hy179]; exact H) | exact H
      have Ny179 := aMk hy179
      clear hy179
      simp only [Option.some.injEq, Prod.mk.injEq] at H
      obtain ⟨rfl, rfl⟩ := H
      go_wp2_with (first | ((with_reducible refine gate_dst (N := 7) rfl ?_); refine box_event ?hg (N := 7) ?hd (cs := #[.int .i64 0, .int .i64 0, .string (⟨#[]⟩ : ByteArray)]) (t := 53) ?hr ?_; (case hd => rfl); (case hg => rfl); (case hr => first | (go_simp; done) | (go_simp; rfl)); intro gb178 hg w19 hbox hb; have n0_ := aMk (Kd.R_below (Kd.R_elderB (aP108) gb178 (Nat.le_of_eq hg.symm)) hb); have n1_ := aMk (Kept.below (S := (fun k_ => P0_ k_)) (aP106) hb); have n2_ := aMk (below_step (aP80) hb); have n3_ := aMk (hbox); have n4_ := aMk ((aP110 : w.heap.size ≤ gb178)); have n5_ := aMk ((aP81 : w0.heap.size ≤ gb178)); clear HO_0; clear HK; clear HB; have HO_0 := n0_; have HK := n1_; have HB := n2_; have BK178 := n3_; have GW178 := n4_; have GE178 := n5_; clear n0_ n1_ n2_ n3_ n4_ n5_; clear hb hbox hg; have hcz20_0 : w19.cell? ⟨gb178, 0, none⟩ = some (.int .i64 0) := (blk_cell BK178.out 0).trans rfl; have hcz20_1 : w19.cell? ⟨gb178, 1, none⟩ = some (.int .i64 0) := (blk_cell BK178.out 1).trans rfl; have hcz20_2 : w19.cell? ⟨gb178, 2, none⟩ = some (.string (⟨#[]⟩ : ByteArray)) := (blk_cell BK178.out 2).trans rfl; have hfz20_0 := blk_frozen BK178.out 0; have hfz20_1 := blk_frozen BK178.out 1; have hfz20_2 := blk_frozen BK178.out 2; have hqz_ : ((((w19.setCell ⟨gb178, 0, none⟩ (.int .i64 a1)).setCell ⟨gb178, 1, none⟩ (.int .i64 0)).setCell ⟨gb178, 2, none⟩ (.string ⟨#[]⟩)).setCell ⟨gb178, 1, none⟩ (.int .i64 1)).cell? ⟨gb178, 1, none⟩ = some (.int .i64 1) := (blk_cell (blk_put (blk_put (blk_put (blk_put BK178.out 0 _ rfl) 1 _ rfl) 2 _ rfl) 1 _ rfl) 1).trans rfl) | ((with_reducible refine gate_builtin (b := .append) (xs := #[.tmp 47, .tmp 49]) rfl ?_); at_builtin; refine Kd.R_append k53 (w0 := w0) w0.heap.size rfl (.tmp 47) (.tmp 49) 22 53 (.agg #[(.int .i64 0), (.int .i64 0), (.string ⟨#[]⟩)]) 32 rfl Try.underlying22 info53 rfl (by decide) (by omega) (.slice Ao4 l0.length co4) l0 (⟨a1, 1, (⟨#[]⟩ : ByteArray)⟩ : S53) [.int .i64 a1, .int .i64 1, .string (⟨#[]⟩ : ByteArray)] (fun k_ => (P0_ k_ ∨ w.heap.size ≤ k_) ∧ k_ ≠ gb178) (fun _ => False) rfl (aP111) ?aP (fun _ hk => hk.elim) ?aF ?aO ?aB ?aS ?aL ?_; (case aP => exact k53_mkM _ _ _ (⟨a1, 1, (⟨#[]⟩ : ByteArray)⟩ : S53)); (case aB => exact (aP112)); (case aF => exact (fun k_ hk => ⟨(.inr (Nat.le_trans (show Kept w _ (fun k_ => P0_ k_) from aP113).1 hk)), Kd.freshB (g := gb178) (o := .cells #[.int .i64 a1, .int .i64 1, .string (⟨#[]⟩ : ByteArray)] 53 (0, 0)) (aP114) k_ hk⟩)); (case aO => exact (aP115)); (case aS => exact (below_size (aP112))); (case aL => have := LMc18.out; omega); intro v180 w21 ho hb hg hat; rw [← Ny179.out] at ho; have n0_ := aMk (blk_grown (g := gb178) (o := .cells #[.int .i64 a1, .int .i64 1, .string (⟨#[]⟩ : ByteArray)] 53 (0, 0)) (aP114) hg (Kd.R_away HO_0.out (fun _ hk => hk.2))); have n1_ := aMk (hb); have n2_ := aMk (Kept.of_grown (S := (fun k_ => P0_ k_)) hg (aP113) (fun k_ e_ => (HO_0.out.1 k_ e_).1)); have n3_ := aMk (ho); clear BK178; clear HB; clear HK; clear HO_0; have BK178 := n0_; have HB := n1_; have HK := n2_; have HO181 := n3_; clear n0_ n1_ n2_ n3_; clear ho hb hg hat))
      repeat (go_quiet (first | ((with_reducible refine gate_dst (N := 7) rfl ?_); refine box_event ?hg (N := 7) ?hd (cs := #[.int .i64 0, .int .i64 0, .string (⟨#[]⟩ : ByteArray)]) (t := 53) ?hr ?_; (case hd => rfl); (case hg => rfl); (case hr => first | (go_simp; done) | (go_simp; rfl)); intro gb178 hg w19 hbox hb; have n0_ := aMk (Kd.R_below (Kd.R_elderB (aP108) gb178 (Nat.le_of_eq hg.symm)) hb); have n1_ := aMk (Kept.below (S := (fun k_ => P0_ k_)) (aP106) hb); have n2_ := aMk (below_step (aP80) hb); have n3_ := aMk (hbox); have n4_ := aMk ((aP110 : w.heap.size ≤ gb178)); have n5_ := aMk ((aP81 : w0.heap.size ≤ gb178)); clear HO_0; clear HK; clear HB; have HO_0 := n0_; have HK := n1_; have HB := n2_; have BK178 := n3_; have GW178 := n4_; have GE178 := n5_; clear n0_ n1_ n2_ n3_ n4_ n5_; clear hb hbox hg; have hcz20_0 : w19.cell? ⟨gb178, 0, none⟩ = some (.int .i64 0) := (blk_cell BK178.out 0).trans rfl; have hcz20_1 : w19.cell? ⟨gb178, 1, none⟩ = some (.int .i64 0) := (blk_cell BK178.out 1).trans rfl; have hcz20_2 : w19.cell? ⟨gb178, 2, none⟩ = some (.string (⟨#[]⟩ : ByteArray)) := (blk_cell BK178.out 2).trans rfl; have hfz20_0 := blk_frozen BK178.out 0; have hfz20_1 := blk_frozen BK178.out 1; have hfz20_2 := blk_frozen BK178.out 2; have hqz_ : ((((w19.setCell ⟨gb178, 0, none⟩ (.int .i64 a1)).setCell ⟨gb178, 1, none⟩ (.int .i64 0)).setCell ⟨gb178, 2, none⟩ (.string ⟨#[]⟩)).setCell ⟨gb178, 1, none⟩ (.int .i64 1)).cell? ⟨gb178, 1, none⟩ = some (.int .i64 1) := (blk_cell (blk_put (blk_put (blk_put (blk_put BK178.out 0 _ rfl) 1 _ rfl) 2 _ rfl) 1 _ rfl) 1).trans rfl) | ((with_reducible refine gate_builtin (b := .append) (xs := #[.tmp 47, .tmp 49]) rfl ?_); at_builtin; refine Kd.R_append k53 (w0 := w0) w0.heap.size rfl (.tmp 47) (.tmp 49) 22 53 (.agg #[(.int .i64 0), (.int .i64 0), (.string ⟨#[]⟩)]) 32 rfl Try.underlying22 info53 rfl (by decide) (by omega) (.slice Ao4 l0.length co4) l0 (⟨a1, 1, (⟨#[]⟩ : ByteArray)⟩ : S53) [.int .i64 a1, .int .i64 1, .string (⟨#[]⟩ : ByteArray)] (fun k_ => (P0_ k_ ∨ w.heap.size ≤ k_) ∧ k_ ≠ gb178) (fun _ => False) rfl (aP111) ?aP (fun _ hk => hk.elim) ?aF ?aO ?aB ?aS ?aL ?_; (case aP => exact k53_mkM _ _ _ (⟨a1, 1, (⟨#[]⟩ : ByteArray)⟩ : S53)); (case aB => exact (aP112)); (case aF => exact (fun k_ hk => ⟨(.inr (Nat.le_trans (show Kept w _ (fun k_ => P0_ k_) from aP113).1 hk)), Kd.freshB (g := gb178) (o := .cells #[.int .i64 a1, .int .i64 1, .string (⟨#[]⟩ : ByteArray)] 53 (0, 0)) (aP114) k_ hk⟩)); (case aO => exact (aP115)); (case aS => exact (below_size (aP112))); (case aL => have := LMc18.out; omega); intro v180 w21 ho hb hg hat; rw [← Ny179.out] at ho; have n0_ := aMk (blk_grown (g := gb178) (o := .cells #[.int .i64 a1, .int .i64 1, .string (⟨#[]⟩ : ByteArray)] 53 (0, 0)) (aP114) hg (Kd.R_away HO_0.out (fun _ hk => hk.2))); have n1_ := aMk (hb); have n2_ := aMk (Kept.of_grown (S := (fun k_ => P0_ k_)) hg (aP113) (fun k_ e_ => (HO_0.out.1 k_ e_).1)); have n3_ := aMk (ho); clear BK178; clear HB; clear HK; clear HO_0; have BK178 := n0_; have HB := n1_; have HK := n2_; have HO181 := n3_; clear n0_ n1_ n2_ n3_; clear ho hb hg hat)); try go_wp2_with (first | ((with_reducible refine gate_dst (N := 7) rfl ?_); refine box_event ?hg (N := 7) ?hd (cs := #[.int .i64 0, .int .i64 0, .string (⟨#[]⟩ : ByteArray)]) (t := 53) ?hr ?_; (case hd => rfl); (case hg => rfl); (case hr => first | (go_simp; done) | (go_simp; rfl)); intro gb178 hg w19 hbox hb; have n0_ := aMk (Kd.R_below (Kd.R_elderB (aP108) gb178 (Nat.le_of_eq hg.symm)) hb); have n1_ := aMk (Kept.below (S := (fun k_ => P0_ k_)) (aP106) hb); have n2_ := aMk (below_step (aP80) hb); have n3_ := aMk (hbox); have n4_ := aMk ((aP110 : w.heap.size ≤ gb178)); have n5_ := aMk ((aP81 : w0.heap.size ≤ gb178)); clear HO_0; clear HK; clear HB; have HO_0 := n0_; have HK := n1_; have HB := n2_; have BK178 := n3_; have GW178 := n4_; have GE178 := n5_; clear n0_ n1_ n2_ n3_ n4_ n5_; clear hb hbox hg; have hcz20_0 : w19.cell? ⟨gb178, 0, none⟩ = some (.int .i64 0) := (blk_cell BK178.out 0).trans rfl; have hcz20_1 : w19.cell? ⟨gb178, 1, none⟩ = some (.int .i64 0) := (blk_cell BK178.out 1).trans rfl; have hcz20_2 : w19.cell? ⟨gb178, 2, none⟩ = some (.string (⟨#[]⟩ : ByteArray)) := (blk_cell BK178.out 2).trans rfl; have hfz20_0 := blk_frozen BK178.out 0; have hfz20_1 := blk_frozen BK178.out 1; have hfz20_2 := blk_frozen BK178.out 2; have hqz_ : ((((w19.setCell ⟨gb178, 0, none⟩ (.int .i64 a1)).setCell ⟨gb178, 1, none⟩ (.int .i64 0)).setCell ⟨gb178, 2, none⟩ (.string ⟨#[]⟩)).setCell ⟨gb178, 1, none⟩ (.int .i64 1)).cell? ⟨gb178, 1, none⟩ = some (.int .i64 1) := (blk_cell (blk_put (blk_put (blk_put (blk_put BK178.out 0 _ rfl) 1 _ rfl) 2 _ rfl) 1 _ rfl) 1).trans rfl) | ((with_reducible refine gate_builtin (b := .append) (xs := #[.tmp 47, .tmp 49]) rfl ?_); at_builtin; refine Kd.R_append k53 (w0 := w0) w0.heap.size rfl (.tmp 47) (.tmp 49) 22 53 (.agg #[(.int .i64 0), (.int .i64 0), (.string ⟨#[]⟩)]) 32 rfl Try.underlying22 info53 rfl (by decide) (by omega) (.slice Ao4 l0.length co4) l0 (⟨a1, 1, (⟨#[]⟩ : ByteArray)⟩ : S53) [.int .i64 a1, .int .i64 1, .string (⟨#[]⟩ : ByteArray)] (fun k_ => (P0_ k_ ∨ w.heap.size ≤ k_) ∧ k_ ≠ gb178) (fun _ => False) rfl (aP111) ?aP (fun _ hk => hk.elim) ?aF ?aO ?aB ?aS ?aL ?_; (case aP => exact k53_mkM _ _ _ (⟨a1, 1, (⟨#[]⟩ : ByteArray)⟩ : S53)); (case aB => exact (aP112)); (case aF => exact (fun k_ hk => ⟨(.inr (Nat.le_trans (show Kept w _ (fun k_ => P0_ k_) from aP113).1 hk)), Kd.freshB (g := gb178) (o := .cells #[.int .i64 a1, .int .i64 1, .string (⟨#[]⟩ : ByteArray)] 53 (0, 0)) (aP114) k_ hk⟩)); (case aO => exact (aP115)); (case aS => exact (below_size (aP112))); (case aL => have := LMc18.out; omega); intro v180 w21 ho hb hg hat; rw [← Ny179.out] at ho; have n0_ := aMk (blk_grown (g := gb178) (o := .cells #[.int .i64 a1, .int .i64 1, .string (⟨#[]⟩ : ByteArray)] 53 (0, 0)) (aP114) hg (Kd.R_away HO_0.out (fun _ hk => hk.2))); have n1_ := aMk (hb); have n2_ := aMk (Kept.of_grown (S := (fun k_ => P0_ k_)) hg (aP113) (fun k_ e_ => (HO_0.out.1 k_ e_).1)); have n3_ := aMk (ho); clear BK178; clear HB; clear HK; clear HO_0; have BK178 := n0_; have HB := n1_; have HK := n2_; have HO181 := n3_; clear n0_ n1_ n2_ n3_; clear ho hb hg hat)))
      go_ret2
      exact ⟨_, aP91, by (with_reducible repeat (first | apply Kd.R_alloc | apply Kd.R_drewN | apply Kd.R_drew)); exact Kd.R_mono HO181.out (fun _ hk => hk.1), aP112, aP113⟩
     ·rw [if_neg c18] at H
      exact absurd H (by simp)
    ·rw [if_neg c17] at H
     have c17b0 : (a1 == 5) = false := beF c17
     have c17b1 : (a1 != 5) = true := bnT c17
     by_cases c22 : l0.length < 4398046511104
     ·rw [if_pos c22] at H
      have LMc22 := aMk c22
      clear c22
      obtain ⟨y182, hy182⟩ : ∃ y_ : List (S53), y_ = (l0 ++ [(⟨a1, 0, (⟨#[]⟩ : ByteArray)⟩ : S53)]) := ⟨_, rfl⟩
      replace H : (some (y182, true)) = some (r1, r2) := by first | (rw [hy182]; with_reducible exact H) | (have H2_ := (Option.bind_some _ _).symm.trans H; rw [hy182]; with_reducible exact H2_) | (have H2_ := (Option.bind_some _ _).symm.trans H; with_reducible exact H2_) | with_reducible exact H | (rw [hy182]; exact H) | exact H
      have Ny182 := aMk hy182
      clear hy182
      simp only [Option.some.injEq, Prod.mk.injEq] at H
      obtain ⟨rfl, rfl⟩ := H
      go_wp2_with (first | ((with_reducible refine gate_dst (N := 7) rfl ?_); refine box_event ?hg (N := 7) ?hd (cs := #[.int .i64 0, .int .i64 0, .string (⟨#[]⟩ : ByteArray)]) (t := 53) ?hr ?_; (case hd => rfl); (case hg => rfl); (case hr => first | (go_simp; done) | (go_simp; rfl)); intro gb178 hg w23 hbox hb; have n0_ := aMk (Kd.R_below (Kd.R_elderB (aP108) gb178 (Nat.le_of_eq hg.symm)) hb); have n1_ := aMk (Kept.below (S := (fun k_ => P0_ k_)) (aP106) hb); have n2_ := aMk (below_step (aP80) hb); have n3_ := aMk (hbox); have n4_ := aMk ((aP110 : w.heap.size ≤ gb178)); have n5_ := aMk ((aP81 : w0.heap.size ≤ gb178)); clear HO_0; clear HK; clear HB; have HO_0 := n0_; have HK := n1_; have HB := n2_; have BK178 := n3_; have GW178 := n4_; have GE178 := n5_; clear n0_ n1_ n2_ n3_ n4_ n5_; clear hb hbox hg; have hcz24_0 : w23.cell? ⟨gb178, 0, none⟩ = some (.int .i64 0) := (blk_cell BK178.out 0).trans rfl; have hcz24_1 : w23.cell? ⟨gb178, 1, none⟩ = some (.int .i64 0) := (blk_cell BK178.out 1).trans rfl; have hcz24_2 : w23.cell? ⟨gb178, 2, none⟩ = some (.string (⟨#[]⟩ : ByteArray)) := (blk_cell BK178.out 2).trans rfl; have hfz24_0 := blk_frozen BK178.out 0; have hfz24_1 := blk_frozen BK178.out 1; have hfz24_2 := blk_frozen BK178.out 2; have hqz_ : ((((w23.setCell ⟨gb178, 0, none⟩ (.int .i64 a1)).setCell ⟨gb178, 1, none⟩ (.int .i64 0)).setCell ⟨gb178, 2, none⟩ (.string ⟨#[]⟩)).setCell ⟨gb178, 1, none⟩ (.int .i64 1)).cell? ⟨gb178, 1, none⟩ = some (.int .i64 1) := (blk_cell (blk_put (blk_put (blk_put (blk_put BK178.out 0 _ rfl) 1 _ rfl) 2 _ rfl) 1 _ rfl) 1).trans rfl) | ((with_reducible refine gate_builtin (b := .append) (xs := #[.tmp 47, .tmp 49]) rfl ?_); at_builtin; refine Kd.R_append k53 (w0 := w0) w0.heap.size rfl (.tmp 47) (.tmp 49) 22 53 (.agg #[(.int .i64 0), (.int .i64 0), (.string ⟨#[]⟩)]) 32 rfl Try.underlying22 info53 rfl (by decide) (by omega) (.slice Ao4 l0.length co4) l0 (⟨a1, 0, (⟨#[]⟩ : ByteArray)⟩ : S53) [.int .i64 a1, .int .i64 0, .string (⟨#[]⟩ : ByteArray)] (fun k_ => (P0_ k_ ∨ w.heap.size ≤ k_) ∧ k_ ≠ gb178) (fun _ => False) rfl (aP111) ?aP (fun _ hk => hk.elim) ?aF ?aO ?aB ?aS ?aL ?_; (case aP => exact k53_mkM _ _ _ (⟨a1, 0, (⟨#[]⟩ : ByteArray)⟩ : S53)); (case aB => exact (aP112)); (case aF => exact (fun k_ hk => ⟨(.inr (Nat.le_trans (show Kept w _ (fun k_ => P0_ k_) from aP113).1 hk)), Kd.freshB (g := gb178) (o := .cells #[.int .i64 a1, .int .i64 0, .string (⟨#[]⟩ : ByteArray)] 53 (0, 0)) (aP116) k_ hk⟩)); (case aO => exact (aP117)); (case aS => exact (below_size (aP112))); (case aL => have := LMc22.out; omega); intro v183 w25 ho hb hg hat; rw [← Ny182.out] at ho; have n0_ := aMk (blk_grown (g := gb178) (o := .cells #[.int .i64 a1, .int .i64 0, .string (⟨#[]⟩ : ByteArray)] 53 (0, 0)) (aP116) hg (Kd.R_away HO_0.out (fun _ hk => hk.2))); have n1_ := aMk (hb); have n2_ := aMk (Kept.of_grown (S := (fun k_ => P0_ k_)) hg (aP113) (fun k_ e_ => (HO_0.out.1 k_ e_).1)); have n3_ := aMk (ho); clear BK178; clear HB; clear HK; clear HO_0; have BK178 := n0_; have HB := n1_; have HK := n2_; have HO184 := n3_; clear n0_ n1_ n2_ n3_; clear ho hb hg hat))
      repeat (go_quiet (first | ((with_reducible refine gate_dst (N := 7) rfl ?_); refine box_event ?hg (N := 7) ?hd (cs := #[.int .i64 0, .int .i64 0, .string (⟨#[]⟩ : ByteArray)]) (t := 53) ?hr ?_; (case hd => rfl); (case hg => rfl); (case hr => first | (go_simp; done) | (go_simp; rfl)); intro gb178 hg w23 hbox hb; have n0_ := aMk (Kd.R_below (Kd.R_elderB (aP108) gb178 (Nat.le_of_eq hg.symm)) hb); have n1_ := aMk (Kept.below (S := (fun k_ => P0_ k_)) (aP106) hb); have n2_ := aMk (below_step (aP80) hb); have n3_ := aMk (hbox); have n4_ := aMk ((aP110 : w.heap.size ≤ gb178)); have n5_ := aMk ((aP81 : w0.heap.size ≤ gb178)); clear HO_0; clear HK; clear HB; have HO_0 := n0_; have HK := n1_; have HB := n2_; have BK178 := n3_; have GW178 := n4_; have GE178 := n5_; clear n0_ n1_ n2_ n3_ n4_ n5_; clear hb hbox hg; have hcz24_0 : w23.cell? ⟨gb178, 0, none⟩ = some (.int .i64 0) := (blk_cell BK178.out 0).trans rfl; have hcz24_1 : w23.cell? ⟨gb178, 1, none⟩ = some (.int .i64 0) := (blk_cell BK178.out 1).trans rfl; have hcz24_2 : w23.cell? ⟨gb178, 2, none⟩ = some (.string (⟨#[]⟩ : ByteArray)) := (blk_cell BK178.out 2).trans rfl; have hfz24_0 := blk_frozen BK178.out 0; have hfz24_1 := blk_frozen BK178.out 1; have hfz24_2 := blk_frozen BK178.out 2; have hqz_ : ((((w23.setCell ⟨gb178, 0, none⟩ (.int .i64 a1)).setCell ⟨gb178, 1, none⟩ (.int .i64 0)).setCell ⟨gb178, 2, none⟩ (.string ⟨#[]⟩)).setCell ⟨gb178, 1, none⟩ (.int .i64 1)).cell? ⟨gb178, 1, none⟩ = some (.int .i64 1) := (blk_cell (blk_put (blk_put (blk_put (blk_put BK178.out 0 _ rfl) 1 _ rfl) 2 _ rfl) 1 _ rfl) 1).trans rfl) | ((with_reducible refine gate_builtin (b := .append) (xs := #[.tmp 47, .tmp 49]) rfl ?_); at_builtin; refine Kd.R_append k53 (w0 := w0) w0.heap.size rfl (.tmp 47) (.tmp 49) 22 53 (.agg #[(.int .i64 0), (.int .i64 0), (.string ⟨#[]⟩)]) 32 rfl Try.underlying22 info53 rfl (by decide) (by omega) (.slice Ao4 l0.length co4) l0 (⟨a1, 0, (⟨#[]⟩ : ByteArray)⟩ : S53) [.int .i64 a1, .int .i64 0, .string (⟨#[]⟩ : ByteArray)] (fun k_ => (P0_ k_ ∨ w.heap.size ≤ k_) ∧ k_ ≠ gb178) (fun _ => False) rfl (aP111) ?aP (fun _ hk => hk.elim) ?aF ?aO ?aB ?aS ?aL ?_; (case aP => exact k53_mkM _ _ _ (⟨a1, 0, (⟨#[]⟩ : ByteArray)⟩ : S53)); (case aB => exact (aP112)); (case aF => exact (fun k_ hk => ⟨(.inr (Nat.le_trans (show Kept w _ (fun k_ => P0_ k_) from aP113).1 hk)), Kd.freshB (g := gb178) (o := .cells #[.int .i64 a1, .int .i64 0, .string (⟨#[]⟩ : ByteArray)] 53 (0, 0)) (aP116) k_ hk⟩)); (case aO => exact (aP117)); (case aS => exact (below_size (aP112))); (case aL => have := LMc22.out; omega); intro v183 w25 ho hb hg hat; rw [← Ny182.out] at ho; have n0_ := aMk (blk_grown (g := gb178) (o := .cells #[.int .i64 a1, .int .i64 0, .string (⟨#[]⟩ : ByteArray)] 53 (0, 0)) (aP116) hg (Kd.R_away HO_0.out (fun _ hk => hk.2))); have n1_ := aMk (hb); have n2_ := aMk (Kept.of_grown (S := (fun k_ => P0_ k_)) hg (aP113) (fun k_ e_ => (HO_0.out.1 k_ e_).1)); have n3_ := aMk (ho); clear BK178; clear HB; clear HK; clear HO_0; have BK178 := n0_; have HB := n1_; have HK := n2_; have HO184 := n3_; clear n0_ n1_ n2_ n3_; clear ho hb hg hat)); try go_wp2_with (first | ((with_reducible refine gate_dst (N := 7) rfl ?_); refine box_event ?hg (N := 7) ?hd (cs := #[.int .i64 0, .int .i64 0, .string (⟨#[]⟩ : ByteArray)]) (t := 53) ?hr ?_; (case hd => rfl); (case hg => rfl); (case hr => first | (go_simp; done) | (go_simp; rfl)); intro gb178 hg w23 hbox hb; have n0_ := aMk (Kd.R_below (Kd.R_elderB (aP108) gb178 (Nat.le_of_eq hg.symm)) hb); have n1_ := aMk (Kept.below (S := (fun k_ => P0_ k_)) (aP106) hb); have n2_ := aMk (below_step (aP80) hb); have n3_ := aMk (hbox); have n4_ := aMk ((aP110 : w.heap.size ≤ gb178)); have n5_ := aMk ((aP81 : w0.heap.size ≤ gb178)); clear HO_0; clear HK; clear HB; have HO_0 := n0_; have HK := n1_; have HB := n2_; have BK178 := n3_; have GW178 := n4_; have GE178 := n5_; clear n0_ n1_ n2_ n3_ n4_ n5_; clear hb hbox hg; have hcz24_0 : w23.cell? ⟨gb178, 0, none⟩ = some (.int .i64 0) := (blk_cell BK178.out 0).trans rfl; have hcz24_1 : w23.cell? ⟨gb178, 1, none⟩ = some (.int .i64 0) := (blk_cell BK178.out 1).trans rfl; have hcz24_2 : w23.cell? ⟨gb178, 2, none⟩ = some (.string (⟨#[]⟩ : ByteArray)) := (blk_cell BK178.out 2).trans rfl; have hfz24_0 := blk_frozen BK178.out 0; have hfz24_1 := blk_frozen BK178.out 1; have hfz24_2 := blk_frozen BK178.out 2; have hqz_ : ((((w23.setCell ⟨gb178, 0, none⟩ (.int .i64 a1)).setCell ⟨gb178, 1, none⟩ (.int .i64 0)).setCell ⟨gb178, 2, none⟩ (.string ⟨#[]⟩)).setCell ⟨gb178, 1, none⟩ (.int .i64 1)).cell? ⟨gb178, 1, none⟩ = some (.int .i64 1) := (blk_cell (blk_put (blk_put (blk_put (blk_put BK178.out 0 _ rfl) 1 _ rfl) 2 _ rfl) 1 _ rfl) 1).trans rfl) | ((with_reducible refine gate_builtin (b := .append) (xs := #[.tmp 47, .tmp 49]) rfl ?_); at_builtin; refine Kd.R_append k53 (w0 := w0) w0.heap.size rfl (.tmp 47) (.tmp 49) 22 53 (.agg #[(.int .i64 0), (.int .i64 0), (.string ⟨#[]⟩)]) 32 rfl Try.underlying22 info53 rfl (by decide) (by omega) (.slice Ao4 l0.length co4) l0 (⟨a1, 0, (⟨#[]⟩ : ByteArray)⟩ : S53) [.int .i64 a1, .int .i64 0, .string (⟨#[]⟩ : ByteArray)] (fun k_ => (P0_ k_ ∨ w.heap.size ≤ k_) ∧ k_ ≠ gb178) (fun _ => False) rfl (aP111) ?aP (fun _ hk => hk.elim) ?aF ?aO ?aB ?aS ?aL ?_; (case aP => exact k53_mkM _ _ _ (⟨a1, 0, (⟨#[]⟩ : ByteArray)⟩ : S53)); (case aB => exact (aP112)); (case aF => exact (fun k_ hk => ⟨(.inr (Nat.le_trans (show Kept w _ (fun k_ => P0_ k_) from aP113).1 hk)), Kd.freshB (g := gb178) (o := .cells #[.int .i64 a1, .int .i64 0, .string (⟨#[]⟩ : ByteArray)] 53 (0, 0)) (aP116) k_ hk⟩)); (case aO => exact (aP117)); (case aS => exact (below_size (aP112))); (case aL => have := LMc22.out; omega); intro v183 w25 ho hb hg hat; rw [← Ny182.out] at ho; have n0_ := aMk (blk_grown (g := gb178) (o := .cells #[.int .i64 a1, .int .i64 0, .string (⟨#[]⟩ : ByteArray)] 53 (0, 0)) (aP116) hg (Kd.R_away HO_0.out (fun _ hk => hk.2))); have n1_ := aMk (hb); have n2_ := aMk (Kept.of_grown (S := (fun k_ => P0_ k_)) hg (aP113) (fun k_ e_ => (HO_0.out.1 k_ e_).1)); have n3_ := aMk (ho); clear BK178; clear HB; clear HK; clear HO_0; have BK178 := n0_; have HB := n1_; have HK := n2_; have HO184 := n3_; clear n0_ n1_ n2_ n3_; clear ho hb hg hat)))
      go_ret2
      exact ⟨_, aP91, by (with_reducible repeat (first | apply Kd.R_alloc | apply Kd.R_drewN | apply Kd.R_drew)); exact Kd.R_mono HO184.out (fun _ hk => hk.1), aP112, aP113⟩
     ·rw [if_neg c22] at H
      exact absurd H (by simp)
end Go.Proofs.Ytacnjemndfmbhaa.Q
end
