import Derived.Test.YtacnjemndfmbhaaC6
import Derived.Test.YtacnjemndfmbhaaC7
import Derived.Test.YtacnjemndfmbhaaC9
namespace Go.Proofs.Ytacnjemndfmbhaa
open Go.RowKit
theorem aP48 {p : Prop} (h : p := by
    by_cases h4 : t.f0 = 4
    · rw [if_pos (show t.f0 = 1 ∨ t.f0 = 2 ∨ t.f0 = 3 ∨ t.f0 = 4 from .inr (.inr (.inr h4))), if_pos (show (t.f0 == 4) = true from beq_iff_eq.mpr h4)]
      repeat' split
      all_goals rfl
    rw [if_neg (show ¬ (t.f0 == 4) = true by simpa using h4), if_neg (show ¬ (t.f0 = 1 ∨ t.f0 = 2 ∨ t.f0 = 3 ∨ t.f0 = 4) by omega)]
    repeat' split
    all_goals rfl) : p := h
theorem aP47 {p : Prop} (h : p := by
    clear c2
    obtain rfl := Option.some.inj H
    go_wp2
    go_ret
    exact ⟨by first | rfl | (simp; done) | (simp [*]; done), by repeat (first | exact Drawn0.refl _ | apply Drawn0.step)⟩) : p := h
theorem aP85 {p : Prop} (h : p := by repeat (first | (with_reducible first | exact HB.out | apply below_alloc | apply pw_below_drewN | apply below_drew1 | refine below_set ?_ GE217.out) | exact HB.out)) : p := h
theorem aP46 {p : Prop} (h : p := by
    go_wp2
    repeat (go_quiet (fail); try go_wp2)
    go_ret
    exact ⟨by first | rfl | (simp; done) | (simp [*]; done), by repeat (first | exact Drawn0.refl _ | apply Drawn0.step)⟩) : p := h
end Go.Proofs.Ytacnjemndfmbhaa
section
namespace Go.Proofs.Ytacnjemndfmbhaa.Q
open Go.RowKit Go.Proofs.YtacnjemndfmbhaaW.PrintWords Go.Proofs.YtacnjemndfmbhaaW.PrintLast Go.Proofs.YtacnjemndfmbhaaW.PrintMore
attribute [local go_sem] max2_int min2_int max_two min_two max_three min_three max_four min_four   -- for this text's walks alone
set_option linter.unusedVariables false
set_option linter.unusedSimpArgs false

mutual
def quipuref13_Print.l0 : Nat → List (S53) → ByteArray → Int → Option (ByteArray × Int)
  | 0, _, _, _ => none
  | k + 1, x0, x5, x6 => if x6 < (x0.length : Int) then (if 0 ≤ x6 then (if ((rd_T53 x0 x6).f0) = 0 then ((quipuref13_text.f k ((rd_T53 x0 x6).f2)).bind fun t163 => (if x5.size + t163.size ≤ 9223372036854775807 then (quipuref13_Print.l0 k x0 (x5 ++ t163) (wrap64 (x6 + 1))) else (none))) else (if ((rd_T53 x0 x6).f0) = 1 then (if x5.size + 1 ≤ 9223372036854775807 then (quipuref13_Print.l0 k x0 (x5 ++ (⟨#[45]⟩ : ByteArray)) (wrap64 (x6 + 1))) else (none)) else (if ((rd_T53 x0 x6).f0) = 2 then (if x5.size + 1 ≤ 9223372036854775807 then (quipuref13_Print.l0 k x0 (x5 ++ (⟨#[43]⟩ : ByteArray)) (wrap64 (x6 + 1))) else (none)) else (if ((rd_T53 x0 x6).f0) = 3 then (if x5.size + 1 ≤ 9223372036854775807 then (quipuref13_Print.l0 k x0 (x5 ++ (⟨#[37]⟩ : ByteArray)) (wrap64 (x6 + 1))) else (none)) else (if ((rd_T53 x0 x6).f0) = 4 then (if x5.size + 3 ≤ 9223372036854775807 then (quipuref13_Print.l0 k x0 (x5 ++ (⟨#[226, 128, 176]⟩ : ByteArray)) (wrap64 (x6 + 1))) else (none)) else (quipuref13_Print.l1 k x0 x5 x6 0)))))) else (none)) else (some (x5, 0))
def quipuref13_Print.l1 : Nat → List (S53) → ByteArray → Int → Int → Option (ByteArray × Int)
  | 0, _, _, _, _ => none
  | k + 1, x0, x5, x6, x7 => if 0 ≤ x6 then (if x6 < (x0.length : Int) then (if x7 < ((rd_T53 x0 x6).f1) then (if x5.size + 2 ≤ 9223372036854775807 then (quipuref13_Print.l1 k x0 (x5 ++ (⟨#[194, 164]⟩ : ByteArray)) x6 (wrap64 (x7 + 1))) else (none)) else (quipuref13_Print.l0 k x0 x5 (wrap64 (x6 + 1)))) else (none)) else (none)
end
def quipuref13_Print.f (k : Nat) (l0 : List (S53)) : Option (ByteArray × Int) := (quipuref13_Check.f k l0).bind fun t160 => (if t160 = 0 then (quipuref13_Print.l0 k l0 (⟨#[]⟩ : ByteArray) 0) else (some ((⟨#[]⟩ : ByteArray), t160)))
set_option maxHeartbeats 8000000 in
set_option maxRecDepth 100000 in
theorem quipuref13_Print.calls (k : Nat) (A0 : Option Addr) (c0 : Nat) (l0 : List (S53)) (r1 : ByteArray) (r2 : Int) (w : World) (hr0 : Kd.C k53 w A0 l0.length l0) (hc0 : l0.length ≤ c0) (h : quipuref13_Print.f k l0 = some (r1, r2)) :
    Calls Try.prog 60 #[.slice A0 l0.length c0] w fun e w' => e = .returned (.tuple #[.string r1, .int .i64 r2]) ∧ Below w.heap.size w w' := by
  have HR0 := Aside0.mk hr0
  have HC0 := Aside0.mk hc0
  clear hr0 hc0
  have HB := Aside0.mk (Below.refl w.heap.size w)
  have H : ((quipuref13_Check.f k l0).bind fun t160 => (if t160 = 0 then (quipuref13_Print.l0 k l0 (⟨#[]⟩ : ByteArray) 0) else (some ((⟨#[]⟩ : ByteArray), t160)))) = some (r1, r2) := h
  clear h
  replace H := Option.bind_eq_some_iff.mp H
  obtain ⟨t160, A20, H⟩ := H
  replace H : (if t160 = 0 then (quipuref13_Print.l0 k l0 (⟨#[]⟩ : ByteArray) 0) else (some ((⟨#[]⟩ : ByteArray), t160))) = some (r1, r2) := H
  have A2 := Aside0.mk A20
  clear A20
  by_cases c3 : t160 = 0
  · rw [if_pos c3] at H
    have c3b0 : (t160 == 0) = true := beq_iff_eq.mpr c3
    have c3b1 : (t160 != 0) = false := bne_eq_false_iff_eq.mpr c3
    clear c3
    have H' := Aside0.mk H
    clear H
    go_enter Try.func60, Try.ntmps60
    go_wp2_with (first | ((with_reducible refine gate_callee (f := 55) rfl ?_); refine goesL_ (some 9) rfl rfl Try.func55 (by kernel_rfl) rfl #[.slice A0 l0.length c0] rfl (aP62) ?_; (with_reducible refine (quipuref13_Check.calls k _ _ l0 t160 _ ?side1 ?side2 A2.out).mono ?_); (case side1 => repeat (first | exact HR0.out | (with_reducible refine Kd.C_alloc ?_ _) | (with_reducible refine Kd.C_drewN ?_ _) | (with_reducible refine Kd.C_drew ?_))); (case side2 => exact HC0.out); rintro e w4 ⟨rfl, hb⟩; refine ⟨_, rfl, ?_⟩; have n0_ := Aside0.mk (below_step (aP65) hb); clear HB; have HB := n0_; clear n0_; (try clear hb); (try clear hb2); (try clear hk); (try clear hi)))
    go_loopg [5, 6] k (fun kq v5 v6 w' => ∃ (x5_1 : ByteArray) (x6_1 : Int), v5 = .string x5_1 ∧ v6 = .int .i64 x6_1 ∧ Aside0 (quipuref13_Print.l0 kq l0 x5_1 x6_1 = some (r1, r2)) ∧ Aside0 (kq ≤ k) ∧ Aside0 (Below w.heap.size w w'))
    case atStart => exact ⟨((⟨#[]⟩ : ByteArray)), (0), (aP63), (aP63), H', ⟨Nat.le_refl _⟩, ⟨aP65⟩⟩
    case round =>
      clear H'
      try clear p2
      try clear c3
      try clear c3b0
      try clear c3b1
      obtain ⟨x5_1, x6_1, rfl, rfl, HA, HK1, HB⟩ := hrel
      cases gk with
      | zero => exact absurd HA.out (by simp [quipuref13_Print.l0])
      | succ k1 =>
        have H := HA.out
        clear HA
        simp only [quipuref13_Print.l0] at H
        by_cases c5 : x6_1 < (l0.length : Int)
        · rw [if_pos c5] at H
          have c5b0 : decide (x6_1 < (l0.length : Int)) = true := decide_eq_true c5
          clear c5
          by_cases c6 : 0 ≤ x6_1
          · rw [if_pos c6] at H
            have c6b0 : decide (0 ≤ x6_1) = true := decide_eq_true c6
            clear c6
            by_cases c7 : ((rd_T53 l0 x6_1).f0) = 0
            · rw [if_pos c7] at H
              have c7b0 : (((rd_T53 l0 x6_1).f0) == 0) = true := beq_iff_eq.mpr c7
              have c7b1 : (((rd_T53 l0 x6_1).f0) != 0) = false := bne_eq_false_iff_eq.mpr c7
              clear c7
              replace H := Option.bind_eq_some_iff.mp H
              obtain ⟨t163, A80, H⟩ := H
              replace H : (if x5_1.size + t163.size ≤ 9223372036854775807 then (quipuref13_Print.l0 k1 l0 (x5_1 ++ t163) (wrap64 (x6_1 + 1))) else (none)) = some (r1, r2) := H
              have A8 := Aside0.mk A80
              clear A80
              by_cases c9 : x5_1.size + t163.size ≤ 9223372036854775807
              · rw [if_pos c9] at H
                have c9b0 := eq_true c9
                have c9b1 : decide (x5_1.size + t163.size ≤ 9223372036854775807) = true := decide_eq_true c9
                try have c9b2 : (9223372036854775807 < x5_1.size + t163.size) = False := eq_false (Nat.not_lt.2 c9)
                have H' := Aside0.mk H
                clear H
                have p161 : 0 ≤ (x6_1 : Int) := of_decide_eq_true (aP61)
                have q161 : x6_1 < (l0.length : Int) := of_decide_eq_true (aP61)
                obtain ⟨ad161, e161, hx161_0, hx161_1, hx161_2⟩ := at_T53 HR0.out x6_1 p161 q161
                cases e161
                replace hx161_0 := (HB.out.cell (World.block_lt_of_cell? w _ hx161_0)).trans hx161_0
                replace hx161_1 := (HB.out.cell (World.block_lt_of_cell? w _ hx161_1)).trans hx161_1
                replace hx161_2 := (HB.out.cell (World.block_lt_of_cell? w _ hx161_2)).trans hx161_2
                replace p161 := eq_true p161
                replace q161 := eq_true q161
                have p162 : 0 ≤ (x6_1 : Int) := of_decide_eq_true (aP61)
                have q162 : x6_1 < (l0.length : Int) := of_decide_eq_true (aP61)
                obtain ⟨ad162, e162, hx162_0, hx162_1, hx162_2⟩ := at_T53 HR0.out x6_1 p162 q162
                obtain rfl : ad161 = ad162 := (by injection e162)
                replace hx162_0 := (HB.out.cell (World.block_lt_of_cell? w _ hx162_0)).trans hx162_0
                replace hx162_1 := (HB.out.cell (World.block_lt_of_cell? w _ hx162_1)).trans hx162_1
                replace hx162_2 := (HB.out.cell (World.block_lt_of_cell? w _ hx162_2)).trans hx162_2
                replace p162 := eq_true p162
                replace q162 := eq_true q162
                go_wp2_with (first | ((with_reducible refine gate_callee (f := 81) rfl ?_); refine goesL_ (some 43) rfl rfl Try.func81 (by kernel_rfl) rfl #[.string ((rd_T53 l0 x6_1).f2)] rfl (aP62) ?_; (with_reducible refine (quipuref13_text.calls k1 ((rd_T53 l0 x6_1).f2) t163 _ A8.out).mono ?_); rintro e w10 ⟨rfl, hb⟩; refine ⟨_, rfl, ?_⟩; have n0_ := Aside0.mk (below_step (aP65) hb); clear HB; have HB := n0_; clear n0_; (try clear hb); (try clear hb2); (try clear hk); (try clear hi)))
                go_roundg k1
                case measure => have := HK1.out; omega
                case rel => exact ⟨(x5_1 ++ t163), (wrap64 (x6_1 + 1)), (aP63), (aP63), H', ⟨by have := HK1.out; omega⟩, ⟨aP65⟩⟩
              · rw [if_neg c9] at H
                exact absurd H (by simp)
            · rw [if_neg c7] at H
              have c7b0 : (((rd_T53 l0 x6_1).f0) == 0) = false := beq_eq_false_iff_ne.mpr c7
              have c7b1 : (((rd_T53 l0 x6_1).f0) != 0) = true := bne_iff_ne.mpr c7
              by_cases c11 : ((rd_T53 l0 x6_1).f0) = 1
              · rw [if_pos c11] at H
                have c11b0 : (((rd_T53 l0 x6_1).f0) == 1) = true := beq_iff_eq.mpr c11
                have c11b1 : (((rd_T53 l0 x6_1).f0) != 1) = false := bne_eq_false_iff_eq.mpr c11
                clear c11
                by_cases c12 : x5_1.size + 1 ≤ 9223372036854775807
                · rw [if_pos c12] at H
                  have c12b0 := eq_true c12
                  have c12b1 : decide (x5_1.size + 1 ≤ 9223372036854775807) = true := decide_eq_true c12
                  try have c12b2 : (9223372036854775807 < x5_1.size + 1) = False := eq_false (Nat.not_lt.2 c12)
                  have H' := Aside0.mk H
                  clear H
                  have p161 : 0 ≤ (x6_1 : Int) := of_decide_eq_true (aP61)
                  have q161 : x6_1 < (l0.length : Int) := of_decide_eq_true (aP61)
                  obtain ⟨ad161, e161, hx161_0, hx161_1, hx161_2⟩ := at_T53 HR0.out x6_1 p161 q161
                  cases e161
                  replace hx161_0 := (HB.out.cell (World.block_lt_of_cell? w _ hx161_0)).trans hx161_0
                  replace hx161_1 := (HB.out.cell (World.block_lt_of_cell? w _ hx161_1)).trans hx161_1
                  replace hx161_2 := (HB.out.cell (World.block_lt_of_cell? w _ hx161_2)).trans hx161_2
                  replace p161 := eq_true p161
                  replace q161 := eq_true q161
                  go_wp2
                  go_roundg k1
                  case measure => have := HK1.out; omega
                  case rel => exact ⟨(x5_1 ++ (⟨#[45]⟩ : ByteArray)), (wrap64 (x6_1 + 1)), (aP63), (aP63), H', ⟨by have := HK1.out; omega⟩, ⟨aP65⟩⟩
                · rw [if_neg c12] at H
                  exact absurd H (by simp)
              · rw [if_neg c11] at H
                have c11b0 : (((rd_T53 l0 x6_1).f0) == 1) = false := beq_eq_false_iff_ne.mpr c11
                have c11b1 : (((rd_T53 l0 x6_1).f0) != 1) = true := bne_iff_ne.mpr c11
                by_cases c13 : ((rd_T53 l0 x6_1).f0) = 2
                · rw [if_pos c13] at H
                  have c13b0 : (((rd_T53 l0 x6_1).f0) == 2) = true := beq_iff_eq.mpr c13
                  have c13b1 : (((rd_T53 l0 x6_1).f0) != 2) = false := bne_eq_false_iff_eq.mpr c13
                  clear c13
                  by_cases c14 : x5_1.size + 1 ≤ 9223372036854775807
                  · rw [if_pos c14] at H
                    have c14b0 := eq_true c14
                    have c14b1 : decide (x5_1.size + 1 ≤ 9223372036854775807) = true := decide_eq_true c14
                    try have c14b2 : (9223372036854775807 < x5_1.size + 1) = False := eq_false (Nat.not_lt.2 c14)
                    have H' := Aside0.mk H
                    clear H
                    have p161 : 0 ≤ (x6_1 : Int) := of_decide_eq_true (aP61)
                    have q161 : x6_1 < (l0.length : Int) := of_decide_eq_true (aP61)
                    obtain ⟨ad161, e161, hx161_0, hx161_1, hx161_2⟩ := at_T53 HR0.out x6_1 p161 q161
                    cases e161
                    replace hx161_0 := (HB.out.cell (World.block_lt_of_cell? w _ hx161_0)).trans hx161_0
                    replace hx161_1 := (HB.out.cell (World.block_lt_of_cell? w _ hx161_1)).trans hx161_1
                    replace hx161_2 := (HB.out.cell (World.block_lt_of_cell? w _ hx161_2)).trans hx161_2
                    replace p161 := eq_true p161
                    replace q161 := eq_true q161
                    go_wp2
                    go_roundg k1
                    case measure => have := HK1.out; omega
                    case rel => exact ⟨(x5_1 ++ (⟨#[43]⟩ : ByteArray)), (wrap64 (x6_1 + 1)), (aP63), (aP63), H', ⟨by have := HK1.out; omega⟩, ⟨aP65⟩⟩
                  · rw [if_neg c14] at H
                    exact absurd H (by simp)
                · rw [if_neg c13] at H
                  have c13b0 : (((rd_T53 l0 x6_1).f0) == 2) = false := beq_eq_false_iff_ne.mpr c13
                  have c13b1 : (((rd_T53 l0 x6_1).f0) != 2) = true := bne_iff_ne.mpr c13
                  by_cases c15 : ((rd_T53 l0 x6_1).f0) = 3
                  · rw [if_pos c15] at H
                    have c15b0 : (((rd_T53 l0 x6_1).f0) == 3) = true := beq_iff_eq.mpr c15
                    have c15b1 : (((rd_T53 l0 x6_1).f0) != 3) = false := bne_eq_false_iff_eq.mpr c15
                    clear c15
                    by_cases c16 : x5_1.size + 1 ≤ 9223372036854775807
                    · rw [if_pos c16] at H
                      have c16b0 := eq_true c16
                      have c16b1 : decide (x5_1.size + 1 ≤ 9223372036854775807) = true := decide_eq_true c16
                      try have c16b2 : (9223372036854775807 < x5_1.size + 1) = False := eq_false (Nat.not_lt.2 c16)
                      have H' := Aside0.mk H
                      clear H
                      have p161 : 0 ≤ (x6_1 : Int) := of_decide_eq_true (aP61)
                      have q161 : x6_1 < (l0.length : Int) := of_decide_eq_true (aP61)
                      obtain ⟨ad161, e161, hx161_0, hx161_1, hx161_2⟩ := at_T53 HR0.out x6_1 p161 q161
                      cases e161
                      replace hx161_0 := (HB.out.cell (World.block_lt_of_cell? w _ hx161_0)).trans hx161_0
                      replace hx161_1 := (HB.out.cell (World.block_lt_of_cell? w _ hx161_1)).trans hx161_1
                      replace hx161_2 := (HB.out.cell (World.block_lt_of_cell? w _ hx161_2)).trans hx161_2
                      replace p161 := eq_true p161
                      replace q161 := eq_true q161
                      go_wp2
                      go_roundg k1
                      case measure => have := HK1.out; omega
                      case rel => exact ⟨(x5_1 ++ (⟨#[37]⟩ : ByteArray)), (wrap64 (x6_1 + 1)), (aP63), (aP63), H', ⟨by have := HK1.out; omega⟩, ⟨aP65⟩⟩
                    · rw [if_neg c16] at H
                      exact absurd H (by simp)
                  · rw [if_neg c15] at H
                    have c15b0 : (((rd_T53 l0 x6_1).f0) == 3) = false := beq_eq_false_iff_ne.mpr c15
                    have c15b1 : (((rd_T53 l0 x6_1).f0) != 3) = true := bne_iff_ne.mpr c15
                    by_cases c17 : ((rd_T53 l0 x6_1).f0) = 4
                    · rw [if_pos c17] at H
                      have c17b0 : (((rd_T53 l0 x6_1).f0) == 4) = true := beq_iff_eq.mpr c17
                      have c17b1 : (((rd_T53 l0 x6_1).f0) != 4) = false := bne_eq_false_iff_eq.mpr c17
                      clear c17
                      by_cases c18 : x5_1.size + 3 ≤ 9223372036854775807
                      · rw [if_pos c18] at H
                        have c18b0 := eq_true c18
                        have c18b1 : decide (x5_1.size + 3 ≤ 9223372036854775807) = true := decide_eq_true c18
                        try have c18b2 : (9223372036854775807 < x5_1.size + 3) = False := eq_false (Nat.not_lt.2 c18)
                        have H' := Aside0.mk H
                        clear H
                        have p161 : 0 ≤ (x6_1 : Int) := of_decide_eq_true (aP61)
                        have q161 : x6_1 < (l0.length : Int) := of_decide_eq_true (aP61)
                        obtain ⟨ad161, e161, hx161_0, hx161_1, hx161_2⟩ := at_T53 HR0.out x6_1 p161 q161
                        cases e161
                        replace hx161_0 := (HB.out.cell (World.block_lt_of_cell? w _ hx161_0)).trans hx161_0
                        replace hx161_1 := (HB.out.cell (World.block_lt_of_cell? w _ hx161_1)).trans hx161_1
                        replace hx161_2 := (HB.out.cell (World.block_lt_of_cell? w _ hx161_2)).trans hx161_2
                        replace p161 := eq_true p161
                        replace q161 := eq_true q161
                        go_wp2
                        go_roundg k1
                        case measure => have := HK1.out; omega
                        case rel => exact ⟨(x5_1 ++ (⟨#[226, 128, 176]⟩ : ByteArray)), (wrap64 (x6_1 + 1)), (aP63), (aP63), H', ⟨by have := HK1.out; omega⟩, ⟨aP65⟩⟩
                      · rw [if_neg c18] at H
                        exact absurd H (by simp)
                    · rw [if_neg c17] at H
                      have c17b0 : (((rd_T53 l0 x6_1).f0) == 4) = false := beq_eq_false_iff_ne.mpr c17
                      have c17b1 : (((rd_T53 l0 x6_1).f0) != 4) = true := bne_iff_ne.mpr c17
                      have H' := Aside0.mk H
                      clear H
                      have p161 : 0 ≤ (x6_1 : Int) := of_decide_eq_true (aP61)
                      have q161 : x6_1 < (l0.length : Int) := of_decide_eq_true (aP61)
                      obtain ⟨ad161, e161, hx161_0, hx161_1, hx161_2⟩ := at_T53 HR0.out x6_1 p161 q161
                      cases e161
                      replace hx161_0 := (HB.out.cell (World.block_lt_of_cell? w _ hx161_0)).trans hx161_0
                      replace hx161_1 := (HB.out.cell (World.block_lt_of_cell? w _ hx161_1)).trans hx161_1
                      replace hx161_2 := (HB.out.cell (World.block_lt_of_cell? w _ hx161_2)).trans hx161_2
                      replace p161 := eq_true p161
                      replace q161 := eq_true q161
                      go_wp2
                      go_loopg [5, 7] k1 (fun kq v5 v7 w' => ∃ (x5_2 : ByteArray) (x7_2 : Int), v5 = .string x5_2 ∧ v7 = .int .i64 x7_2 ∧ Aside0 (quipuref13_Print.l1 kq l0 x5_2 x6_1 x7_2 = some (r1, r2)) ∧ Aside0 (kq ≤ k1) ∧ Aside0 (Below w.heap.size w w'))
                      case atStart => exact ⟨(x5_1), (0), (aP63), (aP63), H', ⟨Nat.le_refl _⟩, ⟨aP65⟩⟩
                      case round =>
                        clear H'
                        try clear c1
                        try clear p1
                        try clear q1
                        try clear hx1
                        try clear p2
                        try clear c3
                        try clear c3b0
                        try clear c3b1
                        try clear c5
                        try clear c5b0
                        try clear c6
                        try clear c6b0
                        try clear p6
                        try clear c7
                        try clear c7b0
                        try clear c7b1
                        try clear c8
                        try clear c9
                        try clear c9b0
                        try clear c9b1
                        try clear c9b2
                        try clear c11
                        try clear c11b0
                        try clear c11b1
                        try clear c12
                        try clear c12b0
                        try clear c12b1
                        try clear c12b2
                        try clear c13
                        try clear c13b0
                        try clear c13b1
                        try clear c14
                        try clear c14b0
                        try clear c14b1
                        try clear c14b2
                        try clear c15
                        try clear c15b0
                        try clear c15b1
                        try clear c16
                        try clear c16b0
                        try clear c16b1
                        try clear c16b2
                        try clear p16
                        try clear q16
                        try clear hx16
                        try clear c17
                        try clear c17b0
                        try clear c17b1
                        try clear c18
                        try clear c18b0
                        try clear c18b1
                        try clear c18b2
                        try clear hx161_0
                        try clear hx161_1
                        try clear hx161_2
                        try clear hx162_0
                        try clear hx162_1
                        try clear hx162_2
                        try clear p161
                        try clear p162
                        try clear p2
                        try clear q161
                        try clear q162
                        obtain ⟨x5_2, x7_2, rfl, rfl, HA, HK2, HB⟩ := hrel
                        cases gk with
                        | zero => exact absurd HA.out (by simp [quipuref13_Print.l1])
                        | succ k2 =>
                          have H := HA.out
                          clear HA
                          simp only [quipuref13_Print.l1] at H
                          by_cases c19 : 0 ≤ x6_1
                          · rw [if_pos c19] at H
                            have c19b0 : decide (0 ≤ x6_1) = true := decide_eq_true c19
                            clear c19
                            by_cases c20 : x6_1 < (l0.length : Int)
                            · rw [if_pos c20] at H
                              have c20b0 : decide (x6_1 < (l0.length : Int)) = true := decide_eq_true c20
                              clear c20
                              by_cases c21 : x7_2 < ((rd_T53 l0 x6_1).f1)
                              · rw [if_pos c21] at H
                                have c21b0 : decide (x7_2 < ((rd_T53 l0 x6_1).f1)) = true := decide_eq_true c21
                                clear c21
                                by_cases c22 : x5_2.size + 2 ≤ 9223372036854775807
                                · rw [if_pos c22] at H
                                  have c22b0 := eq_true c22
                                  have c22b1 : decide (x5_2.size + 2 ≤ 9223372036854775807) = true := decide_eq_true c22
                                  try have c22b2 : (9223372036854775807 < x5_2.size + 2) = False := eq_false (Nat.not_lt.2 c22)
                                  have H' := Aside0.mk H
                                  clear H
                                  have p164 : 0 ≤ (x6_1 : Int) := of_decide_eq_true (aP61)
                                  have q164 : x6_1 < (l0.length : Int) := of_decide_eq_true (aP61)
                                  obtain ⟨ad164, e164, hx164_0, hx164_1, hx164_2⟩ := at_T53 HR0.out x6_1 p164 q164
                                  obtain rfl : ad161 = ad164 := (by injection e164)
                                  replace hx164_0 := (HB.out.cell (World.block_lt_of_cell? w _ hx164_0)).trans hx164_0
                                  replace hx164_1 := (HB.out.cell (World.block_lt_of_cell? w _ hx164_1)).trans hx164_1
                                  replace hx164_2 := (HB.out.cell (World.block_lt_of_cell? w _ hx164_2)).trans hx164_2
                                  replace p164 := eq_true p164
                                  replace q164 := eq_true q164
                                  go_wp2
                                  go_roundg k2
                                  case measure => have := HK1.out; have := HK2.out; omega
                                  case rel => exact ⟨(x5_2 ++ (⟨#[194, 164]⟩ : ByteArray)), (wrap64 (x7_2 + 1)), (aP63), (aP63), H', ⟨by have := HK1.out; have := HK2.out; omega⟩, ⟨aP65⟩⟩
                                · rw [if_neg c22] at H
                                  exact absurd H (by simp)
                              · rw [if_neg c21] at H
                                have c21b0 : decide (x7_2 < ((rd_T53 l0 x6_1).f1)) = false := decide_eq_false c21
                                clear c21
                                have H' := Aside0.mk H
                                clear H
                                have p164 : 0 ≤ (x6_1 : Int) := of_decide_eq_true (aP61)
                                have q164 : x6_1 < (l0.length : Int) := of_decide_eq_true (aP61)
                                obtain ⟨ad164, e164, hx164_0, hx164_1, hx164_2⟩ := at_T53 HR0.out x6_1 p164 q164
                                obtain rfl : ad161 = ad164 := (by injection e164)
                                replace hx164_0 := (HB.out.cell (World.block_lt_of_cell? w _ hx164_0)).trans hx164_0
                                replace hx164_1 := (HB.out.cell (World.block_lt_of_cell? w _ hx164_1)).trans hx164_1
                                replace hx164_2 := (HB.out.cell (World.block_lt_of_cell? w _ hx164_2)).trans hx164_2
                                replace p164 := eq_true p164
                                replace q164 := eq_true q164
                                go_wp2
                                go_roundg k2
                                case measure => have := HK1.out; have := HK2.out; omega
                                case rel => exact ⟨(x5_2), (wrap64 (x6_1 + 1)), (aP63), (aP63), H', ⟨by have := HK1.out; have := HK2.out; omega⟩, ⟨aP65⟩⟩
                            · rw [if_neg c20] at H
                              exact absurd H (by simp)
                          · rw [if_neg c19] at H
                            exact absurd H (by simp)
          · rw [if_neg c6] at H
            exact absurd H (by simp)
        · rw [if_neg c5] at H
          have c5b0 : decide (x6_1 < (l0.length : Int)) = false := decide_eq_false c5
          exact aP30
  · rw [if_neg c3] at H
    have c3b0 : (t160 == 0) = false := beq_eq_false_iff_ne.mpr c3
    have c3b1 : (t160 != 0) = true := bne_iff_ne.mpr c3
    simp only [Option.some.injEq, Prod.mk.injEq] at H
    obtain ⟨rfl, rfl⟩ := H
    go_enter Try.func60, Try.ntmps60
    go_wp2_with (first | ((with_reducible refine gate_callee (f := 55) rfl ?_); refine goesL_ (some 9) rfl rfl Try.func55 (by kernel_rfl) rfl #[.slice A0 l0.length c0] rfl (aP62) ?_; (with_reducible refine (quipuref13_Check.calls k _ _ l0 t160 _ ?side1 ?side2 A2.out).mono ?_); (case side1 => repeat (first | exact HR0.out | (with_reducible refine Kd.C_alloc ?_ _) | (with_reducible refine Kd.C_drewN ?_ _) | (with_reducible refine Kd.C_drew ?_))); (case side2 => exact HC0.out); rintro e w23 ⟨rfl, hb⟩; refine ⟨_, rfl, ?_⟩; have n0_ := Aside0.mk (below_step (aP65) hb); clear HB; have HB := n0_; clear n0_; (try clear hb); (try clear hb2); (try clear hk); (try clear hi)))
    exact aP29
attribute [local go_sem high] eqA53
def quipuref13_Same.l0 : Nat → List (S53) → List (S53) → Int → Option (Bool)
  | 0, _, _, _ => none
  | k + 1, x0, x1, x5 => if x5 < (x0.length : Int) then (if 0 ≤ x5 then (if x5 < (x1.length : Int) then (if (!(((rd_T53 x0 x5).f0) == ((rd_T53 x1 x5).f0)) || (!(((rd_T53 x0 x5).f1) == ((rd_T53 x1 x5).f1)) || (!((((rd_T53 x0 x5).f2).toList) == (((rd_T53 x1 x5).f2).toList))))) = true then (some false) else (quipuref13_Same.l0 k x0 x1 (wrap64 (x5 + 1)))) else (none)) else (none)) else (some true)
def quipuref13_Same.f (k : Nat) (l0 : List (S53)) (l1 : List (S53)) : Option (Bool) := if (l0.length : Int) = (l1.length : Int) then (quipuref13_Same.l0 k l0 l1 0) else (some false)
set_option maxHeartbeats 8000000 in
set_option maxRecDepth 100000 in
theorem quipuref13_Same.calls (k : Nat) (A0 : Option Addr) (c0 : Nat) (l0 : List (S53)) (A1 : Option Addr) (c1 : Nat) (l1 : List (S53)) (r : Bool) (w : World) (hr0 : Kd.C k53 w A0 l0.length l0) (hc0 : l0.length ≤ c0) (hr1 : Kd.C k53 w A1 l1.length l1) (hc1 : l1.length ≤ c1) (h : quipuref13_Same.f k l0 l1 = some r) :
    Calls Try.prog 29 #[.slice A0 l0.length c0, .slice A1 l1.length c1] w fun e w' => e = .returned (.bool r) ∧ Drawn0 w w' := by
  have hu53 := Try.underlying53
  have HR0 := Aside0.mk hr0
  have HC0 := Aside0.mk hc0
  clear hr0 hc0
  have HR1 := Aside0.mk hr1
  have HC1 := Aside0.mk hc1
  clear hr1 hc1
  have H : (if (l0.length : Int) = (l1.length : Int) then (quipuref13_Same.l0 k l0 l1 0) else (some false)) = some r := h
  clear h
  by_cases c3 : (l0.length : Int) = (l1.length : Int)
  · rw [if_pos c3] at H
    have c3b0 : ((l0.length : Int) == (l1.length : Int)) = true := beq_iff_eq.mpr c3
    have c3b1 : ((l0.length : Int) != (l1.length : Int)) = false := bne_eq_false_iff_eq.mpr c3
    have c3b2 : (l0.length == l1.length) = true := by first | simpa using c3 | (simp at c3 ⊢; omega)
    clear c3
    have H' := Aside0.mk H
    clear H
    go_enter Try.func29, Try.ntmps29
    go_wp2
    repeat (go_quiet (fail); try go_wp2)
    go_loopg [5] k (fun kq v5 w' => ∃ (x5_1 : Int), v5 = .int .i64 x5_1 ∧ Aside0 (quipuref13_Same.l0 kq l0 l1 x5_1 = some r) ∧ Aside0 (kq ≤ k) ∧ Drawn0 w w')
    case atStart => exact ⟨(0), (aP63), H', ⟨Nat.le_refl _⟩, aP64⟩
    case round =>
      clear H'
      try clear c1
      try clear c2
      try clear p2
      try clear c3
      try clear c3b0
      try clear c3b1
      try clear c3b2
      obtain ⟨x5_1, rfl, HA, HK1, ⟨m1, rfl⟩⟩ := hrel
      cases gk with
      | zero => exact absurd HA.out (by simp [quipuref13_Same.l0])
      | succ k1 =>
        have H := HA.out
        clear HA
        simp only [quipuref13_Same.l0] at H
        by_cases c4 : x5_1 < (l0.length : Int)
        · rw [if_pos c4] at H
          have c4b0 : decide (x5_1 < (l0.length : Int)) = true := decide_eq_true c4
          clear c4
          by_cases c5 : 0 ≤ x5_1
          · rw [if_pos c5] at H
            have c5b0 : decide (0 ≤ x5_1) = true := decide_eq_true c5
            clear c5
            by_cases c6 : x5_1 < (l1.length : Int)
            · rw [if_pos c6] at H
              have c6b0 : decide (x5_1 < (l1.length : Int)) = true := decide_eq_true c6
              clear c6
              by_cases c7 : (!(((rd_T53 l0 x5_1).f0) == ((rd_T53 l1 x5_1).f0)) || (!(((rd_T53 l0 x5_1).f1) == ((rd_T53 l1 x5_1).f1)) || (!((((rd_T53 l0 x5_1).f2).toList) == (((rd_T53 l1 x5_1).f2).toList))))) = true
              · rw [if_pos c7] at H
                have c7b0 : (!(((rd_T53 l0 x5_1).f0) == ((rd_T53 l1 x5_1).f0)) || (!(((rd_T53 l0 x5_1).f1) == ((rd_T53 l1 x5_1).f1)) || (!((((rd_T53 l0 x5_1).f2).toList) == (((rd_T53 l1 x5_1).f2).toList))))) = true := c7
                clear c7
                obtain rfl := Option.some.inj H
                have p214 : 0 ≤ (x5_1 : Int) := of_decide_eq_true (aP61)
                have q214 : x5_1 < (l0.length : Int) := of_decide_eq_true (aP61)
                obtain ⟨ad214, e214, hx214_0, hx214_1, hx214_2⟩ := at_T53 HR0.out x5_1 p214 q214
                cases e214
                replace p214 := eq_true p214
                replace q214 := eq_true q214
                have p215 : 0 ≤ (x5_1 : Int) := of_decide_eq_true (aP61)
                have q215 : x5_1 < (l1.length : Int) := of_decide_eq_true (aP61)
                obtain ⟨ad215, e215, hx215_0, hx215_1, hx215_2⟩ := at_T53 HR1.out x5_1 p215 q215
                cases e215
                replace p215 := eq_true p215
                replace q215 := eq_true q215
                exact aP46
              · rw [if_neg c7] at H
                have c7b0 : (!(((rd_T53 l0 x5_1).f0) == ((rd_T53 l1 x5_1).f0)) || (!(((rd_T53 l0 x5_1).f1) == ((rd_T53 l1 x5_1).f1)) || (!((((rd_T53 l0 x5_1).f2).toList) == (((rd_T53 l1 x5_1).f2).toList))))) = false := by simpa using c7
                clear c7
                have H' := Aside0.mk H
                clear H
                have p214 : 0 ≤ (x5_1 : Int) := of_decide_eq_true (aP61)
                have q214 : x5_1 < (l0.length : Int) := of_decide_eq_true (aP61)
                obtain ⟨ad214, e214, hx214_0, hx214_1, hx214_2⟩ := at_T53 HR0.out x5_1 p214 q214
                cases e214
                replace p214 := eq_true p214
                replace q214 := eq_true q214
                have p215 : 0 ≤ (x5_1 : Int) := of_decide_eq_true (aP61)
                have q215 : x5_1 < (l1.length : Int) := of_decide_eq_true (aP61)
                obtain ⟨ad215, e215, hx215_0, hx215_1, hx215_2⟩ := at_T53 HR1.out x5_1 p215 q215
                cases e215
                replace p215 := eq_true p215
                replace q215 := eq_true q215
                go_wp2
                repeat (go_quiet (fail); try go_wp2)
                go_roundg k1
                case measure => have := HK1.out; omega
                case rel => exact ⟨(wrap64 (x5_1 + 1)), (aP63), H', ⟨by have := HK1.out; omega⟩, aP64⟩
            · rw [if_neg c6] at H
              exact absurd H (by simp)
          · rw [if_neg c5] at H
            exact absurd H (by simp)
        · rw [if_neg c4] at H
          have c4b0 : decide (x5_1 < (l0.length : Int)) = false := decide_eq_false c4
          clear c4
          obtain rfl := Option.some.inj H
          exact aP46
  · rw [if_neg c3] at H
    have c3b0 : ((l0.length : Int) == (l1.length : Int)) = false := beq_eq_false_iff_ne.mpr c3
    have c3b1 : ((l0.length : Int) != (l1.length : Int)) = true := bne_iff_ne.mpr c3
    have c3b2 : (l0.length == l1.length) = false := by first | simpa using c3 | (simp at c3 ⊢; omega)
    obtain rfl := Option.some.inj H
    go_enter Try.func29, Try.ntmps29
    exact aP46
def pattern_runes.l0 : Nat → Int → List (S53) → Int → Int → Option (Int)
  | 0, _, _, _, _ => none
  | k + 1, x3, x6, x7, x8 => if x8 < x7 then (if 0 ≤ x8 then (if x8 < (x6.length : Int) then (if ((rd_T53 x6 x8).f0) = 0 then ((cursor_Runes.f k ((rd_T53 x6 x8).f2)).bind fun t218 => (pattern_runes.l0 k (wrap64 (x3 + t218)) x6 x7 (wrap64 (x8 + 1)))) else (if ((rd_T53 x6 x8).f0) = 5 then (pattern_runes.l0 k (wrap64 (x3 + ((rd_T53 x6 x8).f1))) x6 x7 (wrap64 (x8 + 1))) else (pattern_runes.l0 k (wrap64 (x3 + 1)) x6 x7 (wrap64 (x8 + 1))))) else (none)) else (none)) else (some x3)
def pattern_runes.f (k : Nat) (l0 : List (S53)) : Option (Int) := pattern_runes.l0 k 0 l0 (l0.length : Int) 0
set_option maxHeartbeats 8000000 in
set_option maxRecDepth 100000 in
theorem pattern_runes.calls (k : Nat) (A0 : Option Addr) (c0 : Nat) (l0 : List (S53)) (r : Int) (w : World) (hr0 : Kd.C k53 w A0 l0.length l0) (hc0 : l0.length ≤ c0) (h : pattern_runes.f k l0 = some r) :
    Calls Try.prog 46 #[.slice A0 l0.length c0] w fun e w' => e = .returned (.int .i64 r) ∧ Below w.heap.size w w' := by
  have hu53 := Try.underlying53
  have HR0 := Aside0.mk hr0
  have HC0 := Aside0.mk hc0
  clear hr0 hc0
  have HB := Aside0.mk (Below.refl w.heap.size w)
  have H : (pattern_runes.l0 k 0 l0 (l0.length : Int) 0) = some r := h
  clear h
  have H' := Aside0.mk H
  clear H
  go_enter Try.func46, Try.ntmps46
  go_wp2
  go_loopg [3, 8] k (fun kq v3 v8 w' => ∃ (x3_1 : Int) (x8_1 : Int), v3 = .int .i64 x3_1 ∧ v8 = .int .i64 x8_1 ∧ Aside0 (pattern_runes.l0 kq x3_1 l0 (l0.length : Int) x8_1 = some r) ∧ Aside0 (kq ≤ k) ∧ Aside0 (Below w.heap.size w w'))
  case atStart => exact ⟨(0), (0), (aP63), (aP63), H', ⟨Nat.le_refl _⟩, ⟨aP65⟩⟩
  case round =>
    clear H'
    obtain ⟨x3_1, x8_1, rfl, rfl, HA, HK1, HB⟩ := hrel
    cases gk with
    | zero => exact absurd HA.out (by simp [pattern_runes.l0])
    | succ k1 =>
      have H := HA.out
      clear HA
      simp only [pattern_runes.l0] at H
      by_cases c2 : x8_1 < (l0.length : Int)
      · rw [if_pos c2] at H
        have c2b0 : decide (x8_1 < (l0.length : Int)) = true := decide_eq_true c2
        clear c2
        by_cases c3 : 0 ≤ x8_1
        · rw [if_pos c3] at H
          have c3b0 : decide (0 ≤ x8_1) = true := decide_eq_true c3
          clear c3
          by_cases c4 : x8_1 < (l0.length : Int)
          · rw [if_pos c4] at H
            have c4b0 : decide (x8_1 < (l0.length : Int)) = true := decide_eq_true c4
            clear c4
            by_cases c5 : ((rd_T53 l0 x8_1).f0) = 0
            · rw [if_pos c5] at H
              have c5b0 : (((rd_T53 l0 x8_1).f0) == 0) = true := beq_iff_eq.mpr c5
              have c5b1 : (((rd_T53 l0 x8_1).f0) != 0) = false := bne_eq_false_iff_eq.mpr c5
              clear c5
              replace H := Option.bind_eq_some_iff.mp H
              obtain ⟨t218, A60, H⟩ := H
              replace H : (pattern_runes.l0 k1 (wrap64 (x3_1 + t218)) l0 (l0.length : Int) (wrap64 (x8_1 + 1))) = some r := H
              have A6 := Aside0.mk A60
              clear A60
              have H' := Aside0.mk H
              clear H
              have p216 : 0 ≤ (x8_1 : Int) := of_decide_eq_true (aP61)
              have q216 : x8_1 < (l0.length : Int) := of_decide_eq_true (aP61)
              obtain ⟨ad216, e216, hx216_0, hx216_1, hx216_2⟩ := at_T53 HR0.out x8_1 p216 q216
              cases e216
              replace hx216_0 := (HB.out.cell (World.block_lt_of_cell? w _ hx216_0)).trans hx216_0
              replace hx216_1 := (HB.out.cell (World.block_lt_of_cell? w _ hx216_1)).trans hx216_1
              replace hx216_2 := (HB.out.cell (World.block_lt_of_cell? w _ hx216_2)).trans hx216_2
              replace p216 := eq_true p216
              replace q216 := eq_true q216
              go_wp2_with (first | ((with_reducible refine gate_dst (N := 5) rfl ?_); refine box_event ?hg (N := 5) ?hd (cs := #[.int .i64 0, .int .i64 0, .string (⟨#[]⟩ : ByteArray)]) (t := 53) ?hr ?_; (case hd => rfl); (case hg => rfl); (case hr => first | (go_simp; done) | (go_simp; rfl)); intro gb217 hg w7 hbox hb; have n0_ := Aside0.mk (below_step (aP65) hb); have n1_ := Aside0.mk (hbox); have n2_ := Aside0.mk ((aP66 : w.heap.size ≤ gb217)); have n3_ := Aside0.mk ((aP66 : w.heap.size ≤ gb217)); clear HB; have HB := n0_; have BK217 := n1_; have GW217 := n2_; have GE217 := n3_; clear n0_ n1_ n2_ n3_; clear hb hbox hg; have hcz8_0 : w7.cell? ⟨gb217, 0, none⟩ = some (.int .i64 0) := (blk_cell BK217.out 0).trans rfl; have hcz8_1 : w7.cell? ⟨gb217, 1, none⟩ = some (.int .i64 0) := (blk_cell BK217.out 1).trans rfl; have hcz8_2 : w7.cell? ⟨gb217, 2, none⟩ = some (.string (⟨#[]⟩ : ByteArray)) := (blk_cell BK217.out 2).trans rfl; have hfz8_0 := blk_frozen BK217.out 0; have hfz8_1 := blk_frozen BK217.out 1; have hfz8_2 := blk_frozen BK217.out 2) | ((with_reducible refine gate_callee (f := 35) rfl ?_); refine goesL_ (some 21) rfl rfl Try.func35 (by kernel_rfl) rfl #[.string ((rd_T53 l0 x8_1).f2)] rfl (aP62) ?_; (with_reducible refine (cursor_Runes.calls k1 ((rd_T53 l0 x8_1).f2) t218 _ A6.out).mono ?_); rintro e w' ⟨rfl, ⟨nd, rfl⟩⟩; refine ⟨_, rfl, ?_⟩))
              go_roundg k1
              case measure => have := HK1.out; omega
              case rel => exact ⟨(wrap64 (x3_1 + t218)), (wrap64 (x8_1 + 1)), (aP63), (aP63), H', ⟨by have := HK1.out; omega⟩, ⟨aP85⟩⟩
            · rw [if_neg c5] at H
              have c5b0 : (((rd_T53 l0 x8_1).f0) == 0) = false := beq_eq_false_iff_ne.mpr c5
              have c5b1 : (((rd_T53 l0 x8_1).f0) != 0) = true := bne_iff_ne.mpr c5
              by_cases c9 : ((rd_T53 l0 x8_1).f0) = 5
              · rw [if_pos c9] at H
                have c9b0 : (((rd_T53 l0 x8_1).f0) == 5) = true := beq_iff_eq.mpr c9
                have c9b1 : (((rd_T53 l0 x8_1).f0) != 5) = false := bne_eq_false_iff_eq.mpr c9
                clear c9
                have H' := Aside0.mk H
                clear H
                have p216 : 0 ≤ (x8_1 : Int) := of_decide_eq_true (aP61)
                have q216 : x8_1 < (l0.length : Int) := of_decide_eq_true (aP61)
                obtain ⟨ad216, e216, hx216_0, hx216_1, hx216_2⟩ := at_T53 HR0.out x8_1 p216 q216
                cases e216
                replace hx216_0 := (HB.out.cell (World.block_lt_of_cell? w _ hx216_0)).trans hx216_0
                replace hx216_1 := (HB.out.cell (World.block_lt_of_cell? w _ hx216_1)).trans hx216_1
                replace hx216_2 := (HB.out.cell (World.block_lt_of_cell? w _ hx216_2)).trans hx216_2
                replace p216 := eq_true p216
                replace q216 := eq_true q216
                go_wp2_with (first | ((with_reducible refine gate_dst (N := 5) rfl ?_); refine box_event ?hg (N := 5) ?hd (cs := #[.int .i64 0, .int .i64 0, .string (⟨#[]⟩ : ByteArray)]) (t := 53) ?hr ?_; (case hd => rfl); (case hg => rfl); (case hr => first | (go_simp; done) | (go_simp; rfl)); intro gb217 hg w10 hbox hb; have n0_ := Aside0.mk (below_step (aP65) hb); have n1_ := Aside0.mk (hbox); have n2_ := Aside0.mk ((aP66 : w.heap.size ≤ gb217)); have n3_ := Aside0.mk ((aP66 : w.heap.size ≤ gb217)); clear HB; have HB := n0_; have BK217 := n1_; have GW217 := n2_; have GE217 := n3_; clear n0_ n1_ n2_ n3_; clear hb hbox hg; have hcz11_0 : w10.cell? ⟨gb217, 0, none⟩ = some (.int .i64 0) := (blk_cell BK217.out 0).trans rfl; have hcz11_1 : w10.cell? ⟨gb217, 1, none⟩ = some (.int .i64 0) := (blk_cell BK217.out 1).trans rfl; have hcz11_2 : w10.cell? ⟨gb217, 2, none⟩ = some (.string (⟨#[]⟩ : ByteArray)) := (blk_cell BK217.out 2).trans rfl; have hfz11_0 := blk_frozen BK217.out 0; have hfz11_1 := blk_frozen BK217.out 1; have hfz11_2 := blk_frozen BK217.out 2))
                go_roundg k1
                case measure => have := HK1.out; omega
                case rel => exact ⟨(wrap64 (x3_1 + ((rd_T53 l0 x8_1).f1))), (wrap64 (x8_1 + 1)), (aP63), (aP63), H', ⟨by have := HK1.out; omega⟩, ⟨aP85⟩⟩
              · rw [if_neg c9] at H
                have c9b0 : (((rd_T53 l0 x8_1).f0) == 5) = false := beq_eq_false_iff_ne.mpr c9
                have c9b1 : (((rd_T53 l0 x8_1).f0) != 5) = true := bne_iff_ne.mpr c9
                have H' := Aside0.mk H
                clear H
                have p216 : 0 ≤ (x8_1 : Int) := of_decide_eq_true (aP61)
                have q216 : x8_1 < (l0.length : Int) := of_decide_eq_true (aP61)
                obtain ⟨ad216, e216, hx216_0, hx216_1, hx216_2⟩ := at_T53 HR0.out x8_1 p216 q216
                cases e216
                replace hx216_0 := (HB.out.cell (World.block_lt_of_cell? w _ hx216_0)).trans hx216_0
                replace hx216_1 := (HB.out.cell (World.block_lt_of_cell? w _ hx216_1)).trans hx216_1
                replace hx216_2 := (HB.out.cell (World.block_lt_of_cell? w _ hx216_2)).trans hx216_2
                replace p216 := eq_true p216
                replace q216 := eq_true q216
                go_wp2_with (first | ((with_reducible refine gate_dst (N := 5) rfl ?_); refine box_event ?hg (N := 5) ?hd (cs := #[.int .i64 0, .int .i64 0, .string (⟨#[]⟩ : ByteArray)]) (t := 53) ?hr ?_; (case hd => rfl); (case hg => rfl); (case hr => first | (go_simp; done) | (go_simp; rfl)); intro gb217 hg w12 hbox hb; have n0_ := Aside0.mk (below_step (aP65) hb); have n1_ := Aside0.mk (hbox); have n2_ := Aside0.mk ((aP66 : w.heap.size ≤ gb217)); have n3_ := Aside0.mk ((aP66 : w.heap.size ≤ gb217)); clear HB; have HB := n0_; have BK217 := n1_; have GW217 := n2_; have GE217 := n3_; clear n0_ n1_ n2_ n3_; clear hb hbox hg; have hcz13_0 : w12.cell? ⟨gb217, 0, none⟩ = some (.int .i64 0) := (blk_cell BK217.out 0).trans rfl; have hcz13_1 : w12.cell? ⟨gb217, 1, none⟩ = some (.int .i64 0) := (blk_cell BK217.out 1).trans rfl; have hcz13_2 : w12.cell? ⟨gb217, 2, none⟩ = some (.string (⟨#[]⟩ : ByteArray)) := (blk_cell BK217.out 2).trans rfl; have hfz13_0 := blk_frozen BK217.out 0; have hfz13_1 := blk_frozen BK217.out 1; have hfz13_2 := blk_frozen BK217.out 2))
                go_roundg k1
                case measure => have := HK1.out; omega
                case rel => exact ⟨(wrap64 (x3_1 + 1)), (wrap64 (x8_1 + 1)), (aP63), (aP63), H', ⟨by have := HK1.out; omega⟩, ⟨aP85⟩⟩
          · rw [if_neg c4] at H
            exact absurd H (by simp)
        · rw [if_neg c3] at H
          exact absurd H (by simp)
      · rw [if_neg c2] at H
        have c2b0 : decide (x8_1 < (l0.length : Int)) = false := decide_eq_false c2
        clear c2
        obtain rfl := Option.some.inj H
        exact aP44
end Go.Proofs.Ytacnjemndfmbhaa.Q
end
section
namespace Go.Proofs.Ytacnjemndfmbhaa.Q
open Go.RowKit Go.Proofs.YtacnjemndfmbhaaW.PrintWords Go.Proofs.YtacnjemndfmbhaaW.PrintLast Go.Proofs.YtacnjemndfmbhaaW.PrintMore
attribute [local go_sem] max2_int min2_int max_two min_two max_three min_three max_four min_four   -- for this text's walks alone
set_option linter.unusedVariables false
set_option linter.unusedSimpArgs false

def quipuref14_runes.l0 : Nat → List (S53) → Int → Int → Option (Int)
  | 0, _, _, _ => none
  | k + 1, x0, x3, x4 => if x4 < (x0.length : Int) then (if 0 ≤ x4 then (if ((rd_T53 x0 x4).f0) = 0 then ((quipuref11_Runes.f k ((rd_T53 x0 x4).f2)).bind fun t221 => (quipuref14_runes.l0 k x0 (wrap64 (x3 + t221)) (wrap64 (x4 + 1)))) else (if ((rd_T53 x0 x4).f0) = 5 then (quipuref14_runes.l0 k x0 (wrap64 (x3 + ((rd_T53 x0 x4).f1))) (wrap64 (x4 + 1))) else (quipuref14_runes.l0 k x0 (wrap64 (x3 + 1)) (wrap64 (x4 + 1))))) else (none)) else (some x3)
def quipuref14_runes.f (k : Nat) (l0 : List (S53)) : Option (Int) := quipuref14_runes.l0 k l0 0 0
set_option maxHeartbeats 8000000 in
set_option maxRecDepth 100000 in
theorem quipuref14_runes.calls (k : Nat) (A0 : Option Addr) (c0 : Nat) (l0 : List (S53)) (r : Int) (w : World) (hr0 : Kd.C k53 w A0 l0.length l0) (hc0 : l0.length ≤ c0) (h : quipuref14_runes.f k l0 = some r) :
    Calls Try.prog 52 #[.slice A0 l0.length c0] w fun e w' => e = .returned (.int .i64 r) ∧ Drawn0 w w' := by
  have HR0 := Aside0.mk hr0
  have HC0 := Aside0.mk hc0
  clear hr0 hc0
  have H : (quipuref14_runes.l0 k l0 0 0) = some r := h
  clear h
  have H' := Aside0.mk H
  clear H
  go_enter Try.func52, Try.ntmps52
  go_wp2
  go_loopg [3, 4] k (fun kq v3 v4 w' => ∃ (x3_1 : Int) (x4_1 : Int), v3 = .int .i64 x3_1 ∧ v4 = .int .i64 x4_1 ∧ Aside0 (quipuref14_runes.l0 kq l0 x3_1 x4_1 = some r) ∧ Aside0 (kq ≤ k) ∧ Drawn0 w w')
  case atStart => exact ⟨(0), (0), (aP63), (aP63), H', ⟨Nat.le_refl _⟩, aP64⟩
  case round =>
    clear H'
    obtain ⟨x3_1, x4_1, rfl, rfl, HA, HK1, ⟨m1, rfl⟩⟩ := hrel
    cases gk with
    | zero => exact absurd HA.out (by simp [quipuref14_runes.l0])
    | succ k1 =>
      have H := HA.out
      clear HA
      simp only [quipuref14_runes.l0] at H
      by_cases c2 : x4_1 < (l0.length : Int)
      · rw [if_pos c2] at H
        have c2b0 : decide (x4_1 < (l0.length : Int)) = true := decide_eq_true c2
        clear c2
        by_cases c3 : 0 ≤ x4_1
        · rw [if_pos c3] at H
          have c3b0 : decide (0 ≤ x4_1) = true := decide_eq_true c3
          clear c3
          by_cases c4 : ((rd_T53 l0 x4_1).f0) = 0
          · rw [if_pos c4] at H
            have c4b0 : (((rd_T53 l0 x4_1).f0) == 0) = true := beq_iff_eq.mpr c4
            have c4b1 : (((rd_T53 l0 x4_1).f0) != 0) = false := bne_eq_false_iff_eq.mpr c4
            clear c4
            replace H := Option.bind_eq_some_iff.mp H
            obtain ⟨t221, A50, H⟩ := H
            replace H : (quipuref14_runes.l0 k1 l0 (wrap64 (x3_1 + t221)) (wrap64 (x4_1 + 1))) = some r := H
            have A5 := Aside0.mk A50
            clear A50
            have H' := Aside0.mk H
            clear H
            have p219 : 0 ≤ (x4_1 : Int) := of_decide_eq_true (aP61)
            have q219 : x4_1 < (l0.length : Int) := of_decide_eq_true (aP61)
            obtain ⟨ad219, e219, hx219_0, hx219_1, hx219_2⟩ := at_T53 HR0.out x4_1 p219 q219
            cases e219
            replace p219 := eq_true p219
            replace q219 := eq_true q219
            have p220 : 0 ≤ (x4_1 : Int) := of_decide_eq_true (aP61)
            have q220 : x4_1 < (l0.length : Int) := of_decide_eq_true (aP61)
            obtain ⟨ad220, e220, hx220_0, hx220_1, hx220_2⟩ := at_T53 HR0.out x4_1 p220 q220
            obtain rfl : ad219 = ad220 := (by injection e220)
            replace p220 := eq_true p220
            replace q220 := eq_true q220
            go_wp2_with (first | ((with_reducible refine gate_callee (f := 57) rfl ?_); refine goesL_ (some 26) rfl rfl Try.func57 (by kernel_rfl) rfl #[.string ((rd_T53 l0 x4_1).f2)] rfl (aP62) ?_; (with_reducible refine (quipuref11_Runes.calls k1 ((rd_T53 l0 x4_1).f2) t221 _ A5.out).mono ?_); rintro e w' ⟨rfl, ⟨nd, rfl⟩⟩; refine ⟨_, rfl, ?_⟩))
            go_roundg k1
            case measure => have := HK1.out; omega
            case rel => exact ⟨(wrap64 (x3_1 + t221)), (wrap64 (x4_1 + 1)), (aP63), (aP63), H', ⟨by have := HK1.out; omega⟩, aP64⟩
          · rw [if_neg c4] at H
            have c4b0 : (((rd_T53 l0 x4_1).f0) == 0) = false := beq_eq_false_iff_ne.mpr c4
            have c4b1 : (((rd_T53 l0 x4_1).f0) != 0) = true := bne_iff_ne.mpr c4
            by_cases c6 : ((rd_T53 l0 x4_1).f0) = 5
            · rw [if_pos c6] at H
              have c6b0 : (((rd_T53 l0 x4_1).f0) == 5) = true := beq_iff_eq.mpr c6
              have c6b1 : (((rd_T53 l0 x4_1).f0) != 5) = false := bne_eq_false_iff_eq.mpr c6
              clear c6
              have H' := Aside0.mk H
              clear H
              have p219 : 0 ≤ (x4_1 : Int) := of_decide_eq_true (aP61)
              have q219 : x4_1 < (l0.length : Int) := of_decide_eq_true (aP61)
              obtain ⟨ad219, e219, hx219_0, hx219_1, hx219_2⟩ := at_T53 HR0.out x4_1 p219 q219
              cases e219
              replace p219 := eq_true p219
              replace q219 := eq_true q219
              have p222 : 0 ≤ (x4_1 : Int) := of_decide_eq_true (aP61)
              have q222 : x4_1 < (l0.length : Int) := of_decide_eq_true (aP61)
              obtain ⟨ad222, e222, hx222_0, hx222_1, hx222_2⟩ := at_T53 HR0.out x4_1 p222 q222
              obtain rfl : ad219 = ad222 := (by injection e222)
              replace p222 := eq_true p222
              replace q222 := eq_true q222
              go_wp2
              go_roundg k1
              case measure => have := HK1.out; omega
              case rel => exact ⟨(wrap64 (x3_1 + ((rd_T53 l0 x4_1).f1))), (wrap64 (x4_1 + 1)), (aP63), (aP63), H', ⟨by have := HK1.out; omega⟩, aP64⟩
            · rw [if_neg c6] at H
              have c6b0 : (((rd_T53 l0 x4_1).f0) == 5) = false := beq_eq_false_iff_ne.mpr c6
              have c6b1 : (((rd_T53 l0 x4_1).f0) != 5) = true := bne_iff_ne.mpr c6
              have H' := Aside0.mk H
              clear H
              have p219 : 0 ≤ (x4_1 : Int) := of_decide_eq_true (aP61)
              have q219 : x4_1 < (l0.length : Int) := of_decide_eq_true (aP61)
              obtain ⟨ad219, e219, hx219_0, hx219_1, hx219_2⟩ := at_T53 HR0.out x4_1 p219 q219
              cases e219
              replace p219 := eq_true p219
              replace q219 := eq_true q219
              go_wp2
              go_roundg k1
              case measure => have := HK1.out; omega
              case rel => exact ⟨(wrap64 (x3_1 + 1)), (wrap64 (x4_1 + 1)), (aP63), (aP63), H', ⟨by have := HK1.out; omega⟩, aP64⟩
        · rw [if_neg c3] at H
          exact absurd H (by simp)
      · rw [if_neg c2] at H
        have c2b0 : decide (x4_1 < (l0.length : Int)) = false := decide_eq_false c2
        exact aP47
def quipuref14_times.l0 : Nat → ByteArray → Int → ByteArray → Int → Option (ByteArray)
  | 0, _, _, _, _ => none
  | k + 1, x0, x1, x5, x6 => if x6 < x1 then (if x5.size + x0.size ≤ 9223372036854775807 then (quipuref14_times.l0 k x0 x1 (x5 ++ x0) (wrap64 (x6 + 1))) else (none)) else (some x5)
def quipuref14_times.f (k : Nat) (a0 : ByteArray) (a1 : Int) : Option (ByteArray) := quipuref14_times.l0 k a0 a1 (⟨#[]⟩ : ByteArray) 0
set_option maxHeartbeats 8000000 in
set_option maxRecDepth 100000 in
theorem quipuref14_times.calls (k : Nat) (a0 : ByteArray) (a1 : Int) (r : ByteArray) (w : World) (h : quipuref14_times.f k a0 a1 = some r) :
    Calls Try.prog 80 #[.string a0, .int .i64 a1] w fun e w' => e = .returned (.string r) ∧ Drawn0 w w' := by
  have H : (quipuref14_times.l0 k a0 a1 (⟨#[]⟩ : ByteArray) 0) = some r := h
  clear h
  have H' := Aside0.mk H
  clear H
  go_enter Try.func80, Try.ntmps80
  go_wp2
  go_loopg [5, 6] k (fun kq v5 v6 w' => ∃ (x5_1 : ByteArray) (x6_1 : Int), v5 = .string x5_1 ∧ v6 = .int .i64 x6_1 ∧ Aside0 (quipuref14_times.l0 kq a0 a1 x5_1 x6_1 = some r) ∧ Aside0 (kq ≤ k) ∧ Drawn0 w w')
  case atStart => exact ⟨((⟨#[]⟩ : ByteArray)), (0), (aP63), (aP63), H', ⟨Nat.le_refl _⟩, aP64⟩
  case round =>
    clear H'
    try clear p2
    obtain ⟨x5_1, x6_1, rfl, rfl, HA, HK1, ⟨m1, rfl⟩⟩ := hrel
    cases gk with
    | zero => exact absurd HA.out (by simp [quipuref14_times.l0])
    | succ k1 =>
      have H := HA.out
      clear HA
      simp only [quipuref14_times.l0] at H
      by_cases c3 : x6_1 < a1
      · rw [if_pos c3] at H
        have c3b0 : decide (x6_1 < a1) = true := decide_eq_true c3
        clear c3
        by_cases c4 : x5_1.size + a0.size ≤ 9223372036854775807
        · rw [if_pos c4] at H
          have c4b0 := eq_true c4
          have c4b1 : decide (x5_1.size + a0.size ≤ 9223372036854775807) = true := decide_eq_true c4
          try have c4b2 : (9223372036854775807 < x5_1.size + a0.size) = False := eq_false (Nat.not_lt.2 c4)
          have H' := Aside0.mk H
          clear H
          go_wp2
          go_roundg k1
          case measure => have := HK1.out; omega
          case rel => exact ⟨(x5_1 ++ a0), (wrap64 (x6_1 + 1)), (aP63), (aP63), H', ⟨by have := HK1.out; omega⟩, aP64⟩
        · rw [if_neg c4] at H
          exact absurd H (by simp)
      · rw [if_neg c3] at H
        have c3b0 : decide (x6_1 < a1) = false := decide_eq_false c3
        clear c3
        exact aP2
end Go.Proofs.Ytacnjemndfmbhaa.Q
end
section
namespace Go.Proofs.Ytacnjemndfmbhaa.R1
open Go.RowKit Go.Proofs.Ytacnjemndfmbhaa.Q Go.Proofs.YtacnjemndfmbhaaW.PrintWords Go.Proofs.YtacnjemndfmbhaaW.PrintLast
set_option linter.unusedVariables false
set_option linter.unusedSimpArgs false

def W (s : ByteArray) (i lo hi : Int) : Bool := decide (i < s.size) && (decide (lo ≤ bt s i) && decide (bt s i ≤ hi))

def runeS (s : ByteArray) (p : Int) : Int :=
  if p < 0 then 0 else if (s.size : Int) ≤ p then 0 else
  if bt s p < 128 then 1 else if bt s p < 194 then 0
  else if bt s p < 224 then (if W s (p + 1) 128 191 = true then 2 else 0)
  else if bt s p = 224 then (if (W s (p + 1) 160 191 && W s (p + 2) 128 191) = true then 3 else 0)
  else if bt s p = 237 then (if (W s (p + 1) 128 159 && W s (p + 2) 128 191) = true then 3 else 0)
  else if bt s p < 240 then (if (W s (p + 1) 128 191 && W s (p + 2) 128 191) = true then 3 else 0)
  else if bt s p = 240 then (if (W s (p + 1) 144 191 && (W s (p + 2) 128 191 && W s (p + 3) 128 191)) = true then 4 else 0)
  else if bt s p < 244 then (if (W s (p + 1) 128 191 && (W s (p + 2) 128 191 && W s (p + 3) 128 191)) = true then 4 else 0)
  else if bt s p = 244 then (if (W s (p + 1) 128 143 && (W s (p + 2) 128 191 && W s (p + 3) 128 191)) = true then 4 else 0)
  else 0

theorem wr (x : Int) (h0 : 0 ≤ x) (h1 : x ≤ 9223372036854775807) : wrap64 x = x := by unfold wrap64; omega

theorem within_eq (s : ByteArray) (i lo hi : Int) (h : 0 ≤ i) : quipuref11_within.f s i lo hi = some (W s i lo hi) := by
  have hb := bt_range s i
  simp only [quipuref11_within.f, W, wr (bt s i) hb.1 (by omega)]
  by_cases h1 : i < s.size
  · rw [if_pos h1, if_pos h]
    by_cases h2 : bt s i ≥ lo
    · rw [if_pos h2]; simp [h1, h2]
    · rw [if_neg h2]; simp [h1, h2]
  · rw [if_neg h1]; simp [h1]


section
variable (s : ByteArray) (p c : Int) (v0 u2 u3 : Bool)
def T7 (x : Bool) : Int := if x = true then 4 else if c = 244 then (if (W s (p + 1) 128 143 && (u2 && u3)) = true then 4 else 0) else 0
def T6 (x : Bool) : Int := if x = true then 4 else if 241 ≤ c ∧ c ≤ 243 then T7 s p c u2 u3 (v0 && (u2 && u3)) else T7 s p c u2 u3 false
def T5 (x : Bool) : Int := if x = true then 3 else if c = 240 then T6 s p c v0 u2 u3 (W s (p + 1) 144 191 && (u2 && u3)) else T6 s p c v0 u2 u3 false
def T4 (x : Bool) : Int := if x = true then 3 else if c = 237 then T5 s p c v0 u2 u3 (W s (p + 1) 128 159 && u2) else T5 s p c v0 u2 u3 false
def T3 (x : Bool) : Int := if x = true then T4 s p c v0 u2 u3 x else if c = 238 ∨ c = 239 then T4 s p c v0 u2 u3 (v0 && u2) else T4 s p c v0 u2 u3 false
def T2 (x : Bool) : Int := if x = true then 3 else if 225 ≤ c ∧ c ≤ 236 then T3 s p c v0 u2 u3 (v0 && u2) else T3 s p c v0 u2 u3 false
def T1 (x : Bool) : Int := if x = true then 2 else if c = 224 then T2 s p c v0 u2 u3 (W s (p + 1) 160 191 && u2) else T2 s p c v0 u2 u3 false
variable (h0 : 0 ≤ p + 1) (e1 : wrap64 (p + 1) = p + 1)
include h0 e1
theorem t7 (k : Nat) (x : Bool) : quipuref11_Rune.j7 (k + 1) s p c u2 u3 x = some (T7 s p c u2 u3 x) := by
  simp only [quipuref11_Rune.j7, T7, e1, within_eq s (p + 1) _ _ h0, Option.bind_some]
  cases x <;> cases W s (p + 1) 128 143 <;> cases u2 <;> cases u3 <;> simp <;> split <;> rfl
theorem t6 (k : Nat) (x : Bool) : quipuref11_Rune.j6 (k + 2) s p c v0 u2 u3 x = some (T6 s p c v0 u2 u3 x) := by
  simp only [quipuref11_Rune.j6, T6, t7 s p c u2 u3 h0 e1]
  cases x <;> cases v0 <;> cases u2 <;> simp <;> (by_cases a : c ≥ 241 <;> by_cases b : c ≤ 243 <;> simp [a, b])
theorem t5 (k : Nat) (x : Bool) : quipuref11_Rune.j5 (k + 3) s p c v0 u2 u3 x = some (T5 s p c v0 u2 u3 x) := by
  simp only [quipuref11_Rune.j5, T5, t6 s p c v0 u2 u3 h0 e1, e1, within_eq s (p + 1) _ _ h0, Option.bind_some]
  cases x <;> cases W s (p + 1) 144 191 <;> cases u2 <;> simp <;> split <;> rfl
theorem t4 (k : Nat) (x : Bool) : quipuref11_Rune.j4 (k + 4) s p c v0 u2 u3 x = some (T4 s p c v0 u2 u3 x) := by
  simp only [quipuref11_Rune.j4, T4, t5 s p c v0 u2 u3 h0 e1, e1, within_eq s (p + 1) _ _ h0, Option.bind_some]
  cases x <;> cases W s (p + 1) 128 159 <;> simp <;> split <;> rfl
theorem t3 (k : Nat) (x : Bool) : quipuref11_Rune.j3 (k + 5) s p c v0 u2 u3 x = some (T3 s p c v0 u2 u3 x) := by
  simp only [quipuref11_Rune.j3, T3, t4 s p c v0 u2 u3 h0 e1]
  cases x <;> cases v0 <;> simp <;> (by_cases a : c = 238 <;> by_cases b : c = 239 <;> simp [a, b])
theorem t2 (k : Nat) (x : Bool) : quipuref11_Rune.j2 (k + 6) s p c v0 u2 u3 x = some (T2 s p c v0 u2 u3 x) := by
  simp only [quipuref11_Rune.j2, T2, t3 s p c v0 u2 u3 h0 e1]
  cases x <;> cases v0 <;> simp <;> (by_cases a : c ≥ 225 <;> by_cases b : c ≤ 236 <;> simp [a, b])
theorem t1 (k : Nat) (x : Bool) : quipuref11_Rune.j1 (k + 7) s p c v0 u2 u3 x = some (T1 s p c v0 u2 u3 x) := by
  simp only [quipuref11_Rune.j1, T1, t2 s p c v0 u2 u3 h0 e1, e1, within_eq s (p + 1) _ _ h0, Option.bind_some]
  cases x <;> cases W s (p + 1) 160 191 <;> simp <;> split <;> rfl
end

theorem refRune (s : ByteArray) (p : Int) (hs : s.size ≤ 281474976710656) (k : Nat) : quipuref11_Rune.f (k + 8) s p = some (runeS s p) := by
  have hb := bt_range s p
  by_cases h0 : p < 0
  · simp [quipuref11_Rune.f, quipuref11_Rune.j0, runeS, h0]
  by_cases h1 : (s.size : Int) ≤ p
  · simp [quipuref11_Rune.f, quipuref11_Rune.j0, runeS, h0, h1]
  have e1 : wrap64 (p + 1) = p + 1 := wr _ (by omega) (by omega)
  have e2 : wrap64 (p + 2) = p + 2 := wr _ (by omega) (by omega)
  have e3 : wrap64 (p + 3) = p + 3 := wr _ (by omega) (by omega)
  have hd : decide (p ≥ (s.size : Int)) = false := decide_eq_false (by omega)
  simp only [quipuref11_Rune.f, quipuref11_Rune.j0, hd, Bool.false_eq_true, if_false, if_neg h0, if_pos (show 0 ≤ p by omega), if_pos (show p < (s.size : Int) by omega), e1, e2, e3,
    within_eq s (p + 1) 128 191 (by omega), within_eq s (p + 2) 128 191 (by omega), within_eq s (p + 3) 128 191 (by omega), Option.bind_some, wr (bt s p) hb.1 (by omega), t1 s p _ _ _ _ (show 0 ≤ p + 1 by omega) e1]
  simp only [runeS, if_neg h0, if_neg h1]
  have hW1 : ∀ lo hi, (128 : Int) ≤ lo → hi ≤ 191 → W s (p + 1) lo hi = true → W s (p + 1) 128 191 = true := fun lo hi hl hh hw => by
    simp only [W, Bool.and_eq_true, decide_eq_true_eq] at hw ⊢
    omega
  have a1 := hW1 160 191 (by omega) (by omega)
  have a2 := hW1 128 159 (by omega) (by omega)
  have a3 := hW1 144 191 (by omega) (by omega)
  have a4 := hW1 128 143 (by omega) (by omega)
  simp only [T1, T2, T3, T4, T5, T6, T7]
  generalize bt s p = c at *
  generalize W s (p + 1) 128 191 = v0 at *
  generalize W s (p + 1) 160 191 = v1 at *
  generalize W s (p + 1) 128 159 = v2 at *
  generalize W s (p + 1) 144 191 = v3 at *
  generalize W s (p + 1) 128 143 = v4 at *
  generalize W s (p + 2) 128 191 = u2 at *
  generalize W s (p + 3) 128 191 = u3 at *
  clear hW1 hd
  have hc : c < 128 ∨ (128 ≤ c ∧ c < 194) ∨ (194 ≤ c ∧ c < 224) ∨ c = 224 ∨ (225 ≤ c ∧ c ≤ 236) ∨ c = 237 ∨ (238 ≤ c ∧ c ≤ 239) ∨ c = 240 ∨ (241 ≤ c ∧ c ≤ 243) ∨ c = 244 ∨ 244 < c := by omega
  rcases hc with hc | hc | hc | hc | hc | hc | hc | hc | hc | hc | hc
  all_goals
    (first | have f0 := eq_true (show c < 128 by omega) | have f0 := eq_false (show ¬ (c < 128) by omega))
    (first | have f1 := eq_true (show c ≥ 194 by omega) | have f1 := eq_false (show ¬ (c ≥ 194) by omega))
    (first | have f2 := eq_true (show c ≤ 223 by omega) | have f2 := eq_false (show ¬ (c ≤ 223) by omega))
    (first | have f3 := eq_true (show c = 224 by omega) | have f3 := eq_false (show ¬ (c = 224) by omega))
    (first | have f4 := eq_true (show 225 ≤ c ∧ c ≤ 236 by omega) | have f4 := eq_false (show ¬ (225 ≤ c ∧ c ≤ 236) by omega))
    (first | have f5 := eq_true (show c = 238 ∨ c = 239 by omega) | have f5 := eq_false (show ¬ (c = 238 ∨ c = 239) by omega))
    (first | have f6 := eq_true (show c = 237 by omega) | have f6 := eq_false (show ¬ (c = 237) by omega))
    (first | have f7 := eq_true (show c = 240 by omega) | have f7 := eq_false (show ¬ (c = 240) by omega))
    (first | have f8 := eq_true (show 241 ≤ c ∧ c ≤ 243 by omega) | have f8 := eq_false (show ¬ (241 ≤ c ∧ c ≤ 243) by omega))
    (first | have f9 := eq_true (show c = 244 by omega) | have f9 := eq_false (show ¬ (c = 244) by omega))
    (first | have f10 := eq_true (show c < 194 by omega) | have f10 := eq_false (show ¬ (c < 194) by omega))
    (first | have f11 := eq_true (show c < 224 by omega) | have f11 := eq_false (show ¬ (c < 224) by omega))
    (first | have f12 := eq_true (show c < 240 by omega) | have f12 := eq_false (show ¬ (c < 240) by omega))
    (first | have f13 := eq_true (show c < 244 by omega) | have f13 := eq_false (show ¬ (c < 244) by omega))
    try simp only [f0, f1, f2, f3, f4, f5, f6, f7, f8, f9, f10, f11, f12, f13, if_true, if_false, Bool.false_eq_true]
  all_goals
    clear hb hc f0 f1 f2 f3 f4 f5 f6 f7 f8 f9 f10 f11 f12 f13
    try (revert a1 a2 a3 a4; cases v0 <;> cases v1 <;> cases v2 <;> cases v3 <;> cases v4 <;> cases u2 <;> cases u3 <;> simp)

def ok (s : ByteArray) (p : Int) : Nat → Int → Int → Int → Bool
  | 0, _, _, _ => true
  | m + 1, lo, hi, i => (decide (lo ≤ bt s (p + i)) && decide (bt s (p + i) ≤ hi)) && ok s p m 128 191 (i + 1)

theorem loop_eq (s : ByteArray) (p n : Int) (hs : s.size ≤ 281474976710656) (h0 : 0 ≤ p) (h1 : p + n ≤ s.size) :
    ∀ (m k : Nat) (lo hi i : Int), i + m = n → 0 ≤ i → cursor_Rune.l0 (m + k + 1) s p lo hi n i = some (if ok s p m lo hi i = true then n else 0)
  | 0, k, lo, hi, i, hi1, hi0 => by
    rw [cursor_Rune.l0, if_neg (by omega)]; simp [ok]
  | m + 1, k, lo, hi, i, hi1, hi0 => by
    have e1 : wrap64 (p + i) = p + i := wr _ (by omega) (by omega)
    have e2 : wrap64 (i + 1) = i + 1 := wr _ (by omega) (by omega)
    rw [show m + 1 + k + 1 = (m + k + 1) + 1 by omega, cursor_Rune.l0, if_pos (by omega), e1, if_pos (by omega), if_pos (by omega), e2, loop_eq s p n hs h0 h1 m k 128 191 (i + 1) (by omega) (by omega)]
    simp only [ok]
    by_cases a : bt s (p + i) < lo
    · rw [if_pos a]; have : decide (lo ≤ bt s (p + i)) = false := decide_eq_false (by omega)
      simp [this]
    · rw [if_neg a]
      have : decide (lo ≤ bt s (p + i)) = true := decide_eq_true (by omega)
      by_cases b : bt s (p + i) > hi
      · rw [if_pos b]; have : decide (bt s (p + i) ≤ hi) = false := decide_eq_false (by omega)
        simp [this]
      · rw [if_neg b]; have h2 : decide (bt s (p + i) ≤ hi) = true := decide_eq_true (by omega)
        simp [this, h2]

theorem W_in (s : ByteArray) (i lo hi : Int) (h : i < s.size) : W s i lo hi = (decide (lo ≤ bt s i) && decide (bt s i ≤ hi)) := by simp [W, h]
theorem W_out (s : ByteArray) (i lo hi : Int) (h : ¬ i < s.size) : W s i lo hi = false := by simp [W, h]

theorem curRune (s : ByteArray) (p : Int) (hs : s.size ≤ 281474976710656) (k : Nat) : cursor_Rune.f (k + 5) s p = some (runeS s p) := by
  have hb := bt_range s p
  by_cases h0 : p < 0
  · simp [cursor_Rune.f, cursor_Rune.j0, runeS, h0]
  by_cases h1 : (s.size : Int) ≤ p
  · simp [cursor_Rune.f, cursor_Rune.j0, runeS, h0, h1]
  have hd : decide (p ≥ (s.size : Int)) = false := decide_eq_false (by omega)
  have e1 : wrap64 ((s.size : Int) - p) = s.size - p := wr _ (by omega) (by omega)
  simp only [cursor_Rune.f, cursor_Rune.j0, hd, Bool.false_eq_true, if_false, if_neg h0, if_pos (show 0 ≤ p by omega), if_pos (show p < (s.size : Int) by omega), e1]
  simp only [runeS, if_neg h0, if_neg h1, cursor_second.f]
  have three : ∀ lo hi : Int, (if 3 > (s.size : Int) - p then some 0 else cursor_Rune.l0 (k + 4) s p lo hi 3 1) = some (if (W s (p + 1) lo hi && W s (p + 2) 128 191) = true then 3 else 0) := by
    intro lo hi
    by_cases a : p + 3 ≤ s.size
    · rw [if_neg (by omega), show k + 4 = 2 + (k + 1) + 1 by omega, loop_eq s p 3 hs (by omega) a 2 (k + 1) lo hi 1 (by omega) (by omega)]
      simp only [ok, W_in s (p + 1) lo hi (by omega), W_in s (p + 2) 128 191 (by omega), Bool.and_true]
      rfl
    · rw [if_pos (by omega), W_out s (p + 2) 128 191 (by omega)]; simp
  have four : ∀ lo hi : Int, (if 4 > (s.size : Int) - p then some 0 else cursor_Rune.l0 (k + 4) s p lo hi 4 1) = some (if (W s (p + 1) lo hi && (W s (p + 2) 128 191 && W s (p + 3) 128 191)) = true then 4 else 0) := by
    intro lo hi
    by_cases a : p + 4 ≤ s.size
    · rw [if_neg (by omega), show k + 4 = 3 + k + 1 by omega, loop_eq s p 4 hs (by omega) a 3 k lo hi 1 (by omega) (by omega)]
      simp only [ok, W_in s (p + 1) lo hi (by omega), W_in s (p + 2) 128 191 (by omega), W_in s (p + 3) 128 191 (by omega), Bool.and_true]
      rfl
    · rw [if_pos (by omega), W_out s (p + 3) 128 191 (by omega)]; simp
  have two : (if 2 > (s.size : Int) - p then some 0 else cursor_Rune.l0 (k + 4) s p 128 191 2 1) = some (if W s (p + 1) 128 191 = true then 2 else 0) := by
    by_cases a : p + 2 ≤ s.size
    · rw [if_neg (by omega), show k + 4 = 1 + (k + 2) + 1 by omega, loop_eq s p 2 hs (by omega) a 1 (k + 2) 128 191 1 (by omega) (by omega)]
      simp only [ok, W_in s (p + 1) 128 191 (by omega), Bool.and_true]
    · rw [if_pos (by omega), W_out s (p + 1) 128 191 (by omega)]; simp
  have zero : ∀ (lo hi : Int), (if (0 : Int) > (s.size : Int) - p then some 0 else cursor_Rune.l0 (k + 4) s p lo hi 0 1) = some 0 := by
    intro lo hi; rw [if_neg (by omega), cursor_Rune.l0, if_neg (by omega)]
  have one : ∀ (lo hi : Int), (if (1 : Int) > (s.size : Int) - p then some 0 else cursor_Rune.l0 (k + 4) s p lo hi 1 1) = some 1 := by
    intro lo hi; rw [if_neg (by omega), cursor_Rune.l0, if_neg (by omega)]
  by_cases c0 : bt s p < 128
  · rw [if_pos c0, if_pos c0]; simpa using one 0 0
  rw [if_neg c0, if_neg c0]
  by_cases c1 : bt s p < 194
  · rw [if_pos c1, if_pos c1]; simpa using zero 0 0
  rw [if_neg c1, if_neg c1]
  by_cases c2 : bt s p < 224
  · rw [if_pos c2, if_pos c2]; simpa using two
  rw [if_neg c2, if_neg c2]
  by_cases c3 : bt s p = 224
  · rw [if_pos c3, if_pos c3]; simpa using three 160 191
  rw [if_neg c3, if_neg c3]
  by_cases c4 : bt s p = 237
  · rw [if_pos c4, if_pos c4]; simpa using three 128 159
  rw [if_neg c4, if_neg c4]
  by_cases c5 : bt s p < 240
  · rw [if_pos c5, if_pos c5]; simpa using three 128 191
  rw [if_neg c5, if_neg c5]
  by_cases c6 : bt s p = 240
  · rw [if_pos c6, if_pos c6]; simpa using four 144 191
  rw [if_neg c6, if_neg c6]
  by_cases c7 : bt s p < 244
  · rw [if_pos c7, if_pos c7]; simpa using four 128 191
  rw [if_neg c7, if_neg c7]
  by_cases c8 : bt s p = 244
  · rw [if_pos c8, if_pos c8]; simpa using four 128 143
  rw [if_neg c8, if_neg c8]; simpa using zero 0 0

theorem runeS_range (s : ByteArray) (p : Int) : 0 ≤ runeS s p ∧ runeS s p ≤ 4 := by
  unfold runeS
  repeat' split
  all_goals omega
theorem runeS_in (s : ByteArray) (p : Int) (h : runeS s p ≠ 0) : 0 ≤ p ∧ p + runeS s p ≤ s.size := by
  have hw : ∀ i lo hi, W s i lo hi = true → i < s.size := fun i lo hi hh => by
    simp only [W, Bool.and_eq_true, decide_eq_true_eq] at hh; omega
  have fin : ∀ (n : Int) (w : Bool), (w = true → 0 ≤ p ∧ p + n ≤ s.size) → (if w = true then n else 0) ≠ 0 → 0 ≤ p ∧ p + (if w = true then n else 0) ≤ s.size := fun n w h1 h2 => by
    cases w with
    | true => simpa using h1 rfl
    | false => exact absurd rfl h2
  by_cases a : p < 0
  · simp [runeS, a] at h
  by_cases b : (s.size : Int) ≤ p
  · simp [runeS, a, b] at h
  have h3 : ∀ lo hi, (W s (p + 1) lo hi && W s (p + 2) 128 191) = true → 0 ≤ p ∧ p + 3 ≤ s.size := fun lo hi hh => by
    simp only [Bool.and_eq_true] at hh; have := hw _ _ _ hh.2; omega
  have h4 : ∀ lo hi, (W s (p + 1) lo hi && (W s (p + 2) 128 191 && W s (p + 3) 128 191)) = true → 0 ≤ p ∧ p + 4 ≤ s.size := fun lo hi hh => by
    simp only [Bool.and_eq_true] at hh; have := hw _ _ _ hh.2.2; omega
  have h2 : W s (p + 1) 128 191 = true → 0 ≤ p ∧ p + 2 ≤ s.size := fun hh => by have := hw _ _ _ hh; omega
  revert h
  simp only [runeS, if_neg a, if_neg b]
  by_cases c0 : bt s p < 128
  · simp only [if_pos c0]; omega
  simp only [if_neg c0]
  by_cases c1 : bt s p < 194
  · simp only [if_pos c1]; intro h; exact absurd rfl h
  simp only [if_neg c1]
  by_cases c2 : bt s p < 224
  · simp only [if_pos c2]; exact fin 2 _ h2
  simp only [if_neg c2]
  by_cases c3 : bt s p = 224
  · simp only [if_pos c3]; exact fin 3 _ (h3 _ _)
  simp only [if_neg c3]
  by_cases c4 : bt s p = 237
  · simp only [if_pos c4]; exact fin 3 _ (h3 _ _)
  simp only [if_neg c4]
  by_cases c5 : bt s p < 240
  · simp only [if_pos c5]; exact fin 3 _ (h3 _ _)
  simp only [if_neg c5]
  by_cases c6 : bt s p = 240
  · simp only [if_pos c6]; exact fin 4 _ (h4 _ _)
  simp only [if_neg c6]
  by_cases c7 : bt s p < 244
  · simp only [if_pos c7]; exact fin 4 _ (h4 _ _)
  simp only [if_neg c7]
  by_cases c8 : bt s p = 244
  · simp only [if_pos c8]; exact fin 4 _ (h4 _ _)
  simp only [if_neg c8]; intro h; exact absurd rfl h

def cnt (s : ByteArray) : Nat → Int → Option Int
  | 0, _ => none
  | f + 1, p => if p < s.size then (if runeS s p = 0 then none else (cnt s f (p + runeS s p)).map (· + 1)) else some 0

def runesS (s : ByteArray) : Int := (cnt s (s.size + 1) 0).getD (-1)

theorem cnt_range (s : ByteArray) : ∀ (f : Nat) (p r : Int), 0 ≤ p → p ≤ s.size → cnt s f p = some r → 0 ≤ r ∧ r ≤ s.size - p
  | 0, p, r, _, _, h => by simp [cnt] at h
  | f + 1, p, r, h0, h1, h => by
    simp only [cnt] at h
    split at h
    · split at h
      · cases h
      · rename_i hz
        obtain ⟨q, hq, rfl⟩ := Option.map_eq_some_iff.1 h
        have := runeS_in s p hz
        have hr := runeS_range s p
        have := cnt_range s f _ q (by omega) (by omega) hq
        omega
    · cases h; omega

def told (n : Int) : Option Int → Int
  | some r => n + r
  | none => -1
theorem told_step (n : Int) (o : Option Int) : told (n + 1) o = told n (o.map (· + 1)) := by
  cases o with
  | none => rfl
  | some r => simp only [told, Option.map_some]; omega

theorem curRunes_l (s : ByteArray) (hs : s.size ≤ 281474976710656) (k : Nat) : ∀ (f : Nat) (n p : Int), 0 ≤ p → p ≤ s.size → (s.size : Int) - p < f → 0 ≤ n → n ≤ p →
    cursor_Runes.l0 (f + k + 5) s n p = some (told n (cnt s f p))
  | 0, n, p, h0, hp, h1, hn, hn1 => by omega
  | f + 1, n, p, h0, hp, h1, hn, hn1 => by
    have hr := runeS_range s p
    rw [show f + 1 + k + 5 = (f + k + 5) + 1 by omega, cursor_Runes.l0]
    simp only [cnt]
    by_cases a : p < s.size
    · rw [if_pos a, if_pos a, show f + k + 5 = (f + k) + 5 by omega, curRune s p hs, Option.bind_some]
      by_cases z : runeS s p = 0
      · rw [if_pos z, if_pos z]; rfl
      · rw [if_neg z, if_neg z]
        have hi := runeS_in s p z
        have e1 : wrap64 (n + 1) = n + 1 := wr _ (by omega) (by omega)
        have e2 : wrap64 (p + runeS s p) = p + runeS s p := wr _ (by omega) (by omega)
        rw [e1, e2, curRunes_l s hs k f (n + 1) (p + runeS s p) (by omega) (by omega) (by omega) (by omega) (by omega), told_step]
    · rw [if_neg a, if_neg a]; simp [told]

theorem refRunes_l (s : ByteArray) (hs : s.size ≤ 281474976710656) (k : Nat) : ∀ (f : Nat) (n p : Int), 0 ≤ p → p ≤ s.size → (s.size : Int) - p < f → 0 ≤ n → n ≤ p →
    quipuref11_Runes.l0 (f + k + 8) s n p = some (told n (cnt s f p))
  | 0, n, p, h0, hp, h1, hn, hn1 => by omega
  | f + 1, n, p, h0, hp, h1, hn, hn1 => by
    have hr := runeS_range s p
    rw [show f + 1 + k + 8 = (f + k + 8) + 1 by omega, quipuref11_Runes.l0]
    simp only [cnt]
    by_cases a : p < s.size
    · rw [if_pos a, if_pos a, show f + k + 8 = (f + k) + 8 by omega, refRune s p hs, Option.bind_some]
      by_cases z : runeS s p = 0
      · rw [if_pos z, if_pos z]; rfl
      · rw [if_neg z, if_neg z]
        have hi := runeS_in s p z
        have e1 : wrap64 (n + 1) = n + 1 := wr _ (by omega) (by omega)
        have e2 : wrap64 (p + runeS s p) = p + runeS s p := wr _ (by omega) (by omega)
        rw [e1, e2, refRunes_l s hs k f (n + 1) (p + runeS s p) (by omega) (by omega) (by omega) (by omega) (by omega), told_step]
    · rw [if_neg a, if_neg a]; simp [told]

theorem runesS_told (s : ByteArray) : told 0 (cnt s (s.size + 1) 0) = runesS s := by
  unfold runesS
  cases cnt s (s.size + 1) 0 with
  | none => rfl
  | some r => simp [told]
theorem curRunes (s : ByteArray) (hs : s.size ≤ 281474976710656) (k : Nat) : cursor_Runes.f (s.size + 1 + k + 5) s = some (runesS s) := by
  rw [cursor_Runes.f, curRunes_l s hs k (s.size + 1) 0 0 (by omega) (by omega) (by omega) (by omega) (by omega), runesS_told]
theorem refRunes (s : ByteArray) (hs : s.size ≤ 281474976710656) (k : Nat) : quipuref11_Runes.f (s.size + 1 + k + 8) s = some (runesS s) := by
  rw [quipuref11_Runes.f, refRunes_l s hs k (s.size + 1) 0 0 (by omega) (by omega) (by omega) (by omega) (by omega), runesS_told]
theorem curValid (s : ByteArray) (hs : s.size ≤ 281474976710656) (k : Nat) : cursor_Valid.f (s.size + 1 + k + 5) s = some (decide (runesS s ≥ 0)) := by
  rw [cursor_Valid.f, curRunes s hs k]; rfl
theorem runesS_le (s : ByteArray) : runesS s ≤ s.size := by
  unfold runesS
  cases h : cnt s (s.size + 1) 0 with
  | none => simp
  | some r => have := cnt_range s _ 0 r (by omega) (by omega) h; simp; omega

end Go.Proofs.Ytacnjemndfmbhaa.R1
end
section
namespace Go.Proofs.Ytacnjemndfmbhaa.R1
open Go.RowKit Go.Proofs.Ytacnjemndfmbhaa.Q Go.Proofs.YtacnjemndfmbhaaW.PrintWords Go.Proofs.YtacnjemndfmbhaaW.PrintLast
set_option linter.unusedVariables false
set_option linter.unusedSimpArgs false

def sec (c : Int) : Int × Int × Int :=
  if c < 128 then (0, 0, 1) else if c < 194 then (0, 0, 0) else if c < 224 then (128, 191, 2) else if c = 224 then (160, 191, 3) else if c = 237 then (128, 159, 3)
  else if c < 240 then (128, 191, 3) else if c = 240 then (144, 191, 4) else if c < 244 then (128, 191, 4) else if c = 244 then (128, 143, 4) else (0, 0, 0)
def G (x : Int × Int × Int) (w : Int → Int → Bool) (w2 w3 : Bool) : Int :=
  if x.2.2 ≤ 1 then x.2.2 else if (w x.1 x.2.1 && ((decide (x.2.2 < 3) || w2) && (decide (x.2.2 < 4) || w3))) = true then x.2.2 else 0

theorem runeS_sec (s : ByteArray) (p : Int) (h0 : 0 ≤ p) (h1 : p < s.size) :
    runeS s p = G (sec (bt s p)) (W s (p + 1)) (W s (p + 2) 128 191) (W s (p + 3) 128 191) := by
  unfold runeS
  rw [if_neg (by omega), if_neg (by omega)]
  unfold sec
  by_cases c0 : bt s p < 128
  · simp [c0, G]
  simp only [if_neg c0]
  by_cases c1 : bt s p < 194
  · simp [c1, G]
  simp only [if_neg c1]
  by_cases c2 : bt s p < 224
  · simp [c2, G]
  simp only [if_neg c2]
  by_cases c3 : bt s p = 224
  · simp [c3, G]
  simp only [if_neg c3]
  by_cases c4 : bt s p = 237
  · simp [c4, G]
  simp only [if_neg c4]
  by_cases c5 : bt s p < 240
  · simp [c5, G]
  simp only [if_neg c5]
  by_cases c6 : bt s p = 240
  · simp [c6, G]
  simp only [if_neg c6]
  by_cases c7 : bt s p < 244
  · simp [c7, G]
  simp only [if_neg c7]
  by_cases c8 : bt s p = 244
  · simp [c8, G]
  simp [if_neg c8, G]

theorem sec_range (c : Int) : 0 ≤ (sec c).2.2 ∧ (sec c).2.2 ≤ 4 := by
  unfold sec
  repeat' split
  all_goals decide

theorem runeS_out (s : ByteArray) (p : Int) (h : ¬ (0 ≤ p ∧ p < s.size)) : runeS s p = 0 := by
  unfold runeS
  by_cases a : p < 0
  · rw [if_pos a]
  · rw [if_neg a, if_pos (by omega)]

theorem runeS_mono (s t : ByteArray) (p q : Int) (h0 : 0 ≤ q) (h1 : q < t.size) (hb : bt s p = bt t q)
    (hw : ∀ j lo hi, 0 < j → W s (p + j) lo hi = true → W t (q + j) lo hi = true) (hn : runeS s p ≠ 0) : runeS t q = runeS s p := by
  have hp : 0 ≤ p ∧ p < s.size := Classical.byContradiction fun h => hn (runeS_out s p h)
  rw [runeS_sec s p hp.1 hp.2] at hn ⊢
  rw [runeS_sec t q h0 h1, ← hb]
  generalize sec (bt s p) = x at *
  unfold G at *
  by_cases c : x.2.2 ≤ 1
  · rw [if_pos c, if_pos c]
  rw [if_neg c] at hn
  rw [if_neg c, if_neg c]
  by_cases d : (W s (p + 1) x.1 x.2.1 && ((decide (x.2.2 < 3) || W s (p + 2) 128 191) && (decide (x.2.2 < 4) || W s (p + 3) 128 191))) = true
  · rw [if_pos d, if_pos ?_]
    simp only [Bool.and_eq_true, Bool.or_eq_true] at d ⊢
    exact ⟨hw _ _ _ (by omega) d.1, d.2.1.imp id (hw _ _ _ (by omega)), d.2.2.imp id (hw _ _ _ (by omega))⟩
  · rw [if_neg d] at hn; exact absurd rfl hn

theorem runeS_same (s t : ByteArray) (p q : Int) (h0 : 0 ≤ q) (h1 : q < t.size) (h2 : 0 ≤ p) (h3 : p < s.size) (hb : bt s p = bt t q)
    (hw : ∀ j lo hi, 0 < j → W s (p + j) lo hi = W t (q + j) lo hi) : runeS t q = runeS s p := by
  rw [runeS_sec s p h2 h3, runeS_sec t q h0 h1, ← hb]
  unfold G
  rw [hw 1 _ _ (by omega), hw 2 _ _ (by omega), hw 3 _ _ (by omega)]

theorem size_app (a b : ByteArray) : ((a ++ b).size : Int) = a.size + b.size := by rw [ByteArray.size_append]; omega
theorem bt_app_left (a b : ByteArray) (i : Int) (h0 : 0 ≤ i) (h : i < a.size) : bt (a ++ b) i = bt a i := by
  have h1 : i.toNat < a.size := by omega
  have h2 : i.toNat < (a ++ b).size := by rw [ByteArray.size_append]; omega
  simp only [bt, h1, h2, dite_true]
  rw [ByteArray.getElem_append_left h1]
theorem bt_app_right (a b : ByteArray) (i : Int) (h0 : 0 ≤ i) : bt (a ++ b) (a.size + i) = bt b i := by
  by_cases h : i < b.size
  · have h1 : i.toNat < b.size := by omega
    have h2 : (a.size + i : Int).toNat < (a ++ b).size := by rw [ByteArray.size_append]; omega
    simp only [bt, h1, h2, dite_true]
    rw [ByteArray.getElem_append_right (by omega)]
    congr 2
    have : (a.size + i : Int).toNat - a.size = i.toNat := by omega
    simp only [this]
  · have h1 : ¬ i.toNat < b.size := by omega
    have h2 : ¬ (a.size + i : Int).toNat < (a ++ b).size := by rw [ByteArray.size_append]; omega
    simp only [bt, h1, h2, dite_false]
theorem W_app_left (a b : ByteArray) (i lo hi : Int) (h0 : 0 ≤ i) (h : W a i lo hi = true) : W (a ++ b) i lo hi = true := by
  have hh : i < a.size := by simp only [W, Bool.and_eq_true, decide_eq_true_eq] at h; omega
  rw [W_in a i lo hi hh] at h
  rw [W_in _ _ _ _ (by rw [size_app]; omega), bt_app_left a b i h0 hh]; exact h
theorem W_app_right (a b : ByteArray) (i lo hi : Int) (h0 : 0 ≤ i) : W (a ++ b) (a.size + i) lo hi = W b i lo hi := by
  simp only [W, bt_app_right a b i h0]
  congr 1
  rw [size_app]
  exact decide_eq_decide.mpr (by omega)

theorem runeS_app_left (a b : ByteArray) (p : Int) (h : runeS a p ≠ 0) : runeS (a ++ b) p = runeS a p := by
  have hp : 0 ≤ p ∧ p < a.size := Classical.byContradiction fun hh => h (runeS_out a p hh)
  refine runeS_mono a (a ++ b) p p hp.1 (by rw [size_app]; omega) (bt_app_left a b p hp.1 hp.2).symm (fun j lo hi hj hw => W_app_left a b _ _ _ (by omega) hw) h
theorem runeS_app_right (a b : ByteArray) (p : Int) (h0 : 0 ≤ p) (h1 : p < b.size) : runeS (a ++ b) (a.size + p) = runeS b p := by
  refine runeS_same b (a ++ b) p (a.size + p) (by omega) (by rw [size_app]; omega) h0 h1 (bt_app_right a b p h0).symm (fun j lo hi hj => ?_)
  rw [show (a.size + p + j : Int) = a.size + (p + j) by omega, W_app_right a b _ _ _ (by omega)]

theorem cnt_succ (s : ByteArray) (f : Nat) (p : Int) : cnt s (f + 1) p = if p < s.size then (if runeS s p = 0 then none else (cnt s f (p + runeS s p)).map (· + 1)) else some 0 := rfl
theorem size_cut (a : ByteArray) (i m : Int) (h0 : 0 ≤ i) (h1 : 0 ≤ m) (h2 : i + m ≤ a.size) : ((a.extract i.toNat (i + m).toNat).size : Int) = m := by
  rw [ByteArray.size_extract]; omega
theorem bt_cut (a : ByteArray) (i m q : Int) (h0 : 0 ≤ i) (h1 : 0 ≤ q) (h2 : q < m) (h3 : i + m ≤ a.size) : bt (a.extract i.toNat (i + m).toNat) q = bt a (i + q) := by
  have a1 : q.toNat < (a.extract i.toNat (i + m).toNat).size := by rw [ByteArray.size_extract]; omega
  have a2 : (i + q).toNat < a.size := by omega
  simp only [bt, a1, a2, dite_true]
  rw [ByteArray.getElem_extract]
  have : i.toNat + q.toNat = (i + q).toNat := by omega
  simp only [this]
theorem W_cut (a : ByteArray) (i m q lo hi : Int) (h0 : 0 ≤ i) (h1 : 0 ≤ q) (h3 : i + m ≤ a.size) (hm : 0 ≤ m) : W (a.extract i.toNat (i + m).toNat) q lo hi = (decide (q < m) && W a (i + q) lo hi) := by
  by_cases h : q < m
  · rw [W_in _ _ _ _ (by rw [size_cut a i m h0 hm h3]; exact h), bt_cut a i m q h0 h1 h h3, W_in a (i + q) lo hi (by omega)]; simp [h]
  · rw [W_out _ _ _ _ (by rw [size_cut a i m h0 hm h3]; exact h)]; simp [h]

theorem runeS_form (s : ByteArray) (p : Int) (h : runeS s p ≠ 0) : runeS s p = (sec (bt s p)).2.2 := by
  have hp : 0 ≤ p ∧ p < s.size := Classical.byContradiction fun hh => h (runeS_out s p hh)
  rw [runeS_sec s p hp.1 hp.2] at h ⊢
  unfold G at *
  split
  · rfl
  · rename_i c
    rw [if_neg c] at h
    split
    · rfl
    · rename_i d; rw [if_neg d] at h; exact absurd rfl h

theorem runeS_cut (a : ByteArray) (i m : Int) (hz : runeS a i ≠ 0) (hm : 1 ≤ m) (hk : m ≤ runeS a i) :
    runeS (a.extract i.toNat (i + m).toNat) 0 = if m = runeS a i then m else 0 := by
  have hi := runeS_in a i hz
  have hf := runeS_form a i hz
  have hr := runeS_range a i
  rw [runeS_sec _ 0 (by omega) (by rw [size_cut a i m hi.1 (by omega) (by omega)]; omega), bt_cut a i m 0 hi.1 (by omega) (by omega) (by omega)]
  simp only [Int.zero_add, Int.add_zero]
  rw [runeS_sec a i hi.1 (by omega)] at hz
  rw [hf] at hk hr ⊢
  rw [W_cut a i m 2 _ _ hi.1 (by omega) (by omega) (by omega), W_cut a i m 3 _ _ hi.1 (by omega) (by omega) (by omega)]
  have hw1 := fun lo hi2 => W_cut a i m 1 lo hi2 hi.1 (by omega) (by omega) (by omega)
  generalize sec (bt a i) = x at *
  unfold G at *
  by_cases c : x.2.2 ≤ 1
  · rw [if_pos c, if_pos (by omega)]; omega
  rw [if_neg c] at hz
  rw [if_neg c, hw1]
  by_cases d : (W a (i + 1) x.1 x.2.1 && ((decide (x.2.2 < 3) || W a (i + 2) 128 191) && (decide (x.2.2 < 4) || W a (i + 3) 128 191))) = true
  · simp only [Bool.and_eq_true, Bool.or_eq_true, decide_eq_true_eq] at d ⊢
    by_cases e : m = x.2.2
    · rw [if_pos e, if_pos ?_, e]
      refine ⟨⟨by omega, d.1⟩, ?_, ?_⟩
      · rcases d.2.1 with h | h
        · exact .inl h
        · by_cases q : x.2.2 < 3
          · exact .inl q
          · exact .inr ⟨by omega, h⟩
      · rcases d.2.2 with h | h
        · exact .inl h
        · by_cases q : x.2.2 < 4
          · exact .inl q
          · exact .inr ⟨by omega, h⟩
    · rw [if_neg e, if_neg ?_]
      rintro ⟨⟨h1, _⟩, h2, h3⟩
      omega
  · rw [if_neg d] at hz; exact absurd rfl hz

end Go.Proofs.Ytacnjemndfmbhaa.R1
end
section
namespace Go.Proofs.Ytacnjemndfmbhaa.A
open Go.RowKit Go.Proofs.Ytacnjemndfmbhaa.Q Go.Proofs.Ytacnjemndfmbhaa.R1 Go.Proofs.YtacnjemndfmbhaaW.PrintWords Go.Proofs.YtacnjemndfmbhaaW.PrintLast
set_option linter.unusedVariables false
def cut (s : ByteArray) (p : Int) : ByteArray := s.extract p.toNat (p + runeS s p).toNat
def runesF (s : ByteArray) : Nat → Int → List ByteArray × Bool
  | 0, _ => ([], false)
  | d + 1, p => if p < s.size then (if runeS s p = 0 then ([], false) else (cut s p :: (runesF s d (p + runeS s p)).1, (runesF s d (p + runeS s p)).2)) else ([], true)
theorem rune_pos (s : ByteArray) (p : Int) (h : runeS s p ≠ 0) : 1 ≤ runeS s p ∧ runeS s p ≤ 4 ∧ 0 ≤ p ∧ p + runeS s p ≤ s.size := by
  have h0 := runeS_range s p
  have h1 := runeS_in s p h
  omega
theorem runesF_fuel (s : ByteArray) : ∀ (f g : Nat) (p : Int), 0 ≤ p → p ≤ s.size → (s.size : Int) - p < f → f ≤ g → runesF s g p = runesF s f p
  | 0, g, p, h0, h1, h2, h3 => by omega
  | f + 1, g, p, h0, h1, h2, h3 => by
    obtain ⟨g', rfl⟩ : ∃ g', g = g' + 1 := ⟨g - 1, by omega⟩
    simp only [runesF]
    by_cases hlt : p < s.size
    · rw [if_pos hlt, if_pos hlt]
      by_cases hz : runeS s p = 0
      · rw [if_pos hz, if_pos hz]
      · have hr := rune_pos s p hz
        rw [if_neg hz, if_neg hz, runesF_fuel s f g' (p + runeS s p) (by omega) (by omega) (by omega) (by omega)]
    · rw [if_neg hlt, if_neg hlt]
def runesAt (s : ByteArray) (p : Int) : List ByteArray × Bool := runesF s (((s.size : Int) - p).toNat + 1) p
theorem runesAt_end (s : ByteArray) (p : Int) (h : ¬ p < s.size) : runesAt s p = ([], true) := by
  unfold runesAt
  simp only [runesF]
  rw [if_neg h]
theorem runesAt_bad (s : ByteArray) (p : Int) (h : p < s.size) (hz : runeS s p = 0) : runesAt s p = ([], false) := by
  unfold runesAt
  simp only [runesF]
  rw [if_pos h, if_pos hz]
theorem runesAt_step (s : ByteArray) (p : Int) (hz : runeS s p ≠ 0) : runesAt s p = (cut s p :: (runesAt s (p + runeS s p)).1, (runesAt s (p + runeS s p)).2) := by
  have hr := rune_pos s p hz
  have e : runesF s ((s.size : Int) - p).toNat (p + runeS s p) = runesAt s (p + runeS s p) := by
    unfold runesAt
    exact runesF_fuel s _ _ _ (by omega) (by omega) (by omega) (by omega)
  rw [← e]
  unfold runesAt
  simp only [runesF]
  rw [if_pos (by omega), if_neg hz]
theorem cut_size (s : ByteArray) (p : Int) (hz : runeS s p ≠ 0) : ((cut s p).size : Int) = runeS s p := by
  have hr := rune_pos s p hz
  exact size_cut s p (runeS s p) (by omega) (by omega) (by omega)
def IsRune (c : ByteArray) : Prop := runeS c 0 = c.size ∧ c.size ≠ 0
theorem cut_rune (s : ByteArray) (p : Int) (hz : runeS s p ≠ 0) : IsRune (cut s p) := by
  have hr := rune_pos s p hz
  have h := runeS_cut s p (runeS s p) hz (by omega) (Int.le_refl _)
  rw [if_pos rfl] at h
  have hs := cut_size s p hz
  exact ⟨by rw [hs]; exact h, by omega⟩
theorem runesAt_runes (s : ByteArray) : ∀ (d : Nat) (p : Int), 0 ≤ p → p ≤ s.size → (s.size : Int) - p ≤ d → ∀ c ∈ (runesAt s p).1, IsRune c
  | d, p, h0, h1, h2 => by
    intro c hc
    by_cases hlt : p < s.size
    · by_cases hz : runeS s p = 0
      · rw [runesAt_bad s p hlt hz] at hc; simp at hc
      · have hr := rune_pos s p hz
        rw [runesAt_step s p hz] at hc
        simp only [List.mem_cons] at hc
        rcases hc with rfl | hc
        · exact cut_rune s p hz
        · obtain ⟨d', rfl⟩ : ∃ d', d = d' + 1 := ⟨d - 1, by omega⟩
          exact runesAt_runes s d' (p + runeS s p) (by omega) (by omega) (by omega) c hc
    · rw [runesAt_end s p hlt] at hc; simp at hc
theorem bt_first {c : ByteArray} {b : UInt8} {r : List UInt8} (h : c.data.toList = b :: r) : bt c 0 = b.toNat ∧ (c.size : Int) = r.length + 1 := by
  have hs : c.size = r.length + 1 := by
    have := congrArg List.length h
    simpa using this
  refine ⟨?_, by omega⟩
  simp only [bt]
  have h0 : (0 : Int).toNat < c.size := by omega
  rw [dif_pos h0]
  have e : c.data.toList[(0 : Int).toNat]? = some b := by rw [h]; rfl
  rw [Array.getElem?_toList] at e
  have e2 : c.data[(0 : Int).toNat]? = some (c[(0 : Int).toNat]'h0) := by
    exact Array.getElem?_eq_getElem (by simpa using h0)
  rw [e2] at e
  injection e with e
  rw [e]
theorem list_of {c : ByteArray} (h : c.size ≠ 0) : ∃ b r, c.data.toList = b :: r := by
  cases hc : c.data.toList with
  | nil =>
    exfalso
    have := congrArg List.length hc
    rw [show c.data.toList.length = c.size by simp] at this
    exact h this
  | cons b r => exact ⟨b, r, rfl⟩
theorem rune_first {c : ByteArray} (h : IsRune c) : (∃ b, c.data.toList = [b] ∧ b.toNat < 128) ∨ ∃ b r, c.data.toList = b :: r ∧ 194 ≤ b.toNat ∧ r ≠ [] := by
  obtain ⟨h0, h1⟩ := h
  obtain ⟨b, r, e⟩ := list_of h1
  obtain ⟨e1, e2⟩ := bt_first e
  have hf := runeS_form c 0 (by omega)
  rw [e1] at hf
  have hlt : b.toNat < 256 := b.toNat_lt
  rw [h0, e2] at hf
  by_cases c1 : b.toNat < 128
  · left
    have : (sec (b.toNat : Int)).2.2 = 1 := by unfold sec; rw [if_pos (by omega)]
    rw [this] at hf
    have : r = [] := List.eq_nil_of_length_eq_zero (by omega)
    subst this
    exact ⟨b, e, c1⟩
  · right
    by_cases c2 : b.toNat < 194
    · exfalso
      have : (sec (b.toNat : Int)).2.2 = 0 := by unfold sec; rw [if_neg (by omega), if_pos (by omega)]
      omega
    · refine ⟨b, r, e, by omega, ?_⟩
      rintro rfl
      have hge : 2 ≤ (sec (b.toNat : Int)).2.2 ∨ (sec (b.toNat : Int)).2.2 = 0 := by
        unfold sec
        rw [if_neg (by omega), if_neg (by omega)]
        (repeat' split) <;> simp
      simp at hf
      omega
def LETTERS : List UInt8 := [48, 49, 50, 51, 52, 53, 54, 55, 56, 57, 35, 64, 44, 46, 59, 42]
theorem no_contains (sub : List UInt8) (b : UInt8) (r : List UInt8) (h : sub = b :: r) (L : List UInt8) (hL : b ∉ L) : Lib.contains L sub = false := by
  subst h
  have : Lib.index L (b :: r) = -1 := by
    apply Lib.index_none
    intro j _
    unfold Lib.occAt
    cases hd : L.drop j with
    | nil => rfl
    | cons x y =>
      have hx : x ∈ L := List.mem_of_mem_drop (by rw [hd]; exact List.mem_cons_self)
      have : (b == x) = false := beq_eq_false_iff_ne.mpr (fun e => hL (e ▸ hx))
      simp [List.isPrefixOf, this]
  unfold Lib.contains
  rw [this]
  rfl
theorem bytes_of (c : ByteArray) (l : List UInt8) (h : c.data.toList = l) : c = ⟨l.toArray⟩ := by
  cases c with
  | mk d =>
    cases d with
    | mk x => subst h; rfl
theorem letter_one : ∀ n : Fin 256, quipuref13_Letter.f ⟨#[UInt8.ofNat n]⟩ = some (letB ⟨#[UInt8.ofNat n]⟩) := by decide +kernel
theorem letter_eq {c : ByteArray} (h : IsRune c) : quipuref13_Letter.f c = some (letB c) := by
  rcases rune_first h with ⟨b, e, _⟩ | ⟨b, r, e, h1, h2⟩
  · have hc := bytes_of c _ e
    have := letter_one ⟨b.toNat, b.toNat_lt⟩
    simp only [UInt8.ofNat_toNat] at this
    rw [hc]
    exact this
  · obtain ⟨_, e2⟩ := bt_first e
    have hr : 0 < r.length := List.length_pos_iff.2 h2
    unfold quipuref13_Letter.f
    rw [if_neg (by omega)]
    unfold letB
    rw [no_contains _ b r e _ (by
      intro hm
      have : ∀ x ∈ ([48, 49, 50, 51, 52, 53, 54, 55, 56, 57, 35, 64, 44, 46, 59, 42] : List UInt8), x.toNat < 194 := by decide
      have := this b hm
      omega)]
def kindS (c : ByteArray) : Int := if c.toList = ([45] : List UInt8) then 1 else if c.toList = ([43] : List UInt8) then 2 else if c.toList = ([37] : List UInt8) then 3 else if c.toList = ([226, 128, 176] : List UInt8) then 4 else if c.toList = ([194, 164] : List UInt8) then 5 else 0
theorem kind_eq (c : ByteArray) : affix_kind.f c = some (kindS c) := by
  unfold affix_kind.f kindS
  repeat' split
  all_goals rfl
theorem sign_eq (c : ByteArray) : quipuref13_Sign.f c = some (kindS c) := by
  unfold quipuref13_Sign.f kindS
  repeat' split
  all_goals rfl
theorem rd_get (l : List S53) (i : Nat) (h : i < l.length) : rd_T53 l (i : Int) = l[i] := by
  show l.getD (i : Int).toNat z53 = _
  rw [Int.toNat_natCast, List.getD_eq_getElem?_getD, List.getElem?_eq_getElem h]
  rfl
def singleS (t : S53) : Bool :=
  if t.f0 = 0 then (if t.f2.toList = ([] : List UInt8) then false else if t.f1 = 0 then decide (runesS t.f2 ≥ 0) else false)
  else if t.f0 = 1 ∨ t.f0 = 2 ∨ t.f0 = 3 ∨ t.f0 = 4 then (if t.f2.toList = ([] : List UInt8) then t.f1 == 0 else false)
  else if t.f0 = 5 then (if t.f2.toList = ([] : List UInt8) then (if t.f1 ≥ 1 then decide (t.f1 ≤ 3) else false) else false)
  else false
theorem single_eq (t : S53) (K : Nat) (hK : t.f2.size + 20 ≤ K) (hs : t.f2.size ≤ 281474976710656) : affix_single.f K t.f0 t.f1 t.f2 = some (singleS t) := by
  obtain ⟨k, rfl⟩ : ∃ k, K = t.f2.size + 1 + k + 5 := ⟨K - (t.f2.size + 6), by omega⟩
  have hv := curValid t.f2 hs k
  obtain ⟨m, hm⟩ : ∃ m, t.f2.size + 1 + k + 5 = m + 1 := ⟨_, rfl⟩
  unfold affix_single.f singleS
  rw [hv, Option.bind_some]
  by_cases h0 : t.f0 = 0
  · rw [if_pos h0, if_pos h0]
    repeat' split
    all_goals rfl
  rw [if_neg h0, if_neg h0]
  by_cases h1 : t.f0 = 1
  · rw [if_pos h1, if_pos (.inl h1), hm, h1]
    simp only [affix_single.j0]
    rw [if_pos (by decide)]
    repeat' split
    all_goals rfl
  rw [if_neg h1]
  by_cases h2 : t.f0 = 2
  · rw [if_pos h2, if_pos (.inr (.inl h2)), hm, h2]
    simp only [affix_single.j0]
    rw [if_pos (by decide)]
    repeat' split
    all_goals rfl
  rw [if_neg h2]
  by_cases h3 : t.f0 = 3
  · rw [if_pos h3, if_pos (.inr (.inr (.inl h3))), hm, h3]
    simp only [affix_single.j0]
    rw [if_pos (by decide)]
    repeat' split
    all_goals rfl
  rw [if_neg h3, hm]
  simp only [affix_single.j0]
  exact aP48
theorem one_eq (t : S53) (K : Nat) (hK : t.f2.size + 20 ≤ K) (hs : t.f2.size ≤ 281474976710656) : quipuref13_one.f K t.f0 t.f1 t.f2 = some (singleS t) := by
  obtain ⟨k, rfl⟩ : ∃ k, K = t.f2.size + 1 + k + 8 := ⟨K - (t.f2.size + 9), by omega⟩
  have hv := refRunes t.f2 hs k
  obtain ⟨m, hm⟩ : ∃ m, t.f2.size + 1 + k + 8 = m + 1 := ⟨_, rfl⟩
  unfold quipuref13_one.f singleS
  rw [hv, Option.bind_some]
  by_cases h0 : t.f0 = 0
  · rw [if_pos h0, if_pos h0]
    repeat' split
    all_goals rfl
  rw [if_neg h0, if_neg h0]
  by_cases h1 : t.f0 = 1
  · rw [if_pos h1, if_pos (.inl h1), hm, h1]
    simp only [quipuref13_one.j0]
    rw [if_pos (by decide)]
    repeat' split
    all_goals rfl
  rw [if_neg h1]
  by_cases h2 : t.f0 = 2
  · rw [if_pos h2, if_pos (.inr (.inl h2)), hm, h2]
    simp only [quipuref13_one.j0]
    rw [if_pos (by decide)]
    repeat' split
    all_goals rfl
  rw [if_neg h2]
  by_cases h3 : t.f0 = 3
  · rw [if_pos h3, if_pos (.inr (.inr (.inl h3))), hm, h3]
    simp only [quipuref13_one.j0]
    rw [if_pos (by decide)]
    repeat' split
    all_goals rfl
  rw [if_neg h3, hm]
  simp only [quipuref13_one.j0]
  exact aP48
def twice (p : Option S53) (t : S53) : Bool := match p with
  | none => false
  | some q => q.f0 == t.f0 && (t.f0 == 0 || t.f0 == 5)
theorem twice_none (t : S53) : twice none t = false := rfl
theorem twice_eq (q t : S53) (h : q.f0 = t.f0) : twice (some q) t = (t.f0 == 0 || t.f0 == 5) := by
  unfold twice
  simp only [h, beq_self_eq_true, Bool.true_and]
theorem twice_ne (q t : S53) (h : q.f0 ≠ t.f0) : twice (some q) t = false := by
  unfold twice
  simp only [beq_eq_false_iff_ne.mpr h, Bool.false_and]
def checkL (n : Nat) : Option S53 → List S53 → Int → Int
  | _, [], b => if (n : Int) > 64 then 132 else if b > 64 then 132 else 0
  | p, t :: r, b => if (twice p t || !singleS t) = true then 131 else checkL n (some t) r (wrap64 (b + t.f2.size))
def prevOf (l : List S53) (i : Nat) : Option S53 := if i = 0 then none else l[i - 1]?
def Texts (l : List S53) (N : Nat) : Prop := ∀ t ∈ l, t.f2.size ≤ N
theorem affixCheck_l (l : List S53) (N : Nat) (hN : N ≤ 281474976710656) (hl : Texts l N) (hb : l.length ≤ 4611686018427387904) (k : Nat) : ∀ (d i : Nat) (b : Int), i + d = l.length →
    affix_Check.l0 (N + 20 + k + d + 1) l b l (l.length : Int) (i : Int) = some (checkL l.length (prevOf l i) (l.drop i) b)
  | 0, i, b, hi => by
    simp only [affix_Check.l0]
    rw [if_neg (by omega), List.drop_eq_nil_of_le (by omega)]
    simp only [checkL]
    repeat' split
    all_goals rfl
  | d + 1, i, b, hi => by
    have hlt : i < l.length := by omega
    have ih := affixCheck_l l N hN hl hb k d (i + 1)
    have w1 : wrap64 ((i : Int) + 1) = ((i + 1 : Nat) : Int) := by unfold wrap64; omega
    have e1 := rd_get l i hlt
    have hs := single_eq l[i] (N + 20 + k + d + 1) (by have := hl _ (List.getElem_mem hlt); omega) (by have := hl _ (List.getElem_mem hlt); omega)
    have hp : prevOf l (i + 1) = some l[i] := by
      unfold prevOf
      rw [if_neg (by omega), Nat.add_sub_cancel, List.getElem?_eq_getElem hlt]
    rw [show N + 20 + k + (d + 1) + 1 = (N + 20 + k + d + 1) + 1 by omega]
    obtain ⟨m, hm⟩ : ∃ m, N + 20 + k + d + 1 = m := ⟨_, rfl⟩
    simp only [hm] at ih hs ⊢
    clear hm
    simp only [affix_Check.l0]
    rw [if_pos (by omega), if_pos (by omega), if_pos (by omega), e1, hs, Option.bind_some, w1, ih _ (by omega), hp, List.drop_eq_getElem_cons hlt]
    simp only [checkL]
    by_cases hz : i = 0
    · subst hz
      rw [if_neg (by decide)]
      have : prevOf l 0 = none := rfl
      rw [this, twice_none, Bool.false_or]
      cases singleS l[0] <;> rfl
    · have hpr : prevOf l i = some (l[i - 1]'(by omega)) := by
        unfold prevOf
        rw [if_neg hz, List.getElem?_eq_getElem (by omega)]
      have w2 : wrap64 ((i : Int) - 1) = ((i - 1 : Nat) : Int) := by unfold wrap64; omega
      rw [if_pos (by omega), w2, if_pos (by omega), if_pos (by omega), rd_get l (i - 1) (by omega), hpr]
      by_cases h : (l[i - 1]'(by omega)).f0 = l[i].f0
      · rw [if_pos h, twice_eq _ _ h]
        by_cases h0 : l[i].f0 = 0
        · rw [if_pos h0, beq_iff_eq.mpr h0]; rfl
        · rw [if_neg h0, beq_eq_false_iff_ne.mpr h0]
          by_cases h5 : l[i].f0 = 5
          · rw [if_pos h5, beq_iff_eq.mpr h5]; rfl
          · rw [if_neg h5, beq_eq_false_iff_ne.mpr h5]
            cases singleS l[i] <;> rfl
      · rw [if_neg h, twice_ne _ _ h]
        cases singleS l[i] <;> rfl
theorem refCheck_l (l : List S53) (N : Nat) (hN : N ≤ 281474976710656) (hl : Texts l N) (hb : l.length ≤ 4611686018427387904) (k : Nat) : ∀ (d i : Nat) (b : Int), i + d = l.length →
    quipuref13_Check.l0 (N + 20 + k + d + 1) l b (i : Int) = some (checkL l.length (prevOf l i) (l.drop i) b)
  | 0, i, b, hi => by
    simp only [quipuref13_Check.l0]
    rw [if_neg (by omega), List.drop_eq_nil_of_le (by omega)]
    simp only [checkL]
    repeat' split
    all_goals rfl
  | d + 1, i, b, hi => by
    have hlt : i < l.length := by omega
    have ih := refCheck_l l N hN hl hb k d (i + 1)
    have w1 : wrap64 ((i : Int) + 1) = ((i + 1 : Nat) : Int) := by unfold wrap64; omega
    have e1 := rd_get l i hlt
    have hs := one_eq l[i] (N + 20 + k + d + 1) (by have := hl _ (List.getElem_mem hlt); omega) (by have := hl _ (List.getElem_mem hlt); omega)
    have hp : prevOf l (i + 1) = some l[i] := by
      unfold prevOf
      rw [if_neg (by omega), Nat.add_sub_cancel, List.getElem?_eq_getElem hlt]
    rw [show N + 20 + k + (d + 1) + 1 = (N + 20 + k + d + 1) + 1 by omega]
    obtain ⟨m, hm⟩ : ∃ m, N + 20 + k + d + 1 = m := ⟨_, rfl⟩
    simp only [hm] at ih hs ⊢
    clear hm
    simp only [quipuref13_Check.l0]
    rw [if_pos (by omega), if_pos (by omega), e1, hs, Option.bind_some, w1, ih _ (by omega), hp, List.drop_eq_getElem_cons hlt]
    simp only [checkL]
    by_cases hz : i = 0
    · subst hz
      rw [if_neg (show ¬ (((0 : Nat) : Int) > 0) by decide)]
      have : prevOf l 0 = none := rfl
      rw [this, twice_none, Bool.false_or]
      cases singleS l[0] <;> rfl
    · have hpr : prevOf l i = some (l[i - 1]'(by omega)) := by
        unfold prevOf
        rw [if_neg hz, List.getElem?_eq_getElem (by omega)]
      have w2 : wrap64 ((i : Int) - 1) = ((i - 1 : Nat) : Int) := by unfold wrap64; omega
      rw [if_pos (show ((i : Int) > 0) by omega), w2, if_pos (show (0 : Int) ≤ ((i - 1 : Nat) : Int) by omega), if_pos (show (((i - 1 : Nat) : Int) < (l.length : Int)) by omega), rd_get l (i - 1) (by omega), hpr]
      cases hsg : singleS l[i]
      · rw [if_neg (by decide), Bool.not_false, Bool.or_true, if_pos rfl]
      · rw [if_pos rfl, Bool.not_true, Bool.or_false]
        by_cases h : (l[i - 1]'(by omega)).f0 = l[i].f0
        · rw [twice_eq _ _ h]
          by_cases h0 : l[i].f0 = 0
          · rw [if_pos h0, if_pos h, beq_iff_eq.mpr h0]; rfl
          · rw [if_neg h0, beq_eq_false_iff_ne.mpr h0]
            by_cases h5 : l[i].f0 = 5
            · rw [if_pos h5, if_pos h, beq_iff_eq.mpr h5]; rfl
            · rw [if_neg h5, beq_eq_false_iff_ne.mpr h5]; rfl
        · rw [twice_ne _ _ h, if_neg h, if_neg (show ¬ (false = true) by decide)]
          repeat' split
          all_goals rfl
def checkS (l : List S53) : Int := checkL l.length none l 0
theorem affixCheck_eq (l : List S53) (N : Nat) (hN : N ≤ 281474976710656) (hl : Texts l N) (hb : l.length ≤ 4611686018427387904) (K : Nat) (hK : N + l.length + 21 ≤ K) : affix_Check.f K l = some (checkS l) := by
  have h := affixCheck_l l N hN hl hb (K - (N + l.length + 21)) l.length 0 0 (by omega)
  rw [show N + 20 + (K - (N + l.length + 21)) + l.length + 1 = K by omega] at h
  exact h
theorem refCheck_eq (l : List S53) (N : Nat) (hN : N ≤ 281474976710656) (hl : Texts l N) (hb : l.length ≤ 4611686018427387904) (K : Nat) (hK : N + l.length + 21 ≤ K) : quipuref13_Check.f K l = some (checkS l) := by
  have h := refCheck_l l N hN hl hb (K - (N + l.length + 21)) l.length 0 0 (by omega)
  rw [show N + 20 + (K - (N + l.length + 21)) + l.length + 1 = K by omega] at h
  exact h
def quoteC (c : ByteArray) : Prop := c.toList = ([39] : List UInt8)
instance (c : ByteArray) : Decidable (quoteC c) := inferInstanceAs (Decidable (c.toList = ([39] : List UInt8)))
def nextQ : List ByteArray → Bool
  | [] => false
  | c :: _ => decide (quoteC c)
def finishS (whole : Bool) (x : Int) (l : List S53) : List S53 × Int :=
  if whole = false then ([], 131) else if x = 1 then ([], 130) else if checkS l = 0 then (l, 0) else ([], checkS l)
def parseS (whole : Bool) : List ByteArray → Bool → Int → List S53 → ByteArray → List S53 × Int
  | [], _, x, l, t => finishS whole x (endL l t)
  | c :: cs, true, x, l, t => parseS whole cs false x l (t ++ ⟨#[39]⟩)
  | c :: cs, false, x, l, t =>
    if quoteC c then (if nextQ cs = true then parseS whole cs true x l t else parseS whole cs false (1 - x) l t)
    else if x = 0 then
      (if 0 < kindS c then (if (signL (endL l t) (kindS c)).2 = true then parseS whole cs false x (signL (endL l t) (kindS c)).1 ⟨#[]⟩ else ([], 131))
       else if letB c = true then ([], 131) else parseS whole cs false x l (t ++ c))
    else parseS whole cs false x l (t ++ c)
theorem quote39 (s : ByteArray) (q : Int) (h0 : 0 ≤ q) (h1 : q < s.size) (hb : bt s q = 39) : runeS s q = 1 := by
  have h := runeS_sec s q h0 h1
  rw [hb] at h
  rw [h]
  unfold G
  rw [if_pos (show (sec 39).2.2 ≤ 1 by decide)]
  decide
theorem cut_first (s : ByteArray) (p : Int) (hz : runeS s p ≠ 0) : bt (cut s p) 0 = bt s p := by
  have hr := rune_pos s p hz
  have h := bt_cut s p (runeS s p) 0 (by omega) (by omega) (by omega) (by omega)
  rw [Int.add_zero] at h
  exact h
theorem quoteC_iff (s : ByteArray) (p : Int) (hz : runeS s p ≠ 0) : quoteC (cut s p) ↔ bt s p = 39 := by
  have hr := rune_pos s p hz
  have hs := cut_size s p hz
  have hf := cut_first s p hz
  obtain ⟨b, r, e⟩ := list_of (c := cut s p) (by omega)
  obtain ⟨e1, e2⟩ := bt_first e
  unfold quoteC
  rw [Lib.toList_data, e]
  constructor
  · intro h
    injection h with h _
    rw [← hf, e1, h]
    rfl
  · intro h
    have h1 := quote39 s p (by omega) (by omega) h
    have : r = [] := List.eq_nil_of_length_eq_zero (by omega)
    subst this
    rw [hf, h] at e1
    have hb : b = 39 := by
      apply UInt8.toNat_inj.mp
      have : (b.toNat : Int) = 39 := e1.symm
      have h39 : (39 : UInt8).toNat = 39 := rfl
      omega
    rw [hb]
theorem hasQ_bt (s : ByteArray) (q : Nat) (h : q < s.size) : hasQ (s.extract q s.size) = decide (bt s (q : Int) = 39) := by
  have hl : (s.extract q s.size).data.toList = s.data.toList.drop q := Lib.extract_to_end s q
  have hd : s.data.toList.drop q = s[q] :: s.data.toList.drop (q + 1) := by
    rw [List.drop_eq_getElem_cons (by simpa using h)]
    rfl
  have hb : bt s (q : Int) = (s[q].toNat : Int) := by
    have h1 : (q : Int).toNat < s.size := by omega
    simp only [bt]
    rw [dif_pos h1]
    simp
  unfold hasQ
  rw [hl, hd, hb]
  unfold Lib.hasPrefix
  simp only [List.isPrefixOf, Bool.and_true]
  by_cases c : s[q] = 39
  · rw [c]; rfl
  · have h1 : ((39 : UInt8) == s[q]) = false := beq_eq_false_iff_ne.mpr (fun e => c e.symm)
    rw [h1]
    symm
    apply decide_eq_false
    intro h2
    apply c
    apply UInt8.toNat_inj.mp
    have h39 : (39 : UInt8).toNat = 39 := rfl
    omega
theorem hasQ_next (s : ByteArray) (q : Int) (h0 : 0 ≤ q) (h1 : q ≤ s.size) : hasQ (s.extract q.toNat s.size) = nextQ (runesAt s q).1 := by
  by_cases hlt : q < s.size
  · have hb := hasQ_bt s q.toNat (by omega)
    rw [show ((q.toNat : Nat) : Int) = q by omega] at hb
    rw [hb]
    by_cases hz : runeS s q = 0
    · rw [runesAt_bad s q hlt hz]
      simp only [nextQ]
      apply decide_eq_false
      intro h
      have := quote39 s q h0 hlt h
      omega
    · rw [runesAt_step s q hz]
      simp only [nextQ]
      by_cases hq : quoteC (cut s q)
      · rw [decide_eq_true hq, decide_eq_true ((quoteC_iff s q hz).1 hq)]
      · rw [decide_eq_false hq, decide_eq_false (fun h => hq ((quoteC_iff s q hz).2 h))]
  · rw [runesAt_end s q hlt]
    simp only [nextQ]
    cases hh : hasQ (s.extract q.toNat s.size)
    · rfl
    · have := hasQ_pos s q.toNat hh
      omega
theorem texts_app {l : List S53} {N : Nat} (h : Texts l N) {t : S53} (ht : t.f2.size ≤ N) : Texts (l ++ [t]) N := by
  intro x hx
  rw [List.mem_append, List.mem_singleton] at hx
  rcases hx with hx | rfl
  · exact h x hx
  · exact ht
theorem texts_end {l : List S53} {N : Nat} (h : Texts l N) {t : ByteArray} (ht : t.size ≤ N) : Texts (endL l t) N := by
  unfold endL
  split
  · exact h
  · exact texts_app h ht
theorem texts_sign {l : List S53} {N : Nat} (h : Texts l N) (k : Int) : Texts (signL l k).1 N := by
  unfold signL
  split
  · rename_i c
    intro x hx
    rcases List.mem_or_eq_of_mem_set hx with hx | rfl
    · exact h x hx
    · have : rd_T53 l ((l.length - 1 : Nat) : Int) = l[l.length - 1]'(by omega) := rd_get l (l.length - 1) (by omega)
      rw [this]
      have h2 := h (l[l.length - 1]'(by omega)) (List.getElem_mem (by omega))
      exact h2
  · exact texts_app h (Nat.zero_le _)
theorem parse_runes (s : ByteArray) (K : Nat) (hs : s.size ≤ 1048576) (hK : 4 * s.size + 100 ≤ K) : ∀ (d : Nat) (x p : Int) (l : List S53) (t : ByteArray), 0 ≤ p → p ≤ s.size → (s.size : Int) - p < d → (x = 0 ∨ x = 1) → Texts l s.size → (l.length : Int) ≤ 2 * p → (t.size : Int) ≤ p →
    parseL s K d x p l t = some (parseS (runesAt s p).2 (runesAt s p).1 false x l t)
  | 0, x, p, l, t, h0, h1, h2, hx, hl, hn, ht => by omega
  | d + 1, x, p, l, t, h0, h1, h2, hx, hl, hn, ht => by
    have hR := curRune s p (by omega) 0
    rw [Nat.zero_add] at hR
    by_cases hlt : p < s.size
    case neg =>
      simp only [parseL]
      rw [if_neg hlt, runesAt_end s p hlt]
      simp only [parseS, finishS]
      rw [if_neg (show ¬ (true = false) by decide)]
      by_cases hx1 : x = 1
      · rw [if_pos hx1, if_pos hx1]
      · rw [if_neg hx1, if_neg hx1, affixCheck_eq (endL l t) s.size (by omega) (texts_end hl (by omega)) (by have := endL_len l t; omega) K (by have := endL_len l t; omega), Option.bind_some]
        split
        · rfl
        · rfl
    by_cases hz : runeS s p = 0
    · simp only [parseL]
      rw [if_pos hlt, hR, Option.bind_some, if_pos hz, runesAt_bad s p hlt hz]
      simp only [parseS, finishS, if_true]
    have hr := rune_pos s p hz
    have ih := fun x' l' t' h1 h2 h3 h4 => parse_runes s K hs hK d x' (p + runeS s p) l' t' (by omega) (by omega) (by omega) h1 h2 h3 h4
    have hcs := cut_size s p hz
    rw [runesAt_step s p hz]
    simp only [parseL]
    rw [if_pos hlt, hR, Option.bind_some, if_neg hz, if_pos (show 0 < runeS s p ∧ p + runeS s p ≤ s.size by omega)]
    rw [show s.extract p.toNat (p + runeS s p).toNat = cut s p from rfl]
    obtain ⟨q, hq⟩ : ∃ q, p + runeS s p = q := ⟨_, rfl⟩
    rw [hq] at ih hr ⊢
    by_cases h39 : (cut s p).toList = ([39] : List UInt8)
    · have hn1 : runeS s p = 1 := by
        have hb := (quoteC_iff s p hz).1 h39
        exact quote39 s p h0 hlt hb
      rw [if_pos h39, hasQ_next s q (by omega) (by omega)]
      simp only [parseS]
      rw [if_pos (show quoteC (cut s p) from h39)]
      by_cases hn2 : nextQ (runesAt s q).1 = true
      · rw [if_pos hn2, if_pos hn2]
        by_cases hlq : q < s.size
        · by_cases hzq : runeS s q = 0
          · rw [runesAt_bad s q hlq hzq] at hn2; exact absurd hn2 (by decide)
          · rw [runesAt_step s q hzq] at hn2 ⊢
            simp only [nextQ] at hn2
            have hb := (quoteC_iff s q hzq).1 (of_decide_eq_true hn2)
            have h1q := quote39 s q (by omega) hlq hb
            rw [h1q]
            simp only [parseS]
            exact parse_runes s K hs hK d x (q + 1) l (t ++ ⟨#[39]⟩) (by omega) (by omega) (by omega) hx hl (by omega) (by rw [ByteArray.size_append]; simp only [show (⟨#[39]⟩ : ByteArray).size = 1 from rfl]; omega)
        · rw [runesAt_end s q hlq] at hn2; exact absurd hn2 (by decide)
      · rw [if_neg hn2, if_neg hn2]
        exact ih (1 - x) l t (by omega) hl (by omega) (by omega)
    · rw [if_neg h39]
      simp only [parseS]
      rw [if_neg (show ¬ quoteC (cut s p) from h39)]
      by_cases hx0 : x = 0
      · rw [if_pos hx0, if_pos hx0, kind_eq, Option.bind_some]
        by_cases hk : 0 < kindS (cut s p)
        · rw [if_pos hk, if_pos hk]
          by_cases hs2 : (signL (endL l t) (kindS (cut s p))).2 = true
          · rw [if_pos hs2, if_pos hs2]
            exact ih x _ ⟨#[]⟩ hx (texts_sign (texts_end hl (by omega)) _) (by have := signL_len (endL l t) (kindS (cut s p)); have := endL_len l t; omega) (by simp only [show (⟨#[]⟩ : ByteArray).size = 0 from rfl]; omega)
          · rw [if_neg hs2, if_neg hs2]
        · rw [if_neg hk, if_neg hk]
          by_cases hlb : letB (cut s p) = true
          · rw [if_pos hlb, if_pos hlb]
          · rw [if_neg hlb, if_neg hlb]
            exact ih x l _ hx hl (by omega) (by rw [ByteArray.size_append]; omega)
      · rw [if_neg hx0, if_neg hx0]
        exact ih x l _ hx hl (by omega) (by rw [ByteArray.size_append]; omega)
def parseT (s : ByteArray) : List S53 × Int := parseS (runesAt s 0).2 (runesAt s 0).1 false 0 [] ⟨#[]⟩
theorem affixParse_eq (s : ByteArray) (hs : s.size ≤ 1048576) : affix_Parse.f s = some (parseT s) := by
  unfold affix_Parse.f
  rw [if_pos hs]
  obtain ⟨K, hK⟩ : ∃ K, 4 * s.size + 100 = K := ⟨_, rfl⟩
  rw [hK]
  have e1 : (([] : List S53).length : Int) ≤ 2 * 0 := by simp
  have e2 : ((⟨#[]⟩ : ByteArray).size : Int) ≤ 0 := Int.le_refl _
  have h := parse_runes s K hs (by omega) (s.size + 1) 0 0 [] ⟨#[]⟩ (Int.le_refl _) (by omega) (by omega) (.inl rfl) (fun _ h => by simp at h) e1 e2
  rw [h]
  rfl
theorem refRunes_l (s : ByteArray) (hs : s.size ≤ 1048576) (k : Nat) : ∀ (d : Nat) (p : Int) (acc : List ByteArray), 0 ≤ p → p ≤ s.size → (s.size : Int) - p < d → (acc.length : Int) ≤ p →
    quipuref13_Runes.l0 (k + 8 + d) s acc p = some (acc ++ (runesAt s p).1, (runesAt s p).2)
  | 0, p, acc, h0, h1, h2, h3 => by omega
  | d + 1, p, acc, h0, h1, h2, h3 => by
    obtain ⟨m, hm⟩ : ∃ m, k + 8 + d = m := ⟨_, rfl⟩
    have hR := refRune s p (by omega) (k + d)
    rw [show k + d + 8 = m by omega] at hR
    have ih := fun q a => refRunes_l s hs k d q a
    simp only [hm] at ih
    rw [show k + 8 + (d + 1) = m + 1 by omega]
    simp only [quipuref13_Runes.l0]
    by_cases hlt : p < s.size
    · rw [if_pos hlt, hR, Option.bind_some]
      by_cases hz : runeS s p = 0
      · rw [if_pos hz, runesAt_bad s p hlt hz, List.append_nil]
      · have hr := rune_pos s p hz
        have w1 : wrap64 (p + runeS s p) = p + runeS s p := by unfold wrap64; omega
        rw [if_neg hz, w1, if_pos h0, if_pos (by omega), if_pos (by omega), if_pos (by omega), ih _ _ (by omega) (by omega) (by omega) (by rw [List.length_append]; simp; omega), runesAt_step s p hz]
        simp only [List.append_assoc, List.singleton_append]
        rfl
    · rw [if_neg hlt, runesAt_end s p hlt, List.append_nil]
theorem refRunesT (s : ByteArray) (hs : s.size ≤ 1048576) (K : Nat) (hK : s.size + 9 ≤ K) : quipuref13_Runes.f K s = some (runesAt s 0) := by
  have h := refRunes_l s hs (K - (s.size + 9)) (s.size + 1) 0 [] (Int.le_refl _) (by omega) (by omega) (by simp)
  rw [show K - (s.size + 9) + 8 + (s.size + 1) = K by omega] at h
  unfold quipuref13_Runes.f
  rw [h, List.nil_append]
theorem nil_of (t : ByteArray) (h : t.toList = ([] : List UInt8)) : t = ⟨#[]⟩ := by
  rw [Lib.toList_data] at h
  exact bytes_of t [] h
theorem bytes_inj {a b : ByteArray} (h : a.data.toList = b.data.toList) : a = b := by
  rw [bytes_of a _ h, ← bytes_of b _ rfl]
theorem runesAt_size (s : ByteArray) : ∀ (d : Nat) (p : Int), 0 ≤ p → p ≤ s.size → (s.size : Int) - p ≤ d → (∀ c ∈ (runesAt s p).1, c.size ≤ 4) ∧ (((runesAt s p).1.length : Int) ≤ s.size - p)
  | d, p, h0, h1, h2 => by
    by_cases hlt : p < s.size
    · by_cases hz : runeS s p = 0
      · rw [runesAt_bad s p hlt hz]; exact ⟨fun c hc => by simp at hc, by simp; omega⟩
      · have hr := rune_pos s p hz
        have hs := cut_size s p hz
        obtain ⟨d', rfl⟩ : ∃ d', d = d' + 1 := ⟨d - 1, by omega⟩
        have ih := runesAt_size s d' (p + runeS s p) (by omega) (by omega) (by omega)
        rw [runesAt_step s p hz]
        refine ⟨fun c hc => ?_, by simp only [List.length_cons]; omega⟩
        simp only [List.mem_cons] at hc
        rcases hc with rfl | hc
        · omega
        · exact ih.1 c hc
    · rw [runesAt_end s p hlt]; exact ⟨fun c hc => by simp at hc, by simp; omega⟩
end Go.Proofs.Ytacnjemndfmbhaa.A
end
