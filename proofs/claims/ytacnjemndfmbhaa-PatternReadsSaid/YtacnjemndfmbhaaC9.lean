import Derived.Test.YtacnjemndfmbhaaC6
import Derived.Test.YtacnjemndfmbhaaC8
namespace Go.Proofs.Ytacnjemndfmbhaa
open Go.RowKit
theorem aP44 {p : Prop} (h : p := by
    go_wp2
    go_ret
    exact ⟨by first | rfl | (simp [errW_none, errW_some] <;> rfl) | (simp [*, errW_none, errW_some] <;> rfl), by repeat (first | (with_reducible first | exact HB.out | apply below_alloc | apply pw_below_drewN | apply below_drew1) | exact HB.out)⟩) : p := h
theorem aP104 {p : Prop} (h : p := by have := HK1.out; have := HK2.out; have := HJ5.out; omega) : p := h
theorem aP45 {p : Prop} (h : p := by
    go_meet
    case rel => exact ⟨_, (true), (by first | rfl | (simp; done) | (simp [*]; done)), H', ⟨by have := HK1.out; have := HK2.out; first | omega | exact Nat.le_refl _⟩, ⟨by (with_reducible repeat (first | apply Kd.R_alloc | apply Kd.R_drewN | apply Kd.R_drew)); exact HO_3.out⟩, ⟨by repeat (first | (with_reducible first | exact HB.out | apply below_alloc | apply pw_below_drewN | apply below_drew1) | exact HB.out)⟩⟩) : p := h
theorem aP103 {p : Prop} (h : p := by (with_reducible repeat (first | apply Kd.R_alloc | apply Kd.R_drewN | apply Kd.R_drew)); exact HO_3.out) : p := h
theorem aP36 {p : Prop} (h : p := by
    go_enter Try.func72, Try.ntmps72
    go_wp2
    go_ret
    exact ⟨by first | rfl | (simp; done) | (simp [*]; done), by repeat (first | exact Drawn0.refl _ | apply Drawn0.step)⟩) : p := h
theorem aP37 {p : Prop} (h : p := by
    obtain rfl := Option.some.inj H
    have p4 : 0 ≤ (0 : Int) := (by omega)
    have q4 : 0 < a0.size := (by have : (0 : Int) < (a0.size : Int) := of_decide_eq_true (by first | (with_reducible assumption) | assumption); omega)
    have hx4 : ∀ h : 0 < a0.size, ((a0[0]'h).toNat : Int) = bt a0 0 := bt_at a0 0
    clear p4
    have qi4 : (0 < (a0.size : Int)) = True := eq_true (of_decide_eq_true (by first | (with_reducible assumption) | assumption))
    replace q4 := eq_true q4
    go_enter Try.func72, Try.ntmps72
    go_wp2
    go_ret
    exact ⟨by first | rfl | (simp; done) | (simp [*]; done), by repeat (first | exact Drawn0.refl _ | apply Drawn0.step)⟩) : p := h
theorem aP38 {p : Prop} (h : p := by
    obtain rfl := Option.some.inj H
    have p4 : 0 ≤ (0 : Int) := (by omega)
    have q4 : 0 < a0.size := (by have : (0 : Int) < (a0.size : Int) := of_decide_eq_true (by first | (with_reducible assumption) | assumption); omega)
    have hx4 : ∀ h : 0 < a0.size, ((a0[0]'h).toNat : Int) = bt a0 0 := bt_at a0 0
    clear p4
    have qi4 : (0 < (a0.size : Int)) = True := eq_true (of_decide_eq_true (by first | (with_reducible assumption) | assumption))
    replace q4 := eq_true q4
    have p6 : 0 ≤ (0 : Int) := (by omega)
    have q6 : 0 < a0.size := (by have : (0 : Int) < (a0.size : Int) := of_decide_eq_true (by first | (with_reducible assumption) | assumption); omega)
    have hx6 : ∀ h : 0 < a0.size, ((a0[0]'h).toNat : Int) = bt a0 0 := bt_at a0 0
    clear p6
    have qi6 : (0 < (a0.size : Int)) = True := eq_true (of_decide_eq_true (by first | (with_reducible assumption) | assumption))
    replace q6 := eq_true q6
    go_enter Try.func72, Try.ntmps72
    go_wp2
    go_ret
    exact ⟨by first | rfl | (simp; done) | (simp [*]; done), by repeat (first | exact Drawn0.refl _ | apply Drawn0.step)⟩) : p := h
theorem aP39 {p : Prop} (h : p := by
    obtain rfl := Option.some.inj H
    go_enter Try.func71, Try.ntmps71
    go_wp2
    go_ret
    exact ⟨by first | rfl | (simp; done) | (simp [*]; done), by repeat (first | exact Drawn0.refl _ | apply Drawn0.step)⟩) : p := h
theorem aP102 {p : Prop} (h : p := by (with_reducible repeat (first | apply Kd.R_alloc | apply Kd.R_drewN | apply Kd.R_drew)); exact HO_4.out) : p := h
theorem aP40 {p : Prop} (h : p := by
    go_ret2
    exact ⟨_, by first | rfl | (simp [errW_none, errW_some] <;> rfl) | (simp [*, errW_none, errW_some] <;> rfl), by (with_reducible repeat (first | apply Kd.R_alloc | apply Kd.R_drewN | apply Kd.R_drew)); exact HO_4.out, by repeat (first | (with_reducible first | exact HB.out | apply below_alloc | apply pw_below_drewN | apply below_drew1) | exact HB.out)⟩) : p := h
theorem aP41 {p : Prop} (h : p := by
    clear c25
    obtain rfl := Option.some.inj H
    go_wp2
    repeat (go_quiet (fail); try go_wp2)
    go_ret
    exact ⟨by first | rfl | (simp [errW_none, errW_some] <;> rfl) | (simp [*, errW_none, errW_some] <;> rfl), by repeat (first | (with_reducible first | exact HB.out | apply below_alloc | apply pw_below_drewN | apply below_drew1) | exact HB.out)⟩) : p := h
theorem aP42 {p : Prop} (h : p := by
    go_ret
    exact ⟨by first | rfl | (simp [errW_none, errW_some] <;> rfl) | (simp [*, errW_none, errW_some] <;> rfl), by repeat (first | (with_reducible first | exact HB.out | apply below_alloc | apply pw_below_drewN | apply below_drew1) | exact HB.out)⟩) : p := h
theorem aP43 {p : Prop} (h : p := by
    go_roundg k1
    case measure => have := HK1.out; omega
    case rel => exact ⟨(wrap64 (x3_1 + (((rd_T53 l0 x4_1).f2).size : Int))), (wrap64 (x4_1 + 1)), (by first | rfl | (simp; done) | (simp [*]; done)), (by first | rfl | (simp; done) | (simp [*]; done)), H', ⟨by have := HK1.out; omega⟩, ⟨by repeat (first | (with_reducible first | exact HB.out | apply below_alloc | apply pw_below_drewN | apply below_drew1) | exact HB.out)⟩⟩) : p := h
end Go.Proofs.Ytacnjemndfmbhaa
section
namespace Go.Proofs.Ytacnjemndfmbhaa.Q
open Go.RowKit Go.Proofs.YtacnjemndfmbhaaW.PrintWords Go.Proofs.YtacnjemndfmbhaaW.PrintLast Go.Proofs.YtacnjemndfmbhaaW.PrintMore
attribute [local go_sem] max2_int min2_int max_two min_two max_three min_three max_four min_four   -- for this text's walks alone
set_option linter.unusedVariables false
set_option linter.unusedSimpArgs false
def quipuref13_Check.l0 : Nat → List (S53) → Int → Int → Option (Int)
 | 0, _, _, _ => none
 | k + 1, x0, x3, x4 => if x4 < (x0.length : Int) then (if 0 ≤ x4 then ((quipuref13_one.f k ((rd_T53 x0 x4).f0) ((rd_T53 x0 x4).f1) ((rd_T53 x0 x4).f2)).bind fun t130 => (if t130 = true then (if x4 > 0 then (if ((rd_T53 x0 x4).f0) = 0 then (if 0 ≤ (wrap64 (x4 - 1)) then (if (wrap64 (x4 - 1)) < (x0.length : Int) then (if ((rd_T53 x0 (wrap64 (x4 - 1))).f0) = ((rd_T53 x0 x4).f0) then (some 131) else (quipuref13_Check.l0 k x0 (wrap64 (x3 + (((rd_T53 x0 x4).f2).size : Int))) (wrap64 (x4 + 1)))) else (none)) else (none)) else (if ((rd_T53 x0 x4).f0) = 5 then (if 0 ≤ (wrap64 (x4 - 1)) then (if (wrap64 (x4 - 1)) < (x0.length : Int) then (if ((rd_T53 x0 (wrap64 (x4 - 1))).f0) = ((rd_T53 x0 x4).f0) then (some 131) else (quipuref13_Check.l0 k x0 (wrap64 (x3 + (((rd_T53 x0 x4).f2).size : Int))) (wrap64 (x4 + 1)))) else (none)) else (none)) else (quipuref13_Check.l0 k x0 (wrap64 (x3 + (((rd_T53 x0 x4).f2).size : Int))) (wrap64 (x4 + 1))))) else (quipuref13_Check.l0 k x0 (wrap64 (x3 + (((rd_T53 x0 x4).f2).size : Int))) (wrap64 (x4 + 1)))) else (some 131))) else (none)) else (if (x0.length : Int) > 64 then (some 132) else (if x3 > 64 then (some 132) else (some 0)))
def quipuref13_Check.f (k : Nat) (l0 : List (S53)) : Option (Int) := quipuref13_Check.l0 k l0 0 0
set_option maxHeartbeats 8000000 in
set_option maxRecDepth 100000 in
theorem quipuref13_Check.calls (k : Nat) (A0 : Option Addr) (c0 : Nat) (l0 : List (S53)) (r : Int) (w : World) (hr0 : Kd.C k53 w A0 l0.length l0) (hc0 : l0.length ≤ c0) (h : quipuref13_Check.f k l0 = some r) :
  Calls Try.prog 55 #[.slice A0 l0.length c0] w fun e w' => e = .returned (.int .i64 r) ∧ Below w.heap.size w w' := by
 have hu53 := Try.underlying53
 have HR0 := aMk hr0
 have HC0 := aMk hc0
 clear hr0 hc0
 have HB := aMk (Below.refl w.heap.size w)
 have H : (quipuref13_Check.l0 k l0 0 0) = some r := h
 clear h
 have H' := aMk H
 clear H
 go_enter Try.func55, Try.ntmps55
 go_wp2
 repeat (go_quiet (fail); try go_wp2)
 go_loopg [3, 4] k (fun kq v3 v4 w' => ∃ (x3_1 : Int) (x4_1 : Int), v3 = .int .i64 x3_1 ∧ v4 = .int .i64 x4_1 ∧ Aside0 (quipuref13_Check.l0 kq l0 x3_1 x4_1 = some r) ∧ Aside0 (kq ≤ k) ∧ Aside0 (Below w.heap.size w w'))
 case atStart => exact ⟨(0), (0), (aP77), (aP77), H', ⟨Nat.le_refl _⟩, ⟨aP80⟩⟩
 case round =>
  clear H'
  obtain ⟨x3_1, x4_1, rfl, rfl, HA, HK1, HB⟩ := hrel
  cases gk with
  | zero => exact absurd HA.out (by simp [quipuref13_Check.l0])
  | succ k1 =>
   have H := HA.out
   clear HA
   simp only [quipuref13_Check.l0] at H
   by_cases c2 : x4_1 < (l0.length : Int)
   ·rw [if_pos c2] at H
    have c2b0 : decide (x4_1 < (l0.length : Int)) = true := dTr c2
    clear c2
    by_cases c3 : 0 ≤ x4_1
    ·rw [if_pos c3] at H
     have c3b0 : decide (0 ≤ x4_1) = true := dTr c3
     clear c3
     replace H := Option.bind_eq_some_iff.mp H
     obtain ⟨t130, A40, H⟩ := H
     replace H : (if t130 = true then (if x4_1 > 0 then (if ((rd_T53 l0 x4_1).f0) = 0 then (if 0 ≤ (wrap64 (x4_1 - 1)) then (if (wrap64 (x4_1 - 1)) < (l0.length : Int) then (if ((rd_T53 l0 (wrap64 (x4_1 - 1))).f0) = ((rd_T53 l0 x4_1).f0) then (some 131) else (quipuref13_Check.l0 k1 l0 (wrap64 (x3_1 + (((rd_T53 l0 x4_1).f2).size : Int))) (wrap64 (x4_1 + 1)))) else (none)) else (none)) else (if ((rd_T53 l0 x4_1).f0) = 5 then (if 0 ≤ (wrap64 (x4_1 - 1)) then (if (wrap64 (x4_1 - 1)) < (l0.length : Int) then (if ((rd_T53 l0 (wrap64 (x4_1 - 1))).f0) = ((rd_T53 l0 x4_1).f0) then (some 131) else (quipuref13_Check.l0 k1 l0 (wrap64 (x3_1 + (((rd_T53 l0 x4_1).f2).size : Int))) (wrap64 (x4_1 + 1)))) else (none)) else (none)) else (quipuref13_Check.l0 k1 l0 (wrap64 (x3_1 + (((rd_T53 l0 x4_1).f2).size : Int))) (wrap64 (x4_1 + 1))))) else (quipuref13_Check.l0 k1 l0 (wrap64 (x3_1 + (((rd_T53 l0 x4_1).f2).size : Int))) (wrap64 (x4_1 + 1)))) else (some 131)) = some r := H
     have A4 := aMk A40
     clear A40
     by_cases c5 : t130 = true
     ·subst c5
      have H1 : (if x4_1 > 0 then (if ((rd_T53 l0 x4_1).f0) = 0 then (if 0 ≤ (wrap64 (x4_1 - 1)) then (if (wrap64 (x4_1 - 1)) < (l0.length : Int) then (if ((rd_T53 l0 (wrap64 (x4_1 - 1))).f0) = ((rd_T53 l0 x4_1).f0) then (some 131) else (quipuref13_Check.l0 k1 l0 (wrap64 (x3_1 + (((rd_T53 l0 x4_1).f2).size : Int))) (wrap64 (x4_1 + 1)))) else (none)) else (none)) else (if ((rd_T53 l0 x4_1).f0) = 5 then (if 0 ≤ (wrap64 (x4_1 - 1)) then (if (wrap64 (x4_1 - 1)) < (l0.length : Int) then (if ((rd_T53 l0 (wrap64 (x4_1 - 1))).f0) = ((rd_T53 l0 x4_1).f0) then (some 131) else (quipuref13_Check.l0 k1 l0 (wrap64 (x3_1 + (((rd_T53 l0 x4_1).f2).size : Int))) (wrap64 (x4_1 + 1)))) else (none)) else (none)) else (quipuref13_Check.l0 k1 l0 (wrap64 (x3_1 + (((rd_T53 l0 x4_1).f2).size : Int))) (wrap64 (x4_1 + 1))))) else (quipuref13_Check.l0 k1 l0 (wrap64 (x3_1 + (((rd_T53 l0 x4_1).f2).size : Int))) (wrap64 (x4_1 + 1)))) = some r := aP79
      clear H
      have H := H1
      clear H1
      by_cases c6 : x4_1 > 0
      ·rw [if_pos c6] at H
       have c6b0 : decide (0 < x4_1) = true := dTr c6
       clear c6
       by_cases c7 : ((rd_T53 l0 x4_1).f0) = 0
       ·rw [if_pos c7] at H
        have c7b0 : (((rd_T53 l0 x4_1).f0) == 0) = true := beT c7
        have c7b1 : (((rd_T53 l0 x4_1).f0) != 0) = false := bnF c7
        clear c7
        obtain ⟨ji8, hji8⟩ : ∃ j_ : Int, (wrap64 (x4_1 - 1)) = j_ := ⟨_, rfl⟩
        replace H : (if 0 ≤ (ji8) then (if (ji8) < (l0.length : Int) then (if ((rd_T53 l0 (ji8)).f0) = ((rd_T53 l0 x4_1).f0) then (some 131) else (quipuref13_Check.l0 k1 l0 (wrap64 (x3_1 + (((rd_T53 l0 x4_1).f2).size : Int))) (wrap64 (x4_1 + 1)))) else (none)) else (none)) = some r := by first | (rw [hji8] at H; exact H) | (simp only [hji8] at H ⊢; exact H)
        (try rw [hji8] at A4)
        have hji8w : (IntKind.i64.wrap (x4_1 - 1)) = ji8 := (i64_w _).trans hji8
        by_cases c9 : 0 ≤ (ji8)
        ·rw [if_pos c9] at H
         have c9b0 : decide (0 ≤ (ji8)) = true := dTr c9
         clear c9
         by_cases c10 : (ji8) < (l0.length : Int)
         ·rw [if_pos c10] at H
          have c10b0 : decide ((ji8) < (l0.length : Int)) = true := dTr c10
          clear c10
          by_cases c11 : ((rd_T53 l0 (ji8)).f0) = ((rd_T53 l0 x4_1).f0)
          ·rw [if_pos c11] at H
           have c11b0 : (((rd_T53 l0 (ji8)).f0) == ((rd_T53 l0 x4_1).f0)) = true := beT c11
           have c11b1 : (((rd_T53 l0 (ji8)).f0) != ((rd_T53 l0 x4_1).f0)) = false := bnF c11
           clear c11
           obtain rfl := Option.some.inj H
           have p129 : 0 ≤ (x4_1 : Int) := of_decide_eq_true (aP75)
           have q129 : x4_1 < (l0.length : Int) := of_decide_eq_true (aP75)
           obtain ⟨ad129, e129, hx129_0, hx129_1, hx129_2⟩ := at_T53 HR0.out x4_1 p129 q129
           cases e129
           replace hx129_0 := (HB.out.cell (World.block_lt_of_cell? w _ hx129_0)).trans hx129_0
           replace hx129_1 := (HB.out.cell (World.block_lt_of_cell? w _ hx129_1)).trans hx129_1
           replace hx129_2 := (HB.out.cell (World.block_lt_of_cell? w _ hx129_2)).trans hx129_2
           replace p129 := eq_true p129
           replace q129 := eq_true q129
           go_wp2_with (first | (go_at_call 79; (with_reducible refine (quipuref13_one.calls k1 ((rd_T53 l0 x4_1).f0) ((rd_T53 l0 x4_1).f1) ((rd_T53 l0 x4_1).f2) true _ A4.out).mono ?_); rintro e w12 ⟨rfl, hb⟩; have n0_ := aMk (below_step (aP80) hb); clear HB; have HB := n0_; clear n0_; (try clear hb); (try clear hb2); (try clear hk); (try clear hi); have p131 : 0 ≤ (x4_1 : Int) := of_decide_eq_true (aP75); have q131 : x4_1 < (l0.length : Int) := of_decide_eq_true (aP75); obtain ⟨ad131, e131, hx131_0, hx131_1, hx131_2⟩ := at_T53 HR0.out x4_1 p131 q131; obtain rfl : ad129 = ad131 := (by injection e131); replace hx131_0 := (HB.out.cell (World.block_lt_of_cell? w _ hx131_0)).trans hx131_0; replace hx131_1 := (HB.out.cell (World.block_lt_of_cell? w _ hx131_1)).trans hx131_1; replace hx131_2 := (HB.out.cell (World.block_lt_of_cell? w _ hx131_2)).trans hx131_2; replace p131 := eq_true p131; replace q131 := eq_true q131; have p132 : 0 ≤ ((ji8) : Int) := of_decide_eq_true (aP75); have q132 : (ji8) < (l0.length : Int) := of_decide_eq_true (aP75); obtain ⟨ad132, e132, hx132_0, hx132_1, hx132_2⟩ := at_T53 HR0.out (ji8) p132 q132; obtain rfl : ad129 = ad132 := (by injection e132); replace hx132_0 := (HB.out.cell (World.block_lt_of_cell? w _ hx132_0)).trans hx132_0; replace hx132_1 := (HB.out.cell (World.block_lt_of_cell? w _ hx132_1)).trans hx132_1; replace hx132_2 := (HB.out.cell (World.block_lt_of_cell? w _ hx132_2)).trans hx132_2; replace p132 := eq_true p132; replace q132 := eq_true q132; have p133 : 0 ≤ (x4_1 : Int) := of_decide_eq_true (aP75); have q133 : x4_1 < (l0.length : Int) := of_decide_eq_true (aP75); obtain ⟨ad133, e133, hx133_0, hx133_1, hx133_2⟩ := at_T53 HR0.out x4_1 p133 q133; obtain rfl : ad129 = ad133 := (by injection e133); replace hx133_0 := (HB.out.cell (World.block_lt_of_cell? w _ hx133_0)).trans hx133_0; replace hx133_1 := (HB.out.cell (World.block_lt_of_cell? w _ hx133_1)).trans hx133_1; replace hx133_2 := (HB.out.cell (World.block_lt_of_cell? w _ hx133_2)).trans hx133_2; replace p133 := eq_true p133; replace q133 := eq_true q133))
           repeat (go_quiet (first | (go_at_call 79; (with_reducible refine (quipuref13_one.calls k1 ((rd_T53 l0 x4_1).f0) ((rd_T53 l0 x4_1).f1) ((rd_T53 l0 x4_1).f2) true _ A4.out).mono ?_); rintro e w12 ⟨rfl, hb⟩; have n0_ := aMk (below_step (aP80) hb); clear HB; have HB := n0_; clear n0_; (try clear hb); (try clear hb2); (try clear hk); (try clear hi); have p131 : 0 ≤ (x4_1 : Int) := of_decide_eq_true (aP75); have q131 : x4_1 < (l0.length : Int) := of_decide_eq_true (aP75); obtain ⟨ad131, e131, hx131_0, hx131_1, hx131_2⟩ := at_T53 HR0.out x4_1 p131 q131; obtain rfl : ad129 = ad131 := (by injection e131); replace hx131_0 := (HB.out.cell (World.block_lt_of_cell? w _ hx131_0)).trans hx131_0; replace hx131_1 := (HB.out.cell (World.block_lt_of_cell? w _ hx131_1)).trans hx131_1; replace hx131_2 := (HB.out.cell (World.block_lt_of_cell? w _ hx131_2)).trans hx131_2; replace p131 := eq_true p131; replace q131 := eq_true q131; have p132 : 0 ≤ ((ji8) : Int) := of_decide_eq_true (aP75); have q132 : (ji8) < (l0.length : Int) := of_decide_eq_true (aP75); obtain ⟨ad132, e132, hx132_0, hx132_1, hx132_2⟩ := at_T53 HR0.out (ji8) p132 q132; obtain rfl : ad129 = ad132 := (by injection e132); replace hx132_0 := (HB.out.cell (World.block_lt_of_cell? w _ hx132_0)).trans hx132_0; replace hx132_1 := (HB.out.cell (World.block_lt_of_cell? w _ hx132_1)).trans hx132_1; replace hx132_2 := (HB.out.cell (World.block_lt_of_cell? w _ hx132_2)).trans hx132_2; replace p132 := eq_true p132; replace q132 := eq_true q132; have p133 : 0 ≤ (x4_1 : Int) := of_decide_eq_true (aP75); have q133 : x4_1 < (l0.length : Int) := of_decide_eq_true (aP75); obtain ⟨ad133, e133, hx133_0, hx133_1, hx133_2⟩ := at_T53 HR0.out x4_1 p133 q133; obtain rfl : ad129 = ad133 := (by injection e133); replace hx133_0 := (HB.out.cell (World.block_lt_of_cell? w _ hx133_0)).trans hx133_0; replace hx133_1 := (HB.out.cell (World.block_lt_of_cell? w _ hx133_1)).trans hx133_1; replace hx133_2 := (HB.out.cell (World.block_lt_of_cell? w _ hx133_2)).trans hx133_2; replace p133 := eq_true p133; replace q133 := eq_true q133)); try go_wp2_with (first | (go_at_call 79; (with_reducible refine (quipuref13_one.calls k1 ((rd_T53 l0 x4_1).f0) ((rd_T53 l0 x4_1).f1) ((rd_T53 l0 x4_1).f2) true _ A4.out).mono ?_); rintro e w12 ⟨rfl, hb⟩; have n0_ := aMk (below_step (aP80) hb); clear HB; have HB := n0_; clear n0_; (try clear hb); (try clear hb2); (try clear hk); (try clear hi); have p131 : 0 ≤ (x4_1 : Int) := of_decide_eq_true (aP75); have q131 : x4_1 < (l0.length : Int) := of_decide_eq_true (aP75); obtain ⟨ad131, e131, hx131_0, hx131_1, hx131_2⟩ := at_T53 HR0.out x4_1 p131 q131; obtain rfl : ad129 = ad131 := (by injection e131); replace hx131_0 := (HB.out.cell (World.block_lt_of_cell? w _ hx131_0)).trans hx131_0; replace hx131_1 := (HB.out.cell (World.block_lt_of_cell? w _ hx131_1)).trans hx131_1; replace hx131_2 := (HB.out.cell (World.block_lt_of_cell? w _ hx131_2)).trans hx131_2; replace p131 := eq_true p131; replace q131 := eq_true q131; have p132 : 0 ≤ ((ji8) : Int) := of_decide_eq_true (aP75); have q132 : (ji8) < (l0.length : Int) := of_decide_eq_true (aP75); obtain ⟨ad132, e132, hx132_0, hx132_1, hx132_2⟩ := at_T53 HR0.out (ji8) p132 q132; obtain rfl : ad129 = ad132 := (by injection e132); replace hx132_0 := (HB.out.cell (World.block_lt_of_cell? w _ hx132_0)).trans hx132_0; replace hx132_1 := (HB.out.cell (World.block_lt_of_cell? w _ hx132_1)).trans hx132_1; replace hx132_2 := (HB.out.cell (World.block_lt_of_cell? w _ hx132_2)).trans hx132_2; replace p132 := eq_true p132; replace q132 := eq_true q132; have p133 : 0 ≤ (x4_1 : Int) := of_decide_eq_true (aP75); have q133 : x4_1 < (l0.length : Int) := of_decide_eq_true (aP75); obtain ⟨ad133, e133, hx133_0, hx133_1, hx133_2⟩ := at_T53 HR0.out x4_1 p133 q133; obtain rfl : ad129 = ad133 := (by injection e133); replace hx133_0 := (HB.out.cell (World.block_lt_of_cell? w _ hx133_0)).trans hx133_0; replace hx133_1 := (HB.out.cell (World.block_lt_of_cell? w _ hx133_1)).trans hx133_1; replace hx133_2 := (HB.out.cell (World.block_lt_of_cell? w _ hx133_2)).trans hx133_2; replace p133 := eq_true p133; replace q133 := eq_true q133)))
           go_ret
           exact ⟨by first | rfl | (simp [errW_none, errW_some] <;> rfl) | (simp only [← hji8]; first | rfl | (simp [errW_none, errW_some] <;> rfl)) | (simp [*, errW_none, errW_some] <;> rfl), aP80⟩
          ·rw [if_neg c11] at H
           have c11b0 : (((rd_T53 l0 (ji8)).f0) == ((rd_T53 l0 x4_1).f0)) = false := beF c11
           have c11b1 : (((rd_T53 l0 (ji8)).f0) != ((rd_T53 l0 x4_1).f0)) = true := bnT c11
           have H' := aMk H
           clear H
           have p129 : 0 ≤ (x4_1 : Int) := of_decide_eq_true (aP75)
           have q129 : x4_1 < (l0.length : Int) := of_decide_eq_true (aP75)
           obtain ⟨ad129, e129, hx129_0, hx129_1, hx129_2⟩ := at_T53 HR0.out x4_1 p129 q129
           cases e129
           replace hx129_0 := (HB.out.cell (World.block_lt_of_cell? w _ hx129_0)).trans hx129_0
           replace hx129_1 := (HB.out.cell (World.block_lt_of_cell? w _ hx129_1)).trans hx129_1
           replace hx129_2 := (HB.out.cell (World.block_lt_of_cell? w _ hx129_2)).trans hx129_2
           replace p129 := eq_true p129
           replace q129 := eq_true q129
           go_wp2_with (first | (go_at_call 79; (with_reducible refine (quipuref13_one.calls k1 ((rd_T53 l0 x4_1).f0) ((rd_T53 l0 x4_1).f1) ((rd_T53 l0 x4_1).f2) true _ A4.out).mono ?_); rintro e w13 ⟨rfl, hb⟩; have n0_ := aMk (below_step (aP80) hb); clear HB; have HB := n0_; clear n0_; (try clear hb); (try clear hb2); (try clear hk); (try clear hi); have p131 : 0 ≤ (x4_1 : Int) := of_decide_eq_true (aP75); have q131 : x4_1 < (l0.length : Int) := of_decide_eq_true (aP75); obtain ⟨ad131, e131, hx131_0, hx131_1, hx131_2⟩ := at_T53 HR0.out x4_1 p131 q131; obtain rfl : ad129 = ad131 := (by injection e131); replace hx131_0 := (HB.out.cell (World.block_lt_of_cell? w _ hx131_0)).trans hx131_0; replace hx131_1 := (HB.out.cell (World.block_lt_of_cell? w _ hx131_1)).trans hx131_1; replace hx131_2 := (HB.out.cell (World.block_lt_of_cell? w _ hx131_2)).trans hx131_2; replace p131 := eq_true p131; replace q131 := eq_true q131; have p132 : 0 ≤ ((ji8) : Int) := of_decide_eq_true (aP75); have q132 : (ji8) < (l0.length : Int) := of_decide_eq_true (aP75); obtain ⟨ad132, e132, hx132_0, hx132_1, hx132_2⟩ := at_T53 HR0.out (ji8) p132 q132; obtain rfl : ad129 = ad132 := (by injection e132); replace hx132_0 := (HB.out.cell (World.block_lt_of_cell? w _ hx132_0)).trans hx132_0; replace hx132_1 := (HB.out.cell (World.block_lt_of_cell? w _ hx132_1)).trans hx132_1; replace hx132_2 := (HB.out.cell (World.block_lt_of_cell? w _ hx132_2)).trans hx132_2; replace p132 := eq_true p132; replace q132 := eq_true q132; have p133 : 0 ≤ (x4_1 : Int) := of_decide_eq_true (aP75); have q133 : x4_1 < (l0.length : Int) := of_decide_eq_true (aP75); obtain ⟨ad133, e133, hx133_0, hx133_1, hx133_2⟩ := at_T53 HR0.out x4_1 p133 q133; obtain rfl : ad129 = ad133 := (by injection e133); replace hx133_0 := (HB.out.cell (World.block_lt_of_cell? w _ hx133_0)).trans hx133_0; replace hx133_1 := (HB.out.cell (World.block_lt_of_cell? w _ hx133_1)).trans hx133_1; replace hx133_2 := (HB.out.cell (World.block_lt_of_cell? w _ hx133_2)).trans hx133_2; replace p133 := eq_true p133; replace q133 := eq_true q133; have p134 : 0 ≤ (x4_1 : Int) := of_decide_eq_true (aP75); have q134 : x4_1 < (l0.length : Int) := of_decide_eq_true (aP75); obtain ⟨ad134, e134, hx134_0, hx134_1, hx134_2⟩ := at_T53 HR0.out x4_1 p134 q134; obtain rfl : ad129 = ad134 := (by injection e134); replace hx134_0 := (HB.out.cell (World.block_lt_of_cell? w _ hx134_0)).trans hx134_0; replace hx134_1 := (HB.out.cell (World.block_lt_of_cell? w _ hx134_1)).trans hx134_1; replace hx134_2 := (HB.out.cell (World.block_lt_of_cell? w _ hx134_2)).trans hx134_2; replace p134 := eq_true p134; replace q134 := eq_true q134))
           repeat (go_quiet (first | (go_at_call 79; (with_reducible refine (quipuref13_one.calls k1 ((rd_T53 l0 x4_1).f0) ((rd_T53 l0 x4_1).f1) ((rd_T53 l0 x4_1).f2) true _ A4.out).mono ?_); rintro e w13 ⟨rfl, hb⟩; have n0_ := aMk (below_step (aP80) hb); clear HB; have HB := n0_; clear n0_; (try clear hb); (try clear hb2); (try clear hk); (try clear hi); have p131 : 0 ≤ (x4_1 : Int) := of_decide_eq_true (aP75); have q131 : x4_1 < (l0.length : Int) := of_decide_eq_true (aP75); obtain ⟨ad131, e131, hx131_0, hx131_1, hx131_2⟩ := at_T53 HR0.out x4_1 p131 q131; obtain rfl : ad129 = ad131 := (by injection e131); replace hx131_0 := (HB.out.cell (World.block_lt_of_cell? w _ hx131_0)).trans hx131_0; replace hx131_1 := (HB.out.cell (World.block_lt_of_cell? w _ hx131_1)).trans hx131_1; replace hx131_2 := (HB.out.cell (World.block_lt_of_cell? w _ hx131_2)).trans hx131_2; replace p131 := eq_true p131; replace q131 := eq_true q131; have p132 : 0 ≤ ((ji8) : Int) := of_decide_eq_true (aP75); have q132 : (ji8) < (l0.length : Int) := of_decide_eq_true (aP75); obtain ⟨ad132, e132, hx132_0, hx132_1, hx132_2⟩ := at_T53 HR0.out (ji8) p132 q132; obtain rfl : ad129 = ad132 := (by injection e132); replace hx132_0 := (HB.out.cell (World.block_lt_of_cell? w _ hx132_0)).trans hx132_0; replace hx132_1 := (HB.out.cell (World.block_lt_of_cell? w _ hx132_1)).trans hx132_1; replace hx132_2 := (HB.out.cell (World.block_lt_of_cell? w _ hx132_2)).trans hx132_2; replace p132 := eq_true p132; replace q132 := eq_true q132; have p133 : 0 ≤ (x4_1 : Int) := of_decide_eq_true (aP75); have q133 : x4_1 < (l0.length : Int) := of_decide_eq_true (aP75); obtain ⟨ad133, e133, hx133_0, hx133_1, hx133_2⟩ := at_T53 HR0.out x4_1 p133 q133; obtain rfl : ad129 = ad133 := (by injection e133); replace hx133_0 := (HB.out.cell (World.block_lt_of_cell? w _ hx133_0)).trans hx133_0; replace hx133_1 := (HB.out.cell (World.block_lt_of_cell? w _ hx133_1)).trans hx133_1; replace hx133_2 := (HB.out.cell (World.block_lt_of_cell? w _ hx133_2)).trans hx133_2; replace p133 := eq_true p133; replace q133 := eq_true q133; have p134 : 0 ≤ (x4_1 : Int) := of_decide_eq_true (aP75); have q134 : x4_1 < (l0.length : Int) := of_decide_eq_true (aP75); obtain ⟨ad134, e134, hx134_0, hx134_1, hx134_2⟩ := at_T53 HR0.out x4_1 p134 q134; obtain rfl : ad129 = ad134 := (by injection e134); replace hx134_0 := (HB.out.cell (World.block_lt_of_cell? w _ hx134_0)).trans hx134_0; replace hx134_1 := (HB.out.cell (World.block_lt_of_cell? w _ hx134_1)).trans hx134_1; replace hx134_2 := (HB.out.cell (World.block_lt_of_cell? w _ hx134_2)).trans hx134_2; replace p134 := eq_true p134; replace q134 := eq_true q134)); try go_wp2_with (first | (go_at_call 79; (with_reducible refine (quipuref13_one.calls k1 ((rd_T53 l0 x4_1).f0) ((rd_T53 l0 x4_1).f1) ((rd_T53 l0 x4_1).f2) true _ A4.out).mono ?_); rintro e w13 ⟨rfl, hb⟩; have n0_ := aMk (below_step (aP80) hb); clear HB; have HB := n0_; clear n0_; (try clear hb); (try clear hb2); (try clear hk); (try clear hi); have p131 : 0 ≤ (x4_1 : Int) := of_decide_eq_true (aP75); have q131 : x4_1 < (l0.length : Int) := of_decide_eq_true (aP75); obtain ⟨ad131, e131, hx131_0, hx131_1, hx131_2⟩ := at_T53 HR0.out x4_1 p131 q131; obtain rfl : ad129 = ad131 := (by injection e131); replace hx131_0 := (HB.out.cell (World.block_lt_of_cell? w _ hx131_0)).trans hx131_0; replace hx131_1 := (HB.out.cell (World.block_lt_of_cell? w _ hx131_1)).trans hx131_1; replace hx131_2 := (HB.out.cell (World.block_lt_of_cell? w _ hx131_2)).trans hx131_2; replace p131 := eq_true p131; replace q131 := eq_true q131; have p132 : 0 ≤ ((ji8) : Int) := of_decide_eq_true (aP75); have q132 : (ji8) < (l0.length : Int) := of_decide_eq_true (aP75); obtain ⟨ad132, e132, hx132_0, hx132_1, hx132_2⟩ := at_T53 HR0.out (ji8) p132 q132; obtain rfl : ad129 = ad132 := (by injection e132); replace hx132_0 := (HB.out.cell (World.block_lt_of_cell? w _ hx132_0)).trans hx132_0; replace hx132_1 := (HB.out.cell (World.block_lt_of_cell? w _ hx132_1)).trans hx132_1; replace hx132_2 := (HB.out.cell (World.block_lt_of_cell? w _ hx132_2)).trans hx132_2; replace p132 := eq_true p132; replace q132 := eq_true q132; have p133 : 0 ≤ (x4_1 : Int) := of_decide_eq_true (aP75); have q133 : x4_1 < (l0.length : Int) := of_decide_eq_true (aP75); obtain ⟨ad133, e133, hx133_0, hx133_1, hx133_2⟩ := at_T53 HR0.out x4_1 p133 q133; obtain rfl : ad129 = ad133 := (by injection e133); replace hx133_0 := (HB.out.cell (World.block_lt_of_cell? w _ hx133_0)).trans hx133_0; replace hx133_1 := (HB.out.cell (World.block_lt_of_cell? w _ hx133_1)).trans hx133_1; replace hx133_2 := (HB.out.cell (World.block_lt_of_cell? w _ hx133_2)).trans hx133_2; replace p133 := eq_true p133; replace q133 := eq_true q133; have p134 : 0 ≤ (x4_1 : Int) := of_decide_eq_true (aP75); have q134 : x4_1 < (l0.length : Int) := of_decide_eq_true (aP75); obtain ⟨ad134, e134, hx134_0, hx134_1, hx134_2⟩ := at_T53 HR0.out x4_1 p134 q134; obtain rfl : ad129 = ad134 := (by injection e134); replace hx134_0 := (HB.out.cell (World.block_lt_of_cell? w _ hx134_0)).trans hx134_0; replace hx134_1 := (HB.out.cell (World.block_lt_of_cell? w _ hx134_1)).trans hx134_1; replace hx134_2 := (HB.out.cell (World.block_lt_of_cell? w _ hx134_2)).trans hx134_2; replace p134 := eq_true p134; replace q134 := eq_true q134)))
           exact aP43
         ·rw [if_neg c10] at H
          exact absurd H (by simp)
        ·rw [if_neg c9] at H
         exact absurd H (by simp)
       ·rw [if_neg c7] at H
        have c7b0 : (((rd_T53 l0 x4_1).f0) == 0) = false := beF c7
        have c7b1 : (((rd_T53 l0 x4_1).f0) != 0) = true := bnT c7
        by_cases c14 : ((rd_T53 l0 x4_1).f0) = 5
        ·rw [if_pos c14] at H
         have c14b0 : (((rd_T53 l0 x4_1).f0) == 5) = true := beT c14
         have c14b1 : (((rd_T53 l0 x4_1).f0) != 5) = false := bnF c14
         clear c14
         obtain ⟨ji15, hji15⟩ : ∃ j_ : Int, (wrap64 (x4_1 - 1)) = j_ := ⟨_, rfl⟩
         replace H : (if 0 ≤ (ji15) then (if (ji15) < (l0.length : Int) then (if ((rd_T53 l0 (ji15)).f0) = ((rd_T53 l0 x4_1).f0) then (some 131) else (quipuref13_Check.l0 k1 l0 (wrap64 (x3_1 + (((rd_T53 l0 x4_1).f2).size : Int))) (wrap64 (x4_1 + 1)))) else (none)) else (none)) = some r := by first | (rw [hji15] at H; exact H) | (simp only [hji15] at H ⊢; exact H)
         (try rw [hji15] at A4)
         have hji15w : (IntKind.i64.wrap (x4_1 - 1)) = ji15 := (i64_w _).trans hji15
         by_cases c16 : 0 ≤ (ji15)
         ·rw [if_pos c16] at H
          have c16b0 : decide (0 ≤ (ji15)) = true := dTr c16
          clear c16
          by_cases c17 : (ji15) < (l0.length : Int)
          ·rw [if_pos c17] at H
           have c17b0 : decide ((ji15) < (l0.length : Int)) = true := dTr c17
           clear c17
           by_cases c18 : ((rd_T53 l0 (ji15)).f0) = ((rd_T53 l0 x4_1).f0)
           ·rw [if_pos c18] at H
            have c18b0 : (((rd_T53 l0 (ji15)).f0) == ((rd_T53 l0 x4_1).f0)) = true := beT c18
            have c18b1 : (((rd_T53 l0 (ji15)).f0) != ((rd_T53 l0 x4_1).f0)) = false := bnF c18
            clear c18
            obtain rfl := Option.some.inj H
            have p129 : 0 ≤ (x4_1 : Int) := of_decide_eq_true (aP75)
            have q129 : x4_1 < (l0.length : Int) := of_decide_eq_true (aP75)
            obtain ⟨ad129, e129, hx129_0, hx129_1, hx129_2⟩ := at_T53 HR0.out x4_1 p129 q129
            cases e129
            replace hx129_0 := (HB.out.cell (World.block_lt_of_cell? w _ hx129_0)).trans hx129_0
            replace hx129_1 := (HB.out.cell (World.block_lt_of_cell? w _ hx129_1)).trans hx129_1
            replace hx129_2 := (HB.out.cell (World.block_lt_of_cell? w _ hx129_2)).trans hx129_2
            replace p129 := eq_true p129
            replace q129 := eq_true q129
            go_wp2_with (first | (go_at_call 79; (with_reducible refine (quipuref13_one.calls k1 ((rd_T53 l0 x4_1).f0) ((rd_T53 l0 x4_1).f1) ((rd_T53 l0 x4_1).f2) true _ A4.out).mono ?_); rintro e w19 ⟨rfl, hb⟩; have n0_ := aMk (below_step (aP80) hb); clear HB; have HB := n0_; clear n0_; (try clear hb); (try clear hb2); (try clear hk); (try clear hi); have p131 : 0 ≤ (x4_1 : Int) := of_decide_eq_true (aP75); have q131 : x4_1 < (l0.length : Int) := of_decide_eq_true (aP75); obtain ⟨ad131, e131, hx131_0, hx131_1, hx131_2⟩ := at_T53 HR0.out x4_1 p131 q131; obtain rfl : ad129 = ad131 := (by injection e131); replace hx131_0 := (HB.out.cell (World.block_lt_of_cell? w _ hx131_0)).trans hx131_0; replace hx131_1 := (HB.out.cell (World.block_lt_of_cell? w _ hx131_1)).trans hx131_1; replace hx131_2 := (HB.out.cell (World.block_lt_of_cell? w _ hx131_2)).trans hx131_2; replace p131 := eq_true p131; replace q131 := eq_true q131; have p135 : 0 ≤ (x4_1 : Int) := of_decide_eq_true (aP75); have q135 : x4_1 < (l0.length : Int) := of_decide_eq_true (aP75); obtain ⟨ad135, e135, hx135_0, hx135_1, hx135_2⟩ := at_T53 HR0.out x4_1 p135 q135; obtain rfl : ad129 = ad135 := (by injection e135); replace hx135_0 := (HB.out.cell (World.block_lt_of_cell? w _ hx135_0)).trans hx135_0; replace hx135_1 := (HB.out.cell (World.block_lt_of_cell? w _ hx135_1)).trans hx135_1; replace hx135_2 := (HB.out.cell (World.block_lt_of_cell? w _ hx135_2)).trans hx135_2; replace p135 := eq_true p135; replace q135 := eq_true q135; have p136 : 0 ≤ ((ji15) : Int) := of_decide_eq_true (aP75); have q136 : (ji15) < (l0.length : Int) := of_decide_eq_true (aP75); obtain ⟨ad136, e136, hx136_0, hx136_1, hx136_2⟩ := at_T53 HR0.out (ji15) p136 q136; obtain rfl : ad129 = ad136 := (by injection e136); replace hx136_0 := (HB.out.cell (World.block_lt_of_cell? w _ hx136_0)).trans hx136_0; replace hx136_1 := (HB.out.cell (World.block_lt_of_cell? w _ hx136_1)).trans hx136_1; replace hx136_2 := (HB.out.cell (World.block_lt_of_cell? w _ hx136_2)).trans hx136_2; replace p136 := eq_true p136; replace q136 := eq_true q136; have p137 : 0 ≤ (x4_1 : Int) := of_decide_eq_true (aP75); have q137 : x4_1 < (l0.length : Int) := of_decide_eq_true (aP75); obtain ⟨ad137, e137, hx137_0, hx137_1, hx137_2⟩ := at_T53 HR0.out x4_1 p137 q137; obtain rfl : ad129 = ad137 := (by injection e137); replace hx137_0 := (HB.out.cell (World.block_lt_of_cell? w _ hx137_0)).trans hx137_0; replace hx137_1 := (HB.out.cell (World.block_lt_of_cell? w _ hx137_1)).trans hx137_1; replace hx137_2 := (HB.out.cell (World.block_lt_of_cell? w _ hx137_2)).trans hx137_2; replace p137 := eq_true p137; replace q137 := eq_true q137))
            repeat (go_quiet (first | (go_at_call 79; (with_reducible refine (quipuref13_one.calls k1 ((rd_T53 l0 x4_1).f0) ((rd_T53 l0 x4_1).f1) ((rd_T53 l0 x4_1).f2) true _ A4.out).mono ?_); rintro e w19 ⟨rfl, hb⟩; have n0_ := aMk (below_step (aP80) hb); clear HB; have HB := n0_; clear n0_; (try clear hb); (try clear hb2); (try clear hk); (try clear hi); have p131 : 0 ≤ (x4_1 : Int) := of_decide_eq_true (aP75); have q131 : x4_1 < (l0.length : Int) := of_decide_eq_true (aP75); obtain ⟨ad131, e131, hx131_0, hx131_1, hx131_2⟩ := at_T53 HR0.out x4_1 p131 q131; obtain rfl : ad129 = ad131 := (by injection e131); replace hx131_0 := (HB.out.cell (World.block_lt_of_cell? w _ hx131_0)).trans hx131_0; replace hx131_1 := (HB.out.cell (World.block_lt_of_cell? w _ hx131_1)).trans hx131_1; replace hx131_2 := (HB.out.cell (World.block_lt_of_cell? w _ hx131_2)).trans hx131_2; replace p131 := eq_true p131; replace q131 := eq_true q131; have p135 : 0 ≤ (x4_1 : Int) := of_decide_eq_true (aP75); have q135 : x4_1 < (l0.length : Int) := of_decide_eq_true (aP75); obtain ⟨ad135, e135, hx135_0, hx135_1, hx135_2⟩ := at_T53 HR0.out x4_1 p135 q135; obtain rfl : ad129 = ad135 := (by injection e135); replace hx135_0 := (HB.out.cell (World.block_lt_of_cell? w _ hx135_0)).trans hx135_0; replace hx135_1 := (HB.out.cell (World.block_lt_of_cell? w _ hx135_1)).trans hx135_1; replace hx135_2 := (HB.out.cell (World.block_lt_of_cell? w _ hx135_2)).trans hx135_2; replace p135 := eq_true p135; replace q135 := eq_true q135; have p136 : 0 ≤ ((ji15) : Int) := of_decide_eq_true (aP75); have q136 : (ji15) < (l0.length : Int) := of_decide_eq_true (aP75); obtain ⟨ad136, e136, hx136_0, hx136_1, hx136_2⟩ := at_T53 HR0.out (ji15) p136 q136; obtain rfl : ad129 = ad136 := (by injection e136); replace hx136_0 := (HB.out.cell (World.block_lt_of_cell? w _ hx136_0)).trans hx136_0; replace hx136_1 := (HB.out.cell (World.block_lt_of_cell? w _ hx136_1)).trans hx136_1; replace hx136_2 := (HB.out.cell (World.block_lt_of_cell? w _ hx136_2)).trans hx136_2; replace p136 := eq_true p136; replace q136 := eq_true q136; have p137 : 0 ≤ (x4_1 : Int) := of_decide_eq_true (aP75); have q137 : x4_1 < (l0.length : Int) := of_decide_eq_true (aP75); obtain ⟨ad137, e137, hx137_0, hx137_1, hx137_2⟩ := at_T53 HR0.out x4_1 p137 q137; obtain rfl : ad129 = ad137 := (by injection e137); replace hx137_0 := (HB.out.cell (World.block_lt_of_cell? w _ hx137_0)).trans hx137_0; replace hx137_1 := (HB.out.cell (World.block_lt_of_cell? w _ hx137_1)).trans hx137_1; replace hx137_2 := (HB.out.cell (World.block_lt_of_cell? w _ hx137_2)).trans hx137_2; replace p137 := eq_true p137; replace q137 := eq_true q137)); try go_wp2_with (first | (go_at_call 79; (with_reducible refine (quipuref13_one.calls k1 ((rd_T53 l0 x4_1).f0) ((rd_T53 l0 x4_1).f1) ((rd_T53 l0 x4_1).f2) true _ A4.out).mono ?_); rintro e w19 ⟨rfl, hb⟩; have n0_ := aMk (below_step (aP80) hb); clear HB; have HB := n0_; clear n0_; (try clear hb); (try clear hb2); (try clear hk); (try clear hi); have p131 : 0 ≤ (x4_1 : Int) := of_decide_eq_true (aP75); have q131 : x4_1 < (l0.length : Int) := of_decide_eq_true (aP75); obtain ⟨ad131, e131, hx131_0, hx131_1, hx131_2⟩ := at_T53 HR0.out x4_1 p131 q131; obtain rfl : ad129 = ad131 := (by injection e131); replace hx131_0 := (HB.out.cell (World.block_lt_of_cell? w _ hx131_0)).trans hx131_0; replace hx131_1 := (HB.out.cell (World.block_lt_of_cell? w _ hx131_1)).trans hx131_1; replace hx131_2 := (HB.out.cell (World.block_lt_of_cell? w _ hx131_2)).trans hx131_2; replace p131 := eq_true p131; replace q131 := eq_true q131; have p135 : 0 ≤ (x4_1 : Int) := of_decide_eq_true (aP75); have q135 : x4_1 < (l0.length : Int) := of_decide_eq_true (aP75); obtain ⟨ad135, e135, hx135_0, hx135_1, hx135_2⟩ := at_T53 HR0.out x4_1 p135 q135; obtain rfl : ad129 = ad135 := (by injection e135); replace hx135_0 := (HB.out.cell (World.block_lt_of_cell? w _ hx135_0)).trans hx135_0; replace hx135_1 := (HB.out.cell (World.block_lt_of_cell? w _ hx135_1)).trans hx135_1; replace hx135_2 := (HB.out.cell (World.block_lt_of_cell? w _ hx135_2)).trans hx135_2; replace p135 := eq_true p135; replace q135 := eq_true q135; have p136 : 0 ≤ ((ji15) : Int) := of_decide_eq_true (aP75); have q136 : (ji15) < (l0.length : Int) := of_decide_eq_true (aP75); obtain ⟨ad136, e136, hx136_0, hx136_1, hx136_2⟩ := at_T53 HR0.out (ji15) p136 q136; obtain rfl : ad129 = ad136 := (by injection e136); replace hx136_0 := (HB.out.cell (World.block_lt_of_cell? w _ hx136_0)).trans hx136_0; replace hx136_1 := (HB.out.cell (World.block_lt_of_cell? w _ hx136_1)).trans hx136_1; replace hx136_2 := (HB.out.cell (World.block_lt_of_cell? w _ hx136_2)).trans hx136_2; replace p136 := eq_true p136; replace q136 := eq_true q136; have p137 : 0 ≤ (x4_1 : Int) := of_decide_eq_true (aP75); have q137 : x4_1 < (l0.length : Int) := of_decide_eq_true (aP75); obtain ⟨ad137, e137, hx137_0, hx137_1, hx137_2⟩ := at_T53 HR0.out x4_1 p137 q137; obtain rfl : ad129 = ad137 := (by injection e137); replace hx137_0 := (HB.out.cell (World.block_lt_of_cell? w _ hx137_0)).trans hx137_0; replace hx137_1 := (HB.out.cell (World.block_lt_of_cell? w _ hx137_1)).trans hx137_1; replace hx137_2 := (HB.out.cell (World.block_lt_of_cell? w _ hx137_2)).trans hx137_2; replace p137 := eq_true p137; replace q137 := eq_true q137)))
            go_ret
            exact ⟨by first | rfl | (simp [errW_none, errW_some] <;> rfl) | (simp only [← hji15]; first | rfl | (simp [errW_none, errW_some] <;> rfl)) | (simp [*, errW_none, errW_some] <;> rfl), aP80⟩
           ·rw [if_neg c18] at H
            have c18b0 : (((rd_T53 l0 (ji15)).f0) == ((rd_T53 l0 x4_1).f0)) = false := beF c18
            have c18b1 : (((rd_T53 l0 (ji15)).f0) != ((rd_T53 l0 x4_1).f0)) = true := bnT c18
            have H' := aMk H
            clear H
            have p129 : 0 ≤ (x4_1 : Int) := of_decide_eq_true (aP75)
            have q129 : x4_1 < (l0.length : Int) := of_decide_eq_true (aP75)
            obtain ⟨ad129, e129, hx129_0, hx129_1, hx129_2⟩ := at_T53 HR0.out x4_1 p129 q129
            cases e129
            replace hx129_0 := (HB.out.cell (World.block_lt_of_cell? w _ hx129_0)).trans hx129_0
            replace hx129_1 := (HB.out.cell (World.block_lt_of_cell? w _ hx129_1)).trans hx129_1
            replace hx129_2 := (HB.out.cell (World.block_lt_of_cell? w _ hx129_2)).trans hx129_2
            replace p129 := eq_true p129
            replace q129 := eq_true q129
            go_wp2_with (first | (go_at_call 79; (with_reducible refine (quipuref13_one.calls k1 ((rd_T53 l0 x4_1).f0) ((rd_T53 l0 x4_1).f1) ((rd_T53 l0 x4_1).f2) true _ A4.out).mono ?_); rintro e w20 ⟨rfl, hb⟩; have n0_ := aMk (below_step (aP80) hb); clear HB; have HB := n0_; clear n0_; (try clear hb); (try clear hb2); (try clear hk); (try clear hi); have p131 : 0 ≤ (x4_1 : Int) := of_decide_eq_true (aP75); have q131 : x4_1 < (l0.length : Int) := of_decide_eq_true (aP75); obtain ⟨ad131, e131, hx131_0, hx131_1, hx131_2⟩ := at_T53 HR0.out x4_1 p131 q131; obtain rfl : ad129 = ad131 := (by injection e131); replace hx131_0 := (HB.out.cell (World.block_lt_of_cell? w _ hx131_0)).trans hx131_0; replace hx131_1 := (HB.out.cell (World.block_lt_of_cell? w _ hx131_1)).trans hx131_1; replace hx131_2 := (HB.out.cell (World.block_lt_of_cell? w _ hx131_2)).trans hx131_2; replace p131 := eq_true p131; replace q131 := eq_true q131; have p135 : 0 ≤ (x4_1 : Int) := of_decide_eq_true (aP75); have q135 : x4_1 < (l0.length : Int) := of_decide_eq_true (aP75); obtain ⟨ad135, e135, hx135_0, hx135_1, hx135_2⟩ := at_T53 HR0.out x4_1 p135 q135; obtain rfl : ad129 = ad135 := (by injection e135); replace hx135_0 := (HB.out.cell (World.block_lt_of_cell? w _ hx135_0)).trans hx135_0; replace hx135_1 := (HB.out.cell (World.block_lt_of_cell? w _ hx135_1)).trans hx135_1; replace hx135_2 := (HB.out.cell (World.block_lt_of_cell? w _ hx135_2)).trans hx135_2; replace p135 := eq_true p135; replace q135 := eq_true q135; have p136 : 0 ≤ ((ji15) : Int) := of_decide_eq_true (aP75); have q136 : (ji15) < (l0.length : Int) := of_decide_eq_true (aP75); obtain ⟨ad136, e136, hx136_0, hx136_1, hx136_2⟩ := at_T53 HR0.out (ji15) p136 q136; obtain rfl : ad129 = ad136 := (by injection e136); replace hx136_0 := (HB.out.cell (World.block_lt_of_cell? w _ hx136_0)).trans hx136_0; replace hx136_1 := (HB.out.cell (World.block_lt_of_cell? w _ hx136_1)).trans hx136_1; replace hx136_2 := (HB.out.cell (World.block_lt_of_cell? w _ hx136_2)).trans hx136_2; replace p136 := eq_true p136; replace q136 := eq_true q136; have p137 : 0 ≤ (x4_1 : Int) := of_decide_eq_true (aP75); have q137 : x4_1 < (l0.length : Int) := of_decide_eq_true (aP75); obtain ⟨ad137, e137, hx137_0, hx137_1, hx137_2⟩ := at_T53 HR0.out x4_1 p137 q137; obtain rfl : ad129 = ad137 := (by injection e137); replace hx137_0 := (HB.out.cell (World.block_lt_of_cell? w _ hx137_0)).trans hx137_0; replace hx137_1 := (HB.out.cell (World.block_lt_of_cell? w _ hx137_1)).trans hx137_1; replace hx137_2 := (HB.out.cell (World.block_lt_of_cell? w _ hx137_2)).trans hx137_2; replace p137 := eq_true p137; replace q137 := eq_true q137; have p138 : 0 ≤ (x4_1 : Int) := of_decide_eq_true (aP75); have q138 : x4_1 < (l0.length : Int) := of_decide_eq_true (aP75); obtain ⟨ad138, e138, hx138_0, hx138_1, hx138_2⟩ := at_T53 HR0.out x4_1 p138 q138; obtain rfl : ad129 = ad138 := (by injection e138); replace hx138_0 := (HB.out.cell (World.block_lt_of_cell? w _ hx138_0)).trans hx138_0; replace hx138_1 := (HB.out.cell (World.block_lt_of_cell? w _ hx138_1)).trans hx138_1; replace hx138_2 := (HB.out.cell (World.block_lt_of_cell? w _ hx138_2)).trans hx138_2; replace p138 := eq_true p138; replace q138 := eq_true q138))
            repeat (go_quiet (first | (go_at_call 79; (with_reducible refine (quipuref13_one.calls k1 ((rd_T53 l0 x4_1).f0) ((rd_T53 l0 x4_1).f1) ((rd_T53 l0 x4_1).f2) true _ A4.out).mono ?_); rintro e w20 ⟨rfl, hb⟩; have n0_ := aMk (below_step (aP80) hb); clear HB; have HB := n0_; clear n0_; (try clear hb); (try clear hb2); (try clear hk); (try clear hi); have p131 : 0 ≤ (x4_1 : Int) := of_decide_eq_true (aP75); have q131 : x4_1 < (l0.length : Int) := of_decide_eq_true (aP75); obtain ⟨ad131, e131, hx131_0, hx131_1, hx131_2⟩ := at_T53 HR0.out x4_1 p131 q131; obtain rfl : ad129 = ad131 := (by injection e131); replace hx131_0 := (HB.out.cell (World.block_lt_of_cell? w _ hx131_0)).trans hx131_0; replace hx131_1 := (HB.out.cell (World.block_lt_of_cell? w _ hx131_1)).trans hx131_1; replace hx131_2 := (HB.out.cell (World.block_lt_of_cell? w _ hx131_2)).trans hx131_2; replace p131 := eq_true p131; replace q131 := eq_true q131; have p135 : 0 ≤ (x4_1 : Int) := of_decide_eq_true (aP75); have q135 : x4_1 < (l0.length : Int) := of_decide_eq_true (aP75); obtain ⟨ad135, e135, hx135_0, hx135_1, hx135_2⟩ := at_T53 HR0.out x4_1 p135 q135; obtain rfl : ad129 = ad135 := (by injection e135); replace hx135_0 := (HB.out.cell (World.block_lt_of_cell? w _ hx135_0)).trans hx135_0; replace hx135_1 := (HB.out.cell (World.block_lt_of_cell? w _ hx135_1)).trans hx135_1; replace hx135_2 := (HB.out.cell (World.block_lt_of_cell? w _ hx135_2)).trans hx135_2; replace p135 := eq_true p135; replace q135 := eq_true q135; have p136 : 0 ≤ ((ji15) : Int) := of_decide_eq_true (aP75); have q136 : (ji15) < (l0.length : Int) := of_decide_eq_true (aP75); obtain ⟨ad136, e136, hx136_0, hx136_1, hx136_2⟩ := at_T53 HR0.out (ji15) p136 q136; obtain rfl : ad129 = ad136 := (by injection e136); replace hx136_0 := (HB.out.cell (World.block_lt_of_cell? w _ hx136_0)).trans hx136_0; replace hx136_1 := (HB.out.cell (World.block_lt_of_cell? w _ hx136_1)).trans hx136_1; replace hx136_2 := (HB.out.cell (World.block_lt_of_cell? w _ hx136_2)).trans hx136_2; replace p136 := eq_true p136; replace q136 := eq_true q136; have p137 : 0 ≤ (x4_1 : Int) := of_decide_eq_true (aP75); have q137 : x4_1 < (l0.length : Int) := of_decide_eq_true (aP75); obtain ⟨ad137, e137, hx137_0, hx137_1, hx137_2⟩ := at_T53 HR0.out x4_1 p137 q137; obtain rfl : ad129 = ad137 := (by injection e137); replace hx137_0 := (HB.out.cell (World.block_lt_of_cell? w _ hx137_0)).trans hx137_0; replace hx137_1 := (HB.out.cell (World.block_lt_of_cell? w _ hx137_1)).trans hx137_1; replace hx137_2 := (HB.out.cell (World.block_lt_of_cell? w _ hx137_2)).trans hx137_2; replace p137 := eq_true p137; replace q137 := eq_true q137; have p138 : 0 ≤ (x4_1 : Int) := of_decide_eq_true (aP75); have q138 : x4_1 < (l0.length : Int) := of_decide_eq_true (aP75); obtain ⟨ad138, e138, hx138_0, hx138_1, hx138_2⟩ := at_T53 HR0.out x4_1 p138 q138; obtain rfl : ad129 = ad138 := (by injection e138); replace hx138_0 := (HB.out.cell (World.block_lt_of_cell? w _ hx138_0)).trans hx138_0; replace hx138_1 := (HB.out.cell (World.block_lt_of_cell? w _ hx138_1)).trans hx138_1; replace hx138_2 := (HB.out.cell (World.block_lt_of_cell? w _ hx138_2)).trans hx138_2; replace p138 := eq_true p138; replace q138 := eq_true q138)); try go_wp2_with (first | (go_at_call 79; (with_reducible refine (quipuref13_one.calls k1 ((rd_T53 l0 x4_1).f0) ((rd_T53 l0 x4_1).f1) ((rd_T53 l0 x4_1).f2) true _ A4.out).mono ?_); rintro e w20 ⟨rfl, hb⟩; have n0_ := aMk (below_step (aP80) hb); clear HB; have HB := n0_; clear n0_; (try clear hb); (try clear hb2); (try clear hk); (try clear hi); have p131 : 0 ≤ (x4_1 : Int) := of_decide_eq_true (aP75); have q131 : x4_1 < (l0.length : Int) := of_decide_eq_true (aP75); obtain ⟨ad131, e131, hx131_0, hx131_1, hx131_2⟩ := at_T53 HR0.out x4_1 p131 q131; obtain rfl : ad129 = ad131 := (by injection e131); replace hx131_0 := (HB.out.cell (World.block_lt_of_cell? w _ hx131_0)).trans hx131_0; replace hx131_1 := (HB.out.cell (World.block_lt_of_cell? w _ hx131_1)).trans hx131_1; replace hx131_2 := (HB.out.cell (World.block_lt_of_cell? w _ hx131_2)).trans hx131_2; replace p131 := eq_true p131; replace q131 := eq_true q131; have p135 : 0 ≤ (x4_1 : Int) := of_decide_eq_true (aP75); have q135 : x4_1 < (l0.length : Int) := of_decide_eq_true (aP75); obtain ⟨ad135, e135, hx135_0, hx135_1, hx135_2⟩ := at_T53 HR0.out x4_1 p135 q135; obtain rfl : ad129 = ad135 := (by injection e135); replace hx135_0 := (HB.out.cell (World.block_lt_of_cell? w _ hx135_0)).trans hx135_0; replace hx135_1 := (HB.out.cell (World.block_lt_of_cell? w _ hx135_1)).trans hx135_1; replace hx135_2 := (HB.out.cell (World.block_lt_of_cell? w _ hx135_2)).trans hx135_2; replace p135 := eq_true p135; replace q135 := eq_true q135; have p136 : 0 ≤ ((ji15) : Int) := of_decide_eq_true (aP75); have q136 : (ji15) < (l0.length : Int) := of_decide_eq_true (aP75); obtain ⟨ad136, e136, hx136_0, hx136_1, hx136_2⟩ := at_T53 HR0.out (ji15) p136 q136; obtain rfl : ad129 = ad136 := (by injection e136); replace hx136_0 := (HB.out.cell (World.block_lt_of_cell? w _ hx136_0)).trans hx136_0; replace hx136_1 := (HB.out.cell (World.block_lt_of_cell? w _ hx136_1)).trans hx136_1; replace hx136_2 := (HB.out.cell (World.block_lt_of_cell? w _ hx136_2)).trans hx136_2; replace p136 := eq_true p136; replace q136 := eq_true q136; have p137 : 0 ≤ (x4_1 : Int) := of_decide_eq_true (aP75); have q137 : x4_1 < (l0.length : Int) := of_decide_eq_true (aP75); obtain ⟨ad137, e137, hx137_0, hx137_1, hx137_2⟩ := at_T53 HR0.out x4_1 p137 q137; obtain rfl : ad129 = ad137 := (by injection e137); replace hx137_0 := (HB.out.cell (World.block_lt_of_cell? w _ hx137_0)).trans hx137_0; replace hx137_1 := (HB.out.cell (World.block_lt_of_cell? w _ hx137_1)).trans hx137_1; replace hx137_2 := (HB.out.cell (World.block_lt_of_cell? w _ hx137_2)).trans hx137_2; replace p137 := eq_true p137; replace q137 := eq_true q137; have p138 : 0 ≤ (x4_1 : Int) := of_decide_eq_true (aP75); have q138 : x4_1 < (l0.length : Int) := of_decide_eq_true (aP75); obtain ⟨ad138, e138, hx138_0, hx138_1, hx138_2⟩ := at_T53 HR0.out x4_1 p138 q138; obtain rfl : ad129 = ad138 := (by injection e138); replace hx138_0 := (HB.out.cell (World.block_lt_of_cell? w _ hx138_0)).trans hx138_0; replace hx138_1 := (HB.out.cell (World.block_lt_of_cell? w _ hx138_1)).trans hx138_1; replace hx138_2 := (HB.out.cell (World.block_lt_of_cell? w _ hx138_2)).trans hx138_2; replace p138 := eq_true p138; replace q138 := eq_true q138)))
            exact aP43
          ·rw [if_neg c17] at H
           exact absurd H (by simp)
         ·rw [if_neg c16] at H
          exact absurd H (by simp)
        ·rw [if_neg c14] at H
         have c14b0 : (((rd_T53 l0 x4_1).f0) == 5) = false := beF c14
         have c14b1 : (((rd_T53 l0 x4_1).f0) != 5) = true := bnT c14
         have H' := aMk H
         clear H
         have p129 : 0 ≤ (x4_1 : Int) := of_decide_eq_true (aP75)
         have q129 : x4_1 < (l0.length : Int) := of_decide_eq_true (aP75)
         obtain ⟨ad129, e129, hx129_0, hx129_1, hx129_2⟩ := at_T53 HR0.out x4_1 p129 q129
         cases e129
         replace hx129_0 := (HB.out.cell (World.block_lt_of_cell? w _ hx129_0)).trans hx129_0
         replace hx129_1 := (HB.out.cell (World.block_lt_of_cell? w _ hx129_1)).trans hx129_1
         replace hx129_2 := (HB.out.cell (World.block_lt_of_cell? w _ hx129_2)).trans hx129_2
         replace p129 := eq_true p129
         replace q129 := eq_true q129
         go_wp2_with (first | (go_at_call 79; (with_reducible refine (quipuref13_one.calls k1 ((rd_T53 l0 x4_1).f0) ((rd_T53 l0 x4_1).f1) ((rd_T53 l0 x4_1).f2) true _ A4.out).mono ?_); rintro e w21 ⟨rfl, hb⟩; have n0_ := aMk (below_step (aP80) hb); clear HB; have HB := n0_; clear n0_; (try clear hb); (try clear hb2); (try clear hk); (try clear hi); have p131 : 0 ≤ (x4_1 : Int) := of_decide_eq_true (aP75); have q131 : x4_1 < (l0.length : Int) := of_decide_eq_true (aP75); obtain ⟨ad131, e131, hx131_0, hx131_1, hx131_2⟩ := at_T53 HR0.out x4_1 p131 q131; obtain rfl : ad129 = ad131 := (by injection e131); replace hx131_0 := (HB.out.cell (World.block_lt_of_cell? w _ hx131_0)).trans hx131_0; replace hx131_1 := (HB.out.cell (World.block_lt_of_cell? w _ hx131_1)).trans hx131_1; replace hx131_2 := (HB.out.cell (World.block_lt_of_cell? w _ hx131_2)).trans hx131_2; replace p131 := eq_true p131; replace q131 := eq_true q131; have p135 : 0 ≤ (x4_1 : Int) := of_decide_eq_true (aP75); have q135 : x4_1 < (l0.length : Int) := of_decide_eq_true (aP75); obtain ⟨ad135, e135, hx135_0, hx135_1, hx135_2⟩ := at_T53 HR0.out x4_1 p135 q135; obtain rfl : ad129 = ad135 := (by injection e135); replace hx135_0 := (HB.out.cell (World.block_lt_of_cell? w _ hx135_0)).trans hx135_0; replace hx135_1 := (HB.out.cell (World.block_lt_of_cell? w _ hx135_1)).trans hx135_1; replace hx135_2 := (HB.out.cell (World.block_lt_of_cell? w _ hx135_2)).trans hx135_2; replace p135 := eq_true p135; replace q135 := eq_true q135; have p139 : 0 ≤ (x4_1 : Int) := of_decide_eq_true (aP75); have q139 : x4_1 < (l0.length : Int) := of_decide_eq_true (aP75); obtain ⟨ad139, e139, hx139_0, hx139_1, hx139_2⟩ := at_T53 HR0.out x4_1 p139 q139; obtain rfl : ad129 = ad139 := (by injection e139); replace hx139_0 := (HB.out.cell (World.block_lt_of_cell? w _ hx139_0)).trans hx139_0; replace hx139_1 := (HB.out.cell (World.block_lt_of_cell? w _ hx139_1)).trans hx139_1; replace hx139_2 := (HB.out.cell (World.block_lt_of_cell? w _ hx139_2)).trans hx139_2; replace p139 := eq_true p139; replace q139 := eq_true q139))
         repeat (go_quiet (first | (go_at_call 79; (with_reducible refine (quipuref13_one.calls k1 ((rd_T53 l0 x4_1).f0) ((rd_T53 l0 x4_1).f1) ((rd_T53 l0 x4_1).f2) true _ A4.out).mono ?_); rintro e w21 ⟨rfl, hb⟩; have n0_ := aMk (below_step (aP80) hb); clear HB; have HB := n0_; clear n0_; (try clear hb); (try clear hb2); (try clear hk); (try clear hi); have p131 : 0 ≤ (x4_1 : Int) := of_decide_eq_true (aP75); have q131 : x4_1 < (l0.length : Int) := of_decide_eq_true (aP75); obtain ⟨ad131, e131, hx131_0, hx131_1, hx131_2⟩ := at_T53 HR0.out x4_1 p131 q131; obtain rfl : ad129 = ad131 := (by injection e131); replace hx131_0 := (HB.out.cell (World.block_lt_of_cell? w _ hx131_0)).trans hx131_0; replace hx131_1 := (HB.out.cell (World.block_lt_of_cell? w _ hx131_1)).trans hx131_1; replace hx131_2 := (HB.out.cell (World.block_lt_of_cell? w _ hx131_2)).trans hx131_2; replace p131 := eq_true p131; replace q131 := eq_true q131; have p135 : 0 ≤ (x4_1 : Int) := of_decide_eq_true (aP75); have q135 : x4_1 < (l0.length : Int) := of_decide_eq_true (aP75); obtain ⟨ad135, e135, hx135_0, hx135_1, hx135_2⟩ := at_T53 HR0.out x4_1 p135 q135; obtain rfl : ad129 = ad135 := (by injection e135); replace hx135_0 := (HB.out.cell (World.block_lt_of_cell? w _ hx135_0)).trans hx135_0; replace hx135_1 := (HB.out.cell (World.block_lt_of_cell? w _ hx135_1)).trans hx135_1; replace hx135_2 := (HB.out.cell (World.block_lt_of_cell? w _ hx135_2)).trans hx135_2; replace p135 := eq_true p135; replace q135 := eq_true q135; have p139 : 0 ≤ (x4_1 : Int) := of_decide_eq_true (aP75); have q139 : x4_1 < (l0.length : Int) := of_decide_eq_true (aP75); obtain ⟨ad139, e139, hx139_0, hx139_1, hx139_2⟩ := at_T53 HR0.out x4_1 p139 q139; obtain rfl : ad129 = ad139 := (by injection e139); replace hx139_0 := (HB.out.cell (World.block_lt_of_cell? w _ hx139_0)).trans hx139_0; replace hx139_1 := (HB.out.cell (World.block_lt_of_cell? w _ hx139_1)).trans hx139_1; replace hx139_2 := (HB.out.cell (World.block_lt_of_cell? w _ hx139_2)).trans hx139_2; replace p139 := eq_true p139; replace q139 := eq_true q139)); try go_wp2_with (first | (go_at_call 79; (with_reducible refine (quipuref13_one.calls k1 ((rd_T53 l0 x4_1).f0) ((rd_T53 l0 x4_1).f1) ((rd_T53 l0 x4_1).f2) true _ A4.out).mono ?_); rintro e w21 ⟨rfl, hb⟩; have n0_ := aMk (below_step (aP80) hb); clear HB; have HB := n0_; clear n0_; (try clear hb); (try clear hb2); (try clear hk); (try clear hi); have p131 : 0 ≤ (x4_1 : Int) := of_decide_eq_true (aP75); have q131 : x4_1 < (l0.length : Int) := of_decide_eq_true (aP75); obtain ⟨ad131, e131, hx131_0, hx131_1, hx131_2⟩ := at_T53 HR0.out x4_1 p131 q131; obtain rfl : ad129 = ad131 := (by injection e131); replace hx131_0 := (HB.out.cell (World.block_lt_of_cell? w _ hx131_0)).trans hx131_0; replace hx131_1 := (HB.out.cell (World.block_lt_of_cell? w _ hx131_1)).trans hx131_1; replace hx131_2 := (HB.out.cell (World.block_lt_of_cell? w _ hx131_2)).trans hx131_2; replace p131 := eq_true p131; replace q131 := eq_true q131; have p135 : 0 ≤ (x4_1 : Int) := of_decide_eq_true (aP75); have q135 : x4_1 < (l0.length : Int) := of_decide_eq_true (aP75); obtain ⟨ad135, e135, hx135_0, hx135_1, hx135_2⟩ := at_T53 HR0.out x4_1 p135 q135; obtain rfl : ad129 = ad135 := (by injection e135); replace hx135_0 := (HB.out.cell (World.block_lt_of_cell? w _ hx135_0)).trans hx135_0; replace hx135_1 := (HB.out.cell (World.block_lt_of_cell? w _ hx135_1)).trans hx135_1; replace hx135_2 := (HB.out.cell (World.block_lt_of_cell? w _ hx135_2)).trans hx135_2; replace p135 := eq_true p135; replace q135 := eq_true q135; have p139 : 0 ≤ (x4_1 : Int) := of_decide_eq_true (aP75); have q139 : x4_1 < (l0.length : Int) := of_decide_eq_true (aP75); obtain ⟨ad139, e139, hx139_0, hx139_1, hx139_2⟩ := at_T53 HR0.out x4_1 p139 q139; obtain rfl : ad129 = ad139 := (by injection e139); replace hx139_0 := (HB.out.cell (World.block_lt_of_cell? w _ hx139_0)).trans hx139_0; replace hx139_1 := (HB.out.cell (World.block_lt_of_cell? w _ hx139_1)).trans hx139_1; replace hx139_2 := (HB.out.cell (World.block_lt_of_cell? w _ hx139_2)).trans hx139_2; replace p139 := eq_true p139; replace q139 := eq_true q139)))
         exact aP43
      ·rw [if_neg c6] at H
       have c6b0 : decide (0 < x4_1) = false := dFa c6
       clear c6
       have H' := aMk H
       clear H
       have p129 : 0 ≤ (x4_1 : Int) := of_decide_eq_true (aP75)
       have q129 : x4_1 < (l0.length : Int) := of_decide_eq_true (aP75)
       obtain ⟨ad129, e129, hx129_0, hx129_1, hx129_2⟩ := at_T53 HR0.out x4_1 p129 q129
       cases e129
       replace hx129_0 := (HB.out.cell (World.block_lt_of_cell? w _ hx129_0)).trans hx129_0
       replace hx129_1 := (HB.out.cell (World.block_lt_of_cell? w _ hx129_1)).trans hx129_1
       replace hx129_2 := (HB.out.cell (World.block_lt_of_cell? w _ hx129_2)).trans hx129_2
       replace p129 := eq_true p129
       replace q129 := eq_true q129
       go_wp2_with (first | (go_at_call 79; (with_reducible refine (quipuref13_one.calls k1 ((rd_T53 l0 x4_1).f0) ((rd_T53 l0 x4_1).f1) ((rd_T53 l0 x4_1).f2) true _ A4.out).mono ?_); rintro e w22 ⟨rfl, hb⟩; have n0_ := aMk (below_step (aP80) hb); clear HB; have HB := n0_; clear n0_; (try clear hb); (try clear hb2); (try clear hk); (try clear hi); have p140 : 0 ≤ (x4_1 : Int) := of_decide_eq_true (aP75); have q140 : x4_1 < (l0.length : Int) := of_decide_eq_true (aP75); obtain ⟨ad140, e140, hx140_0, hx140_1, hx140_2⟩ := at_T53 HR0.out x4_1 p140 q140; obtain rfl : ad129 = ad140 := (by injection e140); replace hx140_0 := (HB.out.cell (World.block_lt_of_cell? w _ hx140_0)).trans hx140_0; replace hx140_1 := (HB.out.cell (World.block_lt_of_cell? w _ hx140_1)).trans hx140_1; replace hx140_2 := (HB.out.cell (World.block_lt_of_cell? w _ hx140_2)).trans hx140_2; replace p140 := eq_true p140; replace q140 := eq_true q140))
       repeat (go_quiet (first | (go_at_call 79; (with_reducible refine (quipuref13_one.calls k1 ((rd_T53 l0 x4_1).f0) ((rd_T53 l0 x4_1).f1) ((rd_T53 l0 x4_1).f2) true _ A4.out).mono ?_); rintro e w22 ⟨rfl, hb⟩; have n0_ := aMk (below_step (aP80) hb); clear HB; have HB := n0_; clear n0_; (try clear hb); (try clear hb2); (try clear hk); (try clear hi); have p140 : 0 ≤ (x4_1 : Int) := of_decide_eq_true (aP75); have q140 : x4_1 < (l0.length : Int) := of_decide_eq_true (aP75); obtain ⟨ad140, e140, hx140_0, hx140_1, hx140_2⟩ := at_T53 HR0.out x4_1 p140 q140; obtain rfl : ad129 = ad140 := (by injection e140); replace hx140_0 := (HB.out.cell (World.block_lt_of_cell? w _ hx140_0)).trans hx140_0; replace hx140_1 := (HB.out.cell (World.block_lt_of_cell? w _ hx140_1)).trans hx140_1; replace hx140_2 := (HB.out.cell (World.block_lt_of_cell? w _ hx140_2)).trans hx140_2; replace p140 := eq_true p140; replace q140 := eq_true q140)); try go_wp2_with (first | (go_at_call 79; (with_reducible refine (quipuref13_one.calls k1 ((rd_T53 l0 x4_1).f0) ((rd_T53 l0 x4_1).f1) ((rd_T53 l0 x4_1).f2) true _ A4.out).mono ?_); rintro e w22 ⟨rfl, hb⟩; have n0_ := aMk (below_step (aP80) hb); clear HB; have HB := n0_; clear n0_; (try clear hb); (try clear hb2); (try clear hk); (try clear hi); have p140 : 0 ≤ (x4_1 : Int) := of_decide_eq_true (aP75); have q140 : x4_1 < (l0.length : Int) := of_decide_eq_true (aP75); obtain ⟨ad140, e140, hx140_0, hx140_1, hx140_2⟩ := at_T53 HR0.out x4_1 p140 q140; obtain rfl : ad129 = ad140 := (by injection e140); replace hx140_0 := (HB.out.cell (World.block_lt_of_cell? w _ hx140_0)).trans hx140_0; replace hx140_1 := (HB.out.cell (World.block_lt_of_cell? w _ hx140_1)).trans hx140_1; replace hx140_2 := (HB.out.cell (World.block_lt_of_cell? w _ hx140_2)).trans hx140_2; replace p140 := eq_true p140; replace q140 := eq_true q140)))
       exact aP43
     ·replace c5 := Bool.eq_false_iff.mpr c5
      subst c5
      have H1 : (some 131) = some r := aP74
      clear H
      have H := H1
      clear H1
      obtain rfl := Option.some.inj H
      have p129 : 0 ≤ (x4_1 : Int) := of_decide_eq_true (aP75)
      have q129 : x4_1 < (l0.length : Int) := of_decide_eq_true (aP75)
      obtain ⟨ad129, e129, hx129_0, hx129_1, hx129_2⟩ := at_T53 HR0.out x4_1 p129 q129
      cases e129
      replace hx129_0 := (HB.out.cell (World.block_lt_of_cell? w _ hx129_0)).trans hx129_0
      replace hx129_1 := (HB.out.cell (World.block_lt_of_cell? w _ hx129_1)).trans hx129_1
      replace hx129_2 := (HB.out.cell (World.block_lt_of_cell? w _ hx129_2)).trans hx129_2
      replace p129 := eq_true p129
      replace q129 := eq_true q129
      go_wp2_with (first | (go_at_call 79; (with_reducible refine (quipuref13_one.calls k1 ((rd_T53 l0 x4_1).f0) ((rd_T53 l0 x4_1).f1) ((rd_T53 l0 x4_1).f2) false _ A4.out).mono ?_); rintro e w23 ⟨rfl, hb⟩; have n0_ := aMk (below_step (aP80) hb); clear HB; have HB := n0_; clear n0_; (try clear hb); (try clear hb2); (try clear hk); (try clear hi)))
      repeat (go_quiet (first | (go_at_call 79; (with_reducible refine (quipuref13_one.calls k1 ((rd_T53 l0 x4_1).f0) ((rd_T53 l0 x4_1).f1) ((rd_T53 l0 x4_1).f2) false _ A4.out).mono ?_); rintro e w23 ⟨rfl, hb⟩; have n0_ := aMk (below_step (aP80) hb); clear HB; have HB := n0_; clear n0_; (try clear hb); (try clear hb2); (try clear hk); (try clear hi))); try go_wp2_with (first | (go_at_call 79; (with_reducible refine (quipuref13_one.calls k1 ((rd_T53 l0 x4_1).f0) ((rd_T53 l0 x4_1).f1) ((rd_T53 l0 x4_1).f2) false _ A4.out).mono ?_); rintro e w23 ⟨rfl, hb⟩; have n0_ := aMk (below_step (aP80) hb); clear HB; have HB := n0_; clear n0_; (try clear hb); (try clear hb2); (try clear hk); (try clear hi))))
      exact aP42
    ·rw [if_neg c3] at H
     exact absurd H (by simp)
   ·rw [if_neg c2] at H
    have c2b0 : decide (x4_1 < (l0.length : Int)) = false := dFa c2
    clear c2
    by_cases c24 : (l0.length : Int) > 64
    ·rw [if_pos c24] at H
     have c24b0 : decide (64 < (l0.length : Int)) = true := dTr c24
     have c24b1 : decide (64 < l0.length) = true := dTr (by omega)
     clear c24
     exact aP24
    ·rw [if_neg c24] at H
     have c24b0 : decide (64 < (l0.length : Int)) = false := dFa c24
     have c24b1 : decide (64 < l0.length) = false := dFa (by omega)
     clear c24
     by_cases c25 : x3_1 > 64
     ·rw [if_pos c25] at H
      have c25b0 : decide (64 < x3_1) = true := dTr c25
      exact aP41
     ·rw [if_neg c25] at H
      have c25b0 : decide (64 < x3_1) = false := dFa c25
      exact aP41
def quipuref13_Runes.l0 : Nat → ByteArray → List ByteArray → Int → Option (List ByteArray × Bool)
 | 0, _, _, _ => none
 | k + 1, x0, x4, x5 => if x5 < (x0.size : Int) then ((quipuref11_Rune.f k x0 x5).bind fun t144 => (if t144 = 0 then (some (x4, false)) else (if 0 ≤ x5 then (if x5 ≤ (wrap64 (x5 + t144)) then (if (wrap64 (x5 + t144)) ≤ (x0.size : Int) then (if x4.length < 8796093022208 then (quipuref13_Runes.l0 k x0 (x4 ++ [x0.extract (x5 : Int).toNat ((wrap64 (x5 + t144)) : Int).toNat]) (wrap64 (x5 + t144))) else (none)) else (none)) else (none)) else (none)))) else (some (x4, true))
def quipuref13_Runes.f (k : Nat) (a0 : ByteArray) : Option (List ByteArray × Bool) := quipuref13_Runes.l0 k a0 (([] : List ByteArray)) 0
set_option maxHeartbeats 8000000 in
set_option maxRecDepth 100000 in
theorem quipuref13_Runes.calls (k : Nat) (a0 : ByteArray) (r1 : List ByteArray) (r2 : Bool) (w : World) (h : quipuref13_Runes.f k a0 = some (r1, r2)) :
  Calls Try.prog 69 #[.string a0] w fun e w' => ∃ v0_ : Value, e = .returned (.tuple #[v0_, .bool r2]) ∧ Kd.R Kd.string 9 w' w.heap.size (fun _ => True) v0_ r1 ∧ Below w.heap.size w w' := by
 have HB := aMk (Below.refl w.heap.size w)
 have H : (quipuref13_Runes.l0 k a0 (([] : List ByteArray)) 0) = some (r1, r2) := h
 clear h
 obtain ⟨y141, hy141⟩ : ∃ y_ : List ByteArray, y_ = (([] : List ByteArray)) := ⟨_, rfl⟩
 replace H : (quipuref13_Runes.l0 k a0 y141 0) = some (r1, r2) := by first | (rw [hy141]; with_reducible exact H) | (have H2_ := (Option.bind_some _ _).symm.trans H; rw [hy141]; with_reducible exact H2_) | (have H2_ := (Option.bind_some _ _).symm.trans H; with_reducible exact H2_) | with_reducible exact H | (rw [hy141]; exact H) | exact H
 have Ny141 := aMk hy141
 clear hy141
 have H' := aMk H
 clear H
 go_enter Try.func69, Try.ntmps69
 go_wp2_with (first | ((with_reducible refine gate_dst (N := 7) rfl ?_); refine Kd.R_lit Kd.string _ 9 ?hg (N := 7) ?hd (xs := ([] : List ByteArray)) (inner := []) (ok := fun _ => True) (okp := fun _ => True) ?hr ?hp (fun _ hk => hk) trivial (Below.refl _ _) (Nat.le_refl _) (by simp) ?_; (case hd => rfl); (case hg => rfl); (case hr => first | (go_simp; done) | (go_simp; rfl)); (case hp => exact (Reps.none _ _)); intro v142 w2 ho3 hb hg_ hnew_; clear hg_ hnew_; (first | rw [← Ny141.out] at ho3 | (simp only [Int.reduceToNat] at ho3; rw [← Ny141.out] at ho3)); have n0_ := aMk (Kd.R_lower ho3 (below_size (aP80))); have n1_ := aMk (below_step (aP80) hb); clear HB; have HO143 := n0_; have HB := n1_; clear n0_ n1_; clear hb ho3))
 go_loopg [4, 5] k (fun kq v4 v5 w' => ∃ (x4_1 : List ByteArray) (x5_1 : Int), v5 = .int .i64 x5_1 ∧ Aside0 (quipuref13_Runes.l0 kq a0 x4_1 x5_1 = some (r1, r2)) ∧ Aside0 (kq ≤ k) ∧ Aside0 (Kd.R Kd.string 9 w' w.heap.size (fun _ => True) v4 x4_1) ∧ Aside0 (Below w.heap.size w w'))
 case atStart => exact ⟨(y141), (0), (aP77), H', ⟨Nat.le_refl _⟩, ⟨by (with_reducible repeat (first | apply Kd.R_alloc | apply Kd.R_drewN | apply Kd.R_drew)); exact HO143.out⟩, ⟨aP80⟩⟩
 case round =>
  clear H'
  try clear p2
  obtain ⟨x4_1, x5_1, rfl, HA, HK1, HO_4, HB⟩ := hrel
  cases gk with
  | zero => exact absurd HA.out (by simp [quipuref13_Runes.l0])
  | succ k1 =>
   have H := HA.out
   clear HA
   simp only [quipuref13_Runes.l0] at H
   by_cases c4 : x5_1 < (a0.size : Int)
   ·rw [if_pos c4] at H
    have c4b0 : decide (x5_1 < (a0.size : Int)) = true := dTr c4
    clear c4
    replace H := Option.bind_eq_some_iff.mp H
    obtain ⟨t144, A50, H⟩ := H
    replace H : (if t144 = 0 then (some (x4_1, false)) else (if 0 ≤ x5_1 then (if x5_1 ≤ (wrap64 (x5_1 + t144)) then (if (wrap64 (x5_1 + t144)) ≤ (a0.size : Int) then (if x4_1.length < 8796093022208 then (quipuref13_Runes.l0 k1 a0 (x4_1 ++ [a0.extract (x5_1 : Int).toNat ((wrap64 (x5_1 + t144)) : Int).toNat]) (wrap64 (x5_1 + t144))) else (none)) else (none)) else (none)) else (none))) = some (r1, r2) := H
    have A5 := aMk A50
    clear A50
    by_cases c6 : t144 = 0
    ·rw [if_pos c6] at H
     have c6b0 : (t144 == 0) = true := beT c6
     have c6b1 : (t144 != 0) = false := bnF c6
     clear c6
     simp only [Option.some.injEq, Prod.mk.injEq] at H
     obtain ⟨rfl, rfl⟩ := H
     go_wp2_with (first | ((with_reducible refine gate_callee (f := 68) rfl ?_); refine goesL_ (some 14) rfl rfl Try.func68 (by kernel_rfl) rfl #[.string a0, .int .i64 x5_1] rfl (aP76) ?_; (with_reducible refine (quipuref11_Rune.calls k1 a0 x5_1 t144 _ A5.out).mono ?_); rintro e w' ⟨rfl, ⟨nd, rfl⟩⟩; refine ⟨_, rfl, ?_⟩))
     exact aP40
    ·rw [if_neg c6] at H
     have c6b0 : (t144 == 0) = false := beF c6
     have c6b1 : (t144 != 0) = true := bnT c6
     by_cases c7 : 0 ≤ x5_1
     ·rw [if_pos c7] at H
      have c7b0 := eq_true c7
      have c7b1 : decide (0 ≤ x5_1) = true := dTr c7
      clear c7
      by_cases c8 : x5_1 ≤ (wrap64 (x5_1 + t144))
      ·rw [if_pos c8] at H
       have c8b0 := eq_true c8
       have c8b1 : decide (x5_1 ≤ (wrap64 (x5_1 + t144))) = true := dTr c8
       by_cases c9 : (wrap64 (x5_1 + t144)) ≤ (a0.size : Int)
       ·rw [if_pos c9] at H
        have c9b0 := eq_true c9
        have c9b1 : decide ((wrap64 (x5_1 + t144)) ≤ (a0.size : Int)) = true := dTr c9
        by_cases c10 : x4_1.length < 8796093022208
        ·rw [if_pos c10] at H
         have LMc10 := aMk c10
         clear c10
         obtain ⟨y145, hy145⟩ : ∃ y_ : List ByteArray, y_ = (x4_1 ++ [a0.extract (x5_1 : Int).toNat ((wrap64 (x5_1 + t144)) : Int).toNat]) := ⟨_, rfl⟩
         replace H : (quipuref13_Runes.l0 k1 a0 y145 (wrap64 (x5_1 + t144))) = some (r1, r2) := by first | (rw [hy145]; with_reducible exact H) | (have H2_ := (Option.bind_some _ _).symm.trans H; rw [hy145]; with_reducible exact H2_) | (have H2_ := (Option.bind_some _ _).symm.trans H; with_reducible exact H2_) | with_reducible exact H | (rw [hy145]; exact H) | exact H
         have Ny145 := aMk hy145
         clear hy145
         have H' := aMk H
         clear H
         go_wp2_with (first | ((with_reducible refine gate_callee (f := 68) rfl ?_); refine goesL_ (some 14) rfl rfl Try.func68 (by kernel_rfl) rfl #[.string a0, .int .i64 x5_1] rfl (aP76) ?_; (with_reducible refine (quipuref11_Rune.calls k1 a0 x5_1 t144 _ A5.out).mono ?_); rintro e w' ⟨rfl, ⟨nd, rfl⟩⟩; refine ⟨_, rfl, ?_⟩) | ((with_reducible refine gate_builtin (b := .append) (xs := #[.tmp 18, .tmp 25]) rfl ?_); at_builtin; refine Kd.R_append Kd.string (w0 := w) w.heap.size rfl (.tmp 18) (.tmp 25) 79 9 (.string ⟨#[]⟩) 16 rfl Try.underlying79 info9 rfl (by decide) (by omega) u4 x4_1 (a0.extract (x5_1 : Int).toNat ((wrap64 (x5_1 + t144)) : Int).toNat) [.string (a0.extract (x5_1 : Int).toNat ((wrap64 (x5_1 + t144)) : Int).toNat)] (fun _ => True) (fun _ => False) rfl rfl ?aP (fun _ hk => hk.elim) ?aF ?aO ?aB ?aS ?aL ?_; (case aP => exact rfl); (case aB => exact (aP80)); (case aF => exact (fun _ _ => trivial)); (case aO => exact (aP102)); (case aS => exact (below_size (aP80))); (case aL => have := LMc10.out; omega); intro v146 w11 ho hb hg hat; rw [← Ny145.out] at ho; have n0_ := aMk (hb); have n1_ := aMk (ho); clear HB; clear HO_4; have HB := n0_; have HO147 := n1_; clear n0_ n1_; clear ho hb hg hat))
         go_roundg k1
         case measure => have := HK1.out; omega
         case rel => exact ⟨(y145), (wrap64 (x5_1 + t144)), (aP77), H', ⟨by have := HK1.out; omega⟩, ⟨by (with_reducible repeat (first | apply Kd.R_alloc | apply Kd.R_drewN | apply Kd.R_drew)); exact HO147.out⟩, ⟨aP80⟩⟩
        ·rw [if_neg c10] at H
         exact absurd H (by simp)
       ·rw [if_neg c9] at H
        exact absurd H (by simp)
      ·rw [if_neg c8] at H
       exact absurd H (by simp)
     ·rw [if_neg c7] at H
      exact absurd H (by simp)
   ·rw [if_neg c4] at H
    have c4b0 : decide (x5_1 < (a0.size : Int)) = false := dFa c4
    clear c4
    simp only [Option.some.injEq, Prod.mk.injEq] at H
    obtain ⟨rfl, rfl⟩ := H
    go_wp2
    exact aP40
def quipuref13_Sign.f (a0 : ByteArray) : Option (Int) := if a0.toList = ([45] : List UInt8) then (some 1) else (if a0.toList = ([43] : List UInt8) then (some 2) else (if a0.toList = ([37] : List UInt8) then (some 3) else (if a0.toList = ([226, 128, 176] : List UInt8) then (some 4) else (if a0.toList = ([194, 164] : List UInt8) then (some 5) else (some 0)))))
set_option maxHeartbeats 8000000 in
set_option maxRecDepth 100000 in
theorem quipuref13_Sign.calls (a0 : ByteArray) (r : Int) (w : World) (h : quipuref13_Sign.f a0 = some r) :
  Calls Try.prog 71 #[.string a0] w fun e w' => e = .returned (.int .i64 r) ∧ Drawn0 w w' := by
 have H : (if a0.toList = ([45] : List UInt8) then (some 1) else (if a0.toList = ([43] : List UInt8) then (some 2) else (if a0.toList = ([37] : List UInt8) then (some 3) else (if a0.toList = ([226, 128, 176] : List UInt8) then (some 4) else (if a0.toList = ([194, 164] : List UInt8) then (some 5) else (some 0)))))) = some r := h
 clear h
 by_cases c2 : a0.toList = ([45] : List UInt8)
 ·rw [if_pos c2] at H
  have c2b0 : (a0.toList == ([45] : List UInt8)) = true := beT c2
  have c2b1 : (a0.toList != ([45] : List UInt8)) = false := bnF c2
  clear c2
  exact aP39
 ·rw [if_neg c2] at H
  have c2b0 : (a0.toList == ([45] : List UInt8)) = false := beF c2
  have c2b1 : (a0.toList != ([45] : List UInt8)) = true := bnT c2
  by_cases c3 : a0.toList = ([43] : List UInt8)
  ·rw [if_pos c3] at H
   have c3b0 : (a0.toList == ([43] : List UInt8)) = true := beT c3
   have c3b1 : (a0.toList != ([43] : List UInt8)) = false := bnF c3
   clear c3
   exact aP39
  ·rw [if_neg c3] at H
   have c3b0 : (a0.toList == ([43] : List UInt8)) = false := beF c3
   have c3b1 : (a0.toList != ([43] : List UInt8)) = true := bnT c3
   by_cases c4 : a0.toList = ([37] : List UInt8)
   ·rw [if_pos c4] at H
    have c4b0 : (a0.toList == ([37] : List UInt8)) = true := beT c4
    have c4b1 : (a0.toList != ([37] : List UInt8)) = false := bnF c4
    clear c4
    exact aP39
   ·rw [if_neg c4] at H
    have c4b0 : (a0.toList == ([37] : List UInt8)) = false := beF c4
    have c4b1 : (a0.toList != ([37] : List UInt8)) = true := bnT c4
    by_cases c5 : a0.toList = ([226, 128, 176] : List UInt8)
    ·rw [if_pos c5] at H
     have c5b0 : (a0.toList == ([226, 128, 176] : List UInt8)) = true := beT c5
     have c5b1 : (a0.toList != ([226, 128, 176] : List UInt8)) = false := bnF c5
     clear c5
     exact aP39
    ·rw [if_neg c5] at H
     have c5b0 : (a0.toList == ([226, 128, 176] : List UInt8)) = false := beF c5
     have c5b1 : (a0.toList != ([226, 128, 176] : List UInt8)) = true := bnT c5
     by_cases c6 : a0.toList = ([194, 164] : List UInt8)
     ·rw [if_pos c6] at H
      have c6b0 : (a0.toList == ([194, 164] : List UInt8)) = true := beT c6
      have c6b1 : (a0.toList != ([194, 164] : List UInt8)) = false := bnF c6
      clear c6
      exact aP39
     ·rw [if_neg c6] at H
      have c6b0 : (a0.toList == ([194, 164] : List UInt8)) = false := beF c6
      have c6b1 : (a0.toList != ([194, 164] : List UInt8)) = true := bnT c6
      exact aP39
def quipuref13_Letter.f (a0 : ByteArray) : Option (Bool) := if (a0.size : Int) = 1 then (if 0 < (a0.size : Int) then (if (bt a0 0) ≥ 48 then (if (bt a0 0) ≤ 57 then (some true) else (if a0.toList = ([35] : List UInt8) then (some true) else (if a0.toList = ([64] : List UInt8) then (some true) else (if a0.toList = ([44] : List UInt8) then (some true) else (if a0.toList = ([46] : List UInt8) then (some true) else (if a0.toList = ([59] : List UInt8) then (some true) else (some (a0.toList == ([42] : List UInt8))))))))) else (if a0.toList = ([35] : List UInt8) then (some true) else (if a0.toList = ([64] : List UInt8) then (some true) else (if a0.toList = ([44] : List UInt8) then (some true) else (if a0.toList = ([46] : List UInt8) then (some true) else (if a0.toList = ([59] : List UInt8) then (some true) else (some (a0.toList == ([42] : List UInt8))))))))) else (none)) else (some false)
set_option maxHeartbeats 8000000 in
set_option maxRecDepth 100000 in
theorem quipuref13_Letter.calls (a0 : ByteArray) (r : Bool) (w : World) (h : quipuref13_Letter.f a0 = some r) :
  Calls Try.prog 72 #[.string a0] w fun e w' => e = .returned (.bool r) ∧ Drawn0 w w' := by
 have H : (if (a0.size : Int) = 1 then (if 0 < (a0.size : Int) then (if (bt a0 0) ≥ 48 then (if (bt a0 0) ≤ 57 then (some true) else (if a0.toList = ([35] : List UInt8) then (some true) else (if a0.toList = ([64] : List UInt8) then (some true) else (if a0.toList = ([44] : List UInt8) then (some true) else (if a0.toList = ([46] : List UInt8) then (some true) else (if a0.toList = ([59] : List UInt8) then (some true) else (some (a0.toList == ([42] : List UInt8))))))))) else (if a0.toList = ([35] : List UInt8) then (some true) else (if a0.toList = ([64] : List UInt8) then (some true) else (if a0.toList = ([44] : List UInt8) then (some true) else (if a0.toList = ([46] : List UInt8) then (some true) else (if a0.toList = ([59] : List UInt8) then (some true) else (some (a0.toList == ([42] : List UInt8))))))))) else (none)) else (some false)) = some r := h
 clear h
 by_cases c2 : (a0.size : Int) = 1
 ·rw [if_pos c2] at H
  have c2b0 : ((a0.size : Int) == 1) = true := beT c2
  have c2b1 : ((a0.size : Int) != 1) = false := bnF c2
  clear c2
  by_cases c3 : 0 < (a0.size : Int)
  ·rw [if_pos c3] at H
   have c3b0 : decide (0 < (a0.size : Int)) = true := dTr c3
   have c3b1 : decide (0 < a0.size) = true := dTr (by omega)
   clear c3
   by_cases c5 : (bt a0 0) ≥ 48
   ·rw [if_pos c5] at H
    have c5b0 : decide (48 ≤ (bt a0 0)) = true := dTr c5
    clear c5
    by_cases c7 : (bt a0 0) ≤ 57
    ·rw [if_pos c7] at H
     have c7b0 : decide ((bt a0 0) ≤ 57) = true := dTr c7
     clear c7
     exact aP38
    ·rw [if_neg c7] at H
     have c7b0 : decide ((bt a0 0) ≤ 57) = false := dFa c7
     clear c7
     by_cases c8 : a0.toList = ([35] : List UInt8)
     ·rw [if_pos c8] at H
      have c8b0 : (a0.toList == ([35] : List UInt8)) = true := beT c8
      have c8b1 : (a0.toList != ([35] : List UInt8)) = false := bnF c8
      clear c8
      exact aP38
     ·rw [if_neg c8] at H
      have c8b0 : (a0.toList == ([35] : List UInt8)) = false := beF c8
      have c8b1 : (a0.toList != ([35] : List UInt8)) = true := bnT c8
      by_cases c9 : a0.toList = ([64] : List UInt8)
      ·rw [if_pos c9] at H
       have c9b0 : (a0.toList == ([64] : List UInt8)) = true := beT c9
       have c9b1 : (a0.toList != ([64] : List UInt8)) = false := bnF c9
       clear c9
       exact aP38
      ·rw [if_neg c9] at H
       have c9b0 : (a0.toList == ([64] : List UInt8)) = false := beF c9
       have c9b1 : (a0.toList != ([64] : List UInt8)) = true := bnT c9
       by_cases c10 : a0.toList = ([44] : List UInt8)
       ·rw [if_pos c10] at H
        have c10b0 : (a0.toList == ([44] : List UInt8)) = true := beT c10
        have c10b1 : (a0.toList != ([44] : List UInt8)) = false := bnF c10
        clear c10
        exact aP38
       ·rw [if_neg c10] at H
        have c10b0 : (a0.toList == ([44] : List UInt8)) = false := beF c10
        have c10b1 : (a0.toList != ([44] : List UInt8)) = true := bnT c10
        by_cases c11 : a0.toList = ([46] : List UInt8)
        ·rw [if_pos c11] at H
         have c11b0 : (a0.toList == ([46] : List UInt8)) = true := beT c11
         have c11b1 : (a0.toList != ([46] : List UInt8)) = false := bnF c11
         clear c11
         exact aP38
        ·rw [if_neg c11] at H
         have c11b0 : (a0.toList == ([46] : List UInt8)) = false := beF c11
         have c11b1 : (a0.toList != ([46] : List UInt8)) = true := bnT c11
         by_cases c12 : a0.toList = ([59] : List UInt8)
         ·rw [if_pos c12] at H
          have c12b0 : (a0.toList == ([59] : List UInt8)) = true := beT c12
          have c12b1 : (a0.toList != ([59] : List UInt8)) = false := bnF c12
          clear c12
          exact aP38
         ·rw [if_neg c12] at H
          have c12b0 : (a0.toList == ([59] : List UInt8)) = false := beF c12
          have c12b1 : (a0.toList != ([59] : List UInt8)) = true := bnT c12
          exact aP38
   ·rw [if_neg c5] at H
    have c5b0 : decide (48 ≤ (bt a0 0)) = false := dFa c5
    clear c5
    by_cases c13 : a0.toList = ([35] : List UInt8)
    ·rw [if_pos c13] at H
     have c13b0 : (a0.toList == ([35] : List UInt8)) = true := beT c13
     have c13b1 : (a0.toList != ([35] : List UInt8)) = false := bnF c13
     clear c13
     exact aP37
    ·rw [if_neg c13] at H
     have c13b0 : (a0.toList == ([35] : List UInt8)) = false := beF c13
     have c13b1 : (a0.toList != ([35] : List UInt8)) = true := bnT c13
     by_cases c14 : a0.toList = ([64] : List UInt8)
     ·rw [if_pos c14] at H
      have c14b0 : (a0.toList == ([64] : List UInt8)) = true := beT c14
      have c14b1 : (a0.toList != ([64] : List UInt8)) = false := bnF c14
      clear c14
      exact aP37
     ·rw [if_neg c14] at H
      have c14b0 : (a0.toList == ([64] : List UInt8)) = false := beF c14
      have c14b1 : (a0.toList != ([64] : List UInt8)) = true := bnT c14
      by_cases c15 : a0.toList = ([44] : List UInt8)
      ·rw [if_pos c15] at H
       have c15b0 : (a0.toList == ([44] : List UInt8)) = true := beT c15
       have c15b1 : (a0.toList != ([44] : List UInt8)) = false := bnF c15
       clear c15
       exact aP37
      ·rw [if_neg c15] at H
       have c15b0 : (a0.toList == ([44] : List UInt8)) = false := beF c15
       have c15b1 : (a0.toList != ([44] : List UInt8)) = true := bnT c15
       by_cases c16 : a0.toList = ([46] : List UInt8)
       ·rw [if_pos c16] at H
        have c16b0 : (a0.toList == ([46] : List UInt8)) = true := beT c16
        have c16b1 : (a0.toList != ([46] : List UInt8)) = false := bnF c16
        clear c16
        exact aP37
       ·rw [if_neg c16] at H
        have c16b0 : (a0.toList == ([46] : List UInt8)) = false := beF c16
        have c16b1 : (a0.toList != ([46] : List UInt8)) = true := bnT c16
        by_cases c17 : a0.toList = ([59] : List UInt8)
        ·rw [if_pos c17] at H
         have c17b0 : (a0.toList == ([59] : List UInt8)) = true := beT c17
         have c17b1 : (a0.toList != ([59] : List UInt8)) = false := bnF c17
         clear c17
         exact aP37
        ·rw [if_neg c17] at H
         have c17b0 : (a0.toList == ([59] : List UInt8)) = false := beF c17
         have c17b1 : (a0.toList != ([59] : List UInt8)) = true := bnT c17
         exact aP37
  ·rw [if_neg c3] at H
   exact absurd H (by simp)
 ·rw [if_neg c2] at H
  have c2b0 : ((a0.size : Int) == 1) = false := beF c2
  have c2b1 : ((a0.size : Int) != 1) = true := bnT c2
  obtain rfl := Option.some.inj H
  exact aP36
mutual
def quipuref13_text.l0 : Nat → List ByteArray → ByteArray → Int → Option (ByteArray)
 | 0, _, _, _ => none
 | k + 1, x3, x5, x6 => if x6 < (x3.length : Int) then (quipuref13_text.l1 k x3 x5 x6 x6 true (⟨#[]⟩ : ByteArray)) else (some x5)
def quipuref13_text.l1 : Nat → List ByteArray → ByteArray → Int → Int → Bool → ByteArray → Option (ByteArray)
 | 0, _, _, _, _, _, _ => none
 | k + 1, x3, x5, x6, x7, x8, x9 => if x7 < (x3.length : Int) then (if 0 ≤ x7 then (if (rdOf ByteArray.empty x3 x7).toList = ([39] : List UInt8) then (quipuref13_text.j2 k x3 x5 x6 x7 x8 x9 true) else ((quipuref13_Sign.f (rdOf ByteArray.empty x3 x7)).bind fun t154 => (if t154 > 0 then (quipuref13_text.j2 k x3 x5 x6 x7 x8 x9 true) else ((quipuref13_Letter.f (rdOf ByteArray.empty x3 x7)).bind fun t156 => (quipuref13_text.j2 k x3 x5 x6 x7 x8 x9 t156))))) else (none)) else (quipuref13_text.j2 k x3 x5 x6 x7 x8 x9 false)
def quipuref13_text.j2 : Nat → List ByteArray → ByteArray → Int → Int → Bool → ByteArray → Bool → Option (ByteArray)
 | 0, _, _, _, _, _, _, _ => none
 | k + 1, x3, x5, x6, x7, x8, x9, x45 => if x45 = true then (if 0 ≤ x7 then (if x7 < (x3.length : Int) then (if (rdOf ByteArray.empty x3 x7).toList = ([39] : List UInt8) then (if x9.size + 2 ≤ 9223372036854775807 then (quipuref13_text.l1 k x3 x5 x6 (wrap64 (x7 + 1)) x8 (x9 ++ (⟨#[39, 39]⟩ : ByteArray))) else (none)) else (if x9.size + (rdOf ByteArray.empty x3 x7).size ≤ 9223372036854775807 then (quipuref13_text.l1 k x3 x5 x6 (wrap64 (x7 + 1)) false (x9 ++ (rdOf ByteArray.empty x3 x7))) else (none))) else (none)) else (none)) else (if x7 = x6 then (if 0 ≤ x6 then (if x6 < (x3.length : Int) then (if x5.size + (rdOf ByteArray.empty x3 x6).size ≤ 9223372036854775807 then (quipuref13_text.l0 k x3 (x5 ++ (rdOf ByteArray.empty x3 x6)) (wrap64 (x6 + 1))) else (none)) else (none)) else (none)) else (if x8 = true then (if x5.size + x9.size ≤ 9223372036854775807 then (quipuref13_text.l0 k x3 (x5 ++ x9) x7) else (none)) else (if 1 + x9.size ≤ 9223372036854775807 then (if ((⟨#[39]⟩ : ByteArray) ++ x9).size + 1 ≤ 9223372036854775807 then (if x5.size + (((⟨#[39]⟩ : ByteArray) ++ x9) ++ (⟨#[39]⟩ : ByteArray)).size ≤ 9223372036854775807 then (quipuref13_text.l0 k x3 (x5 ++ (((⟨#[39]⟩ : ByteArray) ++ x9) ++ (⟨#[39]⟩ : ByteArray))) x7) else (none)) else (none)) else (none))))
end
def quipuref13_text.f (k : Nat) (a0 : ByteArray) : Option (ByteArray) := (quipuref13_Runes.f k a0).bind fun bt148 => (quipuref13_text.l0 k bt148.1 (⟨#[]⟩ : ByteArray) 0)
set_option maxHeartbeats 8000000 in
set_option maxRecDepth 100000 in
theorem quipuref13_text.calls (k : Nat) (a0 : ByteArray) (r : ByteArray) (w : World) (h : quipuref13_text.f k a0 = some r) :
  Calls Try.prog 81 #[.string a0] w fun e w' => e = .returned (.string r) ∧ Below w.heap.size w w' := by
 have HB := aMk (Below.refl w.heap.size w)
 have H : ((quipuref13_Runes.f k a0).bind fun bt148 => (quipuref13_text.l0 k bt148.1 (⟨#[]⟩ : ByteArray) 0)) = some r := h
 clear h
 replace H := Option.bind_eq_some_iff.mp H
 obtain ⟨⟨t148, t149⟩, A20, H⟩ := H
 replace H : (quipuref13_text.l0 k t148 (⟨#[]⟩ : ByteArray) 0) = some r := H
 have A2 := aMk A20
 clear A20
 have H' := aMk H
 clear H
 go_enter Try.func81, Try.ntmps81
 go_wp2_with (first | ((with_reducible refine gate_callee (f := 69) rfl ?_); refine goesL_ (some 12) rfl rfl Try.func69 (by kernel_rfl) rfl #[.string a0] rfl (aP76) ?_; (with_reducible refine (quipuref13_Runes.calls k a0 t148 t149 _ A2.out).mono ?_); rintro e w3 ⟨v150, rfl, ho0, hb⟩; refine ⟨_, rfl, ?_⟩; have n0_ := aMk (Kd.R_lower ho0 (below_size (aP80))); have n1_ := aMk (below_step (aP80) hb); clear HB; have HO151 := n0_; have HB := n1_; clear n0_ n1_; (try clear hb); (try clear hb2); (try clear hk); (try clear hi); (try clear ho0)))
 go_loopg [5, 6] k (fun kq v5 v6 w' => ∃ (x5_1 : ByteArray) (x6_1 : Int), v5 = .string x5_1 ∧ v6 = .int .i64 x6_1 ∧ Aside0 (quipuref13_text.l0 kq t148 x5_1 x6_1 = some r) ∧ Aside0 (kq ≤ k) ∧ Aside0 (Kd.R Kd.string 9 w' w.heap.size (fun _ => True) v150 t148) ∧ Aside0 (Below w.heap.size w w'))
 case atStart => exact ⟨((⟨#[]⟩ : ByteArray)), (0), (aP77), (aP77), H', ⟨Nat.le_refl _⟩, ⟨by (with_reducible repeat (first | apply Kd.R_alloc | apply Kd.R_drewN | apply Kd.R_drew)); exact HO151.out⟩, ⟨aP80⟩⟩
 case round =>
  clear H'
  try clear p2
  obtain ⟨x5_1, x6_1, rfl, rfl, HA, HK1, HO_3, HB⟩ := hrel
  cases gk with
  | zero => exact absurd HA.out (by simp [quipuref13_text.l0])
  | succ k1 =>
   have H := HA.out
   clear HA
   simp only [quipuref13_text.l0] at H
   by_cases c4 : x6_1 < (t148.length : Int)
   ·rw [if_pos c4] at H
    have c4b0 : decide (x6_1 < (t148.length : Int)) = true := dTr c4
    clear c4
    have H' := aMk H
    clear H
    obtain ⟨Ao5, co5, eo5⟩ := Kd.R_slice HO_3.out
    subst eo5
    go_wp2
    go_loopg [7, 8, 9] k1 (fun kq v7 v8 v9 w' => ∃ (x7_2 : Int) (x8_2 : Bool) (x9_2 : ByteArray), v7 = .int .i64 x7_2 ∧ v8 = .bool x8_2 ∧ v9 = .string x9_2 ∧ Aside0 (quipuref13_text.l1 kq t148 x5_1 x6_1 x7_2 x8_2 x9_2 = some r) ∧ Aside0 (kq ≤ k1) ∧ Aside0 (Kd.R Kd.string 9 w' w.heap.size (fun _ => True) (.slice Ao5 t148.length co5) t148) ∧ Aside0 (Below w.heap.size w w'))
    case atStart => exact ⟨(x6_1), (true), ((⟨#[]⟩ : ByteArray)), (aP77), (aP77), (aP77), H', ⟨Nat.le_refl _⟩, ⟨aP103⟩, ⟨aP80⟩⟩
    case round =>
     clear H'
     try clear p2
     try clear c4
     try clear c4b0
     try clear p2
     obtain ⟨x7_2, x8_2, x9_2, rfl, rfl, rfl, HA, HK2, HO_3, HB⟩ := hrel
     cases gk with
     | zero => exact absurd HA.out (by simp [quipuref13_text.l1])
     | succ k2 =>
      have H := HA.out
      clear HA
      simp only [quipuref13_text.l1] at H
      have HC6 := aMk H
      clear H
      go_upto_region 8 with (fail)
      go_cut [45] (fun v45 wc => ∃ (kq : Nat) (x45_5 : Bool), v45 = .bool x45_5 ∧ Aside0 (quipuref13_text.j2 kq t148 x5_1 x6_1 x7_2 x8_2 x9_2 x45_5 = some r) ∧ Aside0 (kq ≤ k2) ∧ Aside0 (Kd.R Kd.string 9 wc w.heap.size (fun _ => True) (.slice Ao5 t148.length co5) t148) ∧ Aside0 (Below w.heap.size w wc))
      case first =>
       have H := HC6.out
       clear HC6
       by_cases c7 : x7_2 < (t148.length : Int)
       ·rw [if_pos c7] at H
        have c7b0 : decide (x7_2 < (t148.length : Int)) = true := dTr c7
        clear c7
        (first | rw [c7b0] | (simp only [i64_w, i32_w]; rw [c7b0]) | skip)
        by_cases c8 : 0 ≤ x7_2
        ·rw [if_pos c8] at H
         have c8b0 : decide (0 ≤ x7_2) = true := dTr c8
         clear c8
         by_cases c9 : (rdOf ByteArray.empty t148 x7_2).toList = ([39] : List UInt8)
         ·rw [if_pos c9] at H
          have c9b0 : ((rdOf ByteArray.empty t148 x7_2).toList == ([39] : List UInt8)) = true := beT c9
          have c9b1 : ((rdOf ByteArray.empty t148 x7_2).toList != ([39] : List UInt8)) = false := bnF c9
          clear c9
          have H' := aMk H
          clear H
          have p152 : 0 ≤ (x7_2 : Int) := of_decide_eq_true (aP75)
          have q152 : x7_2 < (t148.length : Int) := of_decide_eq_true (aP75)
          obtain ⟨ad152, e152, hx152_0⟩ := Kd.at_string (Kd.R_reads' HO_3.out).2.2 x7_2 p152 q152
          cases e152
          replace p152 := eq_true p152
          replace q152 := eq_true q152
          go_wp2
          exact aP45
         ·rw [if_neg c9] at H
          have c9b0 : ((rdOf ByteArray.empty t148 x7_2).toList == ([39] : List UInt8)) = false := beF c9
          have c9b1 : ((rdOf ByteArray.empty t148 x7_2).toList != ([39] : List UInt8)) = true := bnT c9
          replace H := Option.bind_eq_some_iff.mp H
          obtain ⟨t154, A100, H⟩ := H
          replace H : (if t154 > 0 then (quipuref13_text.j2 k2 t148 x5_1 x6_1 x7_2 x8_2 x9_2 true) else ((quipuref13_Letter.f (rdOf ByteArray.empty t148 x7_2)).bind fun t156 => (quipuref13_text.j2 k2 t148 x5_1 x6_1 x7_2 x8_2 x9_2 t156))) = some r := H
          have A10 := aMk A100
          clear A100
          by_cases c11 : t154 > 0
          ·rw [if_pos c11] at H
           have c11b0 : decide (0 < t154) = true := dTr c11
           clear c11
           have H' := aMk H
           clear H
           have p152 : 0 ≤ (x7_2 : Int) := of_decide_eq_true (aP75)
           have q152 : x7_2 < (t148.length : Int) := of_decide_eq_true (aP75)
           obtain ⟨ad152, e152, hx152_0⟩ := Kd.at_string (Kd.R_reads' HO_3.out).2.2 x7_2 p152 q152
           cases e152
           replace p152 := eq_true p152
           replace q152 := eq_true q152
           have p153 : 0 ≤ (x7_2 : Int) := of_decide_eq_true (aP75)
           have q153 : x7_2 < (t148.length : Int) := of_decide_eq_true (aP75)
           obtain ⟨ad153, e153, hx153_0⟩ := Kd.at_string (Kd.R_reads' HO_3.out).2.2 x7_2 p153 q153
           obtain rfl : ad152 = ad153 := (by injection e153)
           replace p153 := eq_true p153
           replace q153 := eq_true q153
           go_wp2_with (first | (go_at_call 71; (with_reducible refine (quipuref13_Sign.calls (rdOf ByteArray.empty t148 x7_2) t154 _ A10.out).mono ?_); rintro e w' ⟨rfl, ⟨nd, rfl⟩⟩))
           exact aP45
          ·rw [if_neg c11] at H
           have c11b0 : decide (0 < t154) = false := dFa c11
           clear c11
           replace H := Option.bind_eq_some_iff.mp H
           obtain ⟨t156, A120, H⟩ := H
           replace H : (quipuref13_text.j2 k2 t148 x5_1 x6_1 x7_2 x8_2 x9_2 t156) = some r := H
           have A12 := aMk A120
           clear A120
           have H' := aMk H
           clear H
           have p152 : 0 ≤ (x7_2 : Int) := of_decide_eq_true (aP75)
           have q152 : x7_2 < (t148.length : Int) := of_decide_eq_true (aP75)
           obtain ⟨ad152, e152, hx152_0⟩ := Kd.at_string (Kd.R_reads' HO_3.out).2.2 x7_2 p152 q152
           cases e152
           replace p152 := eq_true p152
           replace q152 := eq_true q152
           have p153 : 0 ≤ (x7_2 : Int) := of_decide_eq_true (aP75)
           have q153 : x7_2 < (t148.length : Int) := of_decide_eq_true (aP75)
           obtain ⟨ad153, e153, hx153_0⟩ := Kd.at_string (Kd.R_reads' HO_3.out).2.2 x7_2 p153 q153
           obtain rfl : ad152 = ad153 := (by injection e153)
           replace p153 := eq_true p153
           replace q153 := eq_true q153
           go_wp2_with (first | (go_at_call 71; (with_reducible refine (quipuref13_Sign.calls (rdOf ByteArray.empty t148 x7_2) t154 _ A10.out).mono ?_); rintro e w' ⟨rfl, ⟨nd, rfl⟩⟩; have p155 : 0 ≤ (x7_2 : Int) := of_decide_eq_true (aP75); have q155 : x7_2 < (t148.length : Int) := of_decide_eq_true (aP75); obtain ⟨ad155, e155, hx155_0⟩ := Kd.at_string (Kd.R_reads' HO_3.out).2.2 x7_2 p155 q155; obtain rfl : ad152 = ad155 := (by injection e155); replace p155 := eq_true p155; replace q155 := eq_true q155) | (go_at_call 72; (with_reducible refine (quipuref13_Letter.calls (rdOf ByteArray.empty t148 x7_2) t156 _ A12.out).mono ?_); rintro e w' ⟨rfl, ⟨nd, rfl⟩⟩))
           go_meet
           case rel => exact ⟨_, (t156), (aP77), H', ⟨by have := HK1.out; have := HK2.out; first | omega | exact Nat.le_refl _⟩, ⟨aP103⟩, ⟨aP80⟩⟩
        ·rw [if_neg c8] at H
         exact absurd H (by simp)
       ·rw [if_neg c7] at H
        have c7b0 : decide (x7_2 < (t148.length : Int)) = false := dFa c7
        clear c7
        (first | rw [c7b0] | (simp only [i64_w, i32_w]; rw [c7b0]) | skip)
        have H' := aMk H
        clear H
        go_wp2
        go_meet
        case rel => exact ⟨_, (false), (aP77), H', ⟨by have := HK1.out; have := HK2.out; first | omega | exact Nat.le_refl _⟩, ⟨aP103⟩, ⟨aP80⟩⟩
      case rest =>
       clear HC6
       try clear c1
       try clear p1
       try clear q1
       try clear hx1
       try clear p2
       try clear c4
       try clear c4b0
       try clear c6
       try clear c7
       try clear c7b0
       try clear c8
       try clear c8b0
       try clear c9
       try clear c9b0
       try clear c9b1
       try clear c11
       try clear c11b0
       try clear hx152_0
       try clear hx153_0
       try clear hx155_0
       try clear p152
       try clear p153
       try clear p155
       try clear p2
       try clear q152
       try clear q153
       try clear q155
       obtain ⟨kq, x45_5, rfl, HA, HJ5, HO_3, HB⟩ := hcut
       cases kq with
       | zero => exact absurd HA.out (by simp [quipuref13_text.j2])
       | succ kj5 =>
        have H := HA.out
        clear HA
        simp only [quipuref13_text.j2] at H
        by_cases c13 : x45_5 = true
        ·subst c13
         have H1 : (if 0 ≤ x7_2 then (if x7_2 < (t148.length : Int) then (if (rdOf ByteArray.empty t148 x7_2).toList = ([39] : List UInt8) then (if x9_2.size + 2 ≤ 9223372036854775807 then (quipuref13_text.l1 kj5 t148 x5_1 x6_1 (wrap64 (x7_2 + 1)) x8_2 (x9_2 ++ (⟨#[39, 39]⟩ : ByteArray))) else (none)) else (if x9_2.size + (rdOf ByteArray.empty t148 x7_2).size ≤ 9223372036854775807 then (quipuref13_text.l1 kj5 t148 x5_1 x6_1 (wrap64 (x7_2 + 1)) false (x9_2 ++ (rdOf ByteArray.empty t148 x7_2))) else (none))) else (none)) else (none)) = some r := aP79
         clear H
         have H := H1
         clear H1
         by_cases c14 : 0 ≤ x7_2
         ·rw [if_pos c14] at H
          have c14b0 : decide (0 ≤ x7_2) = true := dTr c14
          clear c14
          by_cases c15 : x7_2 < (t148.length : Int)
          ·rw [if_pos c15] at H
           have c15b0 : decide (x7_2 < (t148.length : Int)) = true := dTr c15
           clear c15
           by_cases c16 : (rdOf ByteArray.empty t148 x7_2).toList = ([39] : List UInt8)
           ·rw [if_pos c16] at H
            have c16b0 : ((rdOf ByteArray.empty t148 x7_2).toList == ([39] : List UInt8)) = true := beT c16
            have c16b1 : ((rdOf ByteArray.empty t148 x7_2).toList != ([39] : List UInt8)) = false := bnF c16
            clear c16
            by_cases c17 : x9_2.size + 2 ≤ 9223372036854775807
            ·rw [if_pos c17] at H
             have c17b0 := eq_true c17
             have c17s := c17
             (try simp only [ByteArray.size_append, show (⟨#[39]⟩ : ByteArray).size = 1 from rfl, show (⟨#[39, 39]⟩ : ByteArray).size = 2 from rfl] at c17s)
             try have c17s2 := eq_false (Nat.not_lt.2 c17s)
             have c17s1 := dTr c17s
             replace c17s := eq_true c17s
             have c17b1 : decide (x9_2.size + 2 ≤ 9223372036854775807) = true := dTr c17
             try have c17b2 : (9223372036854775807 < x9_2.size + 2) = False := eq_false (Nat.not_lt.2 c17)
             have H' := aMk H
             clear H
             have p157 : 0 ≤ (x7_2 : Int) := of_decide_eq_true (aP75)
             have q157 : x7_2 < (t148.length : Int) := of_decide_eq_true (aP75)
             obtain ⟨ad157, e157, hx157_0⟩ := Kd.at_string (Kd.R_reads' HO_3.out).2.2 x7_2 p157 q157
             cases e157
             replace p157 := eq_true p157
             replace q157 := eq_true q157
             go_wp2
             go_roundg kj5
             case measure => have := HK1.out; have := HK2.out; have := HJ5.out; omega
             case rel => exact ⟨(wrap64 (x7_2 + 1)), (x8_2), (x9_2 ++ (⟨#[39, 39]⟩ : ByteArray)), (aP77), (aP77), (aP77), H', ⟨aP104⟩, ⟨aP103⟩, ⟨aP80⟩⟩
            ·rw [if_neg c17] at H
             exact absurd H (by simp)
           ·rw [if_neg c16] at H
            have c16b0 : ((rdOf ByteArray.empty t148 x7_2).toList == ([39] : List UInt8)) = false := beF c16
            have c16b1 : ((rdOf ByteArray.empty t148 x7_2).toList != ([39] : List UInt8)) = true := bnT c16
            by_cases c18 : x9_2.size + (rdOf ByteArray.empty t148 x7_2).size ≤ 9223372036854775807
            ·rw [if_pos c18] at H
             have c18b0 := eq_true c18
             have c18s := c18
             (try simp only [ByteArray.size_append, show (⟨#[39]⟩ : ByteArray).size = 1 from rfl, show (⟨#[39, 39]⟩ : ByteArray).size = 2 from rfl] at c18s)
             try have c18s2 := eq_false (Nat.not_lt.2 c18s)
             have c18s1 := dTr c18s
             replace c18s := eq_true c18s
             have c18b1 : decide (x9_2.size + (rdOf ByteArray.empty t148 x7_2).size ≤ 9223372036854775807) = true := dTr c18
             try have c18b2 : (9223372036854775807 < x9_2.size + (rdOf ByteArray.empty t148 x7_2).size) = False := eq_false (Nat.not_lt.2 c18)
             have H' := aMk H
             clear H
             have p157 : 0 ≤ (x7_2 : Int) := of_decide_eq_true (aP75)
             have q157 : x7_2 < (t148.length : Int) := of_decide_eq_true (aP75)
             obtain ⟨ad157, e157, hx157_0⟩ := Kd.at_string (Kd.R_reads' HO_3.out).2.2 x7_2 p157 q157
             cases e157
             replace p157 := eq_true p157
             replace q157 := eq_true q157
             have p158 : 0 ≤ (x7_2 : Int) := of_decide_eq_true (aP75)
             have q158 : x7_2 < (t148.length : Int) := of_decide_eq_true (aP75)
             obtain ⟨ad158, e158, hx158_0⟩ := Kd.at_string (Kd.R_reads' HO_3.out).2.2 x7_2 p158 q158
             obtain rfl : ad157 = ad158 := (by injection e158)
             replace p158 := eq_true p158
             replace q158 := eq_true q158
             go_wp2
             go_roundg kj5
             case measure => have := HK1.out; have := HK2.out; have := HJ5.out; omega
             case rel => exact ⟨(wrap64 (x7_2 + 1)), (false), (x9_2 ++ (rdOf ByteArray.empty t148 x7_2)), (aP77), (aP77), (aP77), H', ⟨aP104⟩, ⟨aP103⟩, ⟨aP80⟩⟩
            ·rw [if_neg c18] at H
             exact absurd H (by simp)
          ·rw [if_neg c15] at H
           exact absurd H (by simp)
         ·rw [if_neg c14] at H
          exact absurd H (by simp)
        ·replace c13 := Bool.eq_false_iff.mpr c13
         subst c13
         have H1 : (if x7_2 = x6_1 then (if 0 ≤ x6_1 then (if x6_1 < (t148.length : Int) then (if x5_1.size + (rdOf ByteArray.empty t148 x6_1).size ≤ 9223372036854775807 then (quipuref13_text.l0 kj5 t148 (x5_1 ++ (rdOf ByteArray.empty t148 x6_1)) (wrap64 (x6_1 + 1))) else (none)) else (none)) else (none)) else (if x8_2 = true then (if x5_1.size + x9_2.size ≤ 9223372036854775807 then (quipuref13_text.l0 kj5 t148 (x5_1 ++ x9_2) x7_2) else (none)) else (if 1 + x9_2.size ≤ 9223372036854775807 then (if ((⟨#[39]⟩ : ByteArray) ++ x9_2).size + 1 ≤ 9223372036854775807 then (if x5_1.size + (((⟨#[39]⟩ : ByteArray) ++ x9_2) ++ (⟨#[39]⟩ : ByteArray)).size ≤ 9223372036854775807 then (quipuref13_text.l0 kj5 t148 (x5_1 ++ (((⟨#[39]⟩ : ByteArray) ++ x9_2) ++ (⟨#[39]⟩ : ByteArray))) x7_2) else (none)) else (none)) else (none)))) = some r := aP74
         clear H
         have H := H1
         clear H1
         by_cases c19 : x7_2 = x6_1
         ·rw [if_pos c19] at H
          have c19b0 : (x7_2 == x6_1) = true := beT c19
          have c19b1 : (x7_2 != x6_1) = false := bnF c19
          clear c19
          by_cases c20 : 0 ≤ x6_1
          ·rw [if_pos c20] at H
           have c20b0 : decide (0 ≤ x6_1) = true := dTr c20
           clear c20
           by_cases c21 : x6_1 < (t148.length : Int)
           ·rw [if_pos c21] at H
            have c21b0 : decide (x6_1 < (t148.length : Int)) = true := dTr c21
            clear c21
            by_cases c22 : x5_1.size + (rdOf ByteArray.empty t148 x6_1).size ≤ 9223372036854775807
            ·rw [if_pos c22] at H
             have c22b0 := eq_true c22
             have c22s := c22
             (try simp only [ByteArray.size_append, show (⟨#[39]⟩ : ByteArray).size = 1 from rfl, show (⟨#[39, 39]⟩ : ByteArray).size = 2 from rfl] at c22s)
             try have c22s2 := eq_false (Nat.not_lt.2 c22s)
             have c22s1 := dTr c22s
             replace c22s := eq_true c22s
             have c22b1 : decide (x5_1.size + (rdOf ByteArray.empty t148 x6_1).size ≤ 9223372036854775807) = true := dTr c22
             try have c22b2 : (9223372036854775807 < x5_1.size + (rdOf ByteArray.empty t148 x6_1).size) = False := eq_false (Nat.not_lt.2 c22)
             have H' := aMk H
             clear H
             have p159 : 0 ≤ (x6_1 : Int) := of_decide_eq_true (aP75)
             have q159 : x6_1 < (t148.length : Int) := of_decide_eq_true (aP75)
             obtain ⟨ad159, e159, hx159_0⟩ := Kd.at_string (Kd.R_reads' HO_3.out).2.2 x6_1 p159 q159
             cases e159
             replace p159 := eq_true p159
             replace q159 := eq_true q159
             go_wp2
             go_roundg kj5
             case measure => have := HK1.out; have := HK2.out; have := HJ5.out; omega
             case rel => exact ⟨(x5_1 ++ (rdOf ByteArray.empty t148 x6_1)), (wrap64 (x6_1 + 1)), (aP77), (aP77), H', ⟨aP104⟩, ⟨aP103⟩, ⟨aP80⟩⟩
            ·rw [if_neg c22] at H
             exact absurd H (by simp)
           ·rw [if_neg c21] at H
            exact absurd H (by simp)
          ·rw [if_neg c20] at H
           exact absurd H (by simp)
         ·rw [if_neg c19] at H
          have c19b0 : (x7_2 == x6_1) = false := beF c19
          have c19b1 : (x7_2 != x6_1) = true := bnT c19
          by_cases c23 : x8_2 = true
          ·subst c23
           have H1 : (if x5_1.size + x9_2.size ≤ 9223372036854775807 then (quipuref13_text.l0 kj5 t148 (x5_1 ++ x9_2) x7_2) else (none)) = some r := aP79
           clear H
           have H := H1
           clear H1
           by_cases c24 : x5_1.size + x9_2.size ≤ 9223372036854775807
           ·rw [if_pos c24] at H
            have c24b0 := eq_true c24
            have c24s := c24
            (try simp only [ByteArray.size_append, show (⟨#[39]⟩ : ByteArray).size = 1 from rfl, show (⟨#[39, 39]⟩ : ByteArray).size = 2 from rfl] at c24s)
            try have c24s2 := eq_false (Nat.not_lt.2 c24s)
            have c24s1 := dTr c24s
            replace c24s := eq_true c24s
            have c24b1 : decide (x5_1.size + x9_2.size ≤ 9223372036854775807) = true := dTr c24
            try have c24b2 : (9223372036854775807 < x5_1.size + x9_2.size) = False := eq_false (Nat.not_lt.2 c24)
            have H' := aMk H
            clear H
            go_wp2
            go_roundg kj5
            case measure => have := HK1.out; have := HK2.out; have := HJ5.out; omega
            case rel => exact ⟨(x5_1 ++ x9_2), (x7_2), (aP77), (aP77), H', ⟨aP104⟩, ⟨aP103⟩, ⟨aP80⟩⟩
           ·rw [if_neg c24] at H
            exact absurd H (by simp)
          ·replace c23 := Bool.eq_false_iff.mpr c23
           subst c23
           have H1 : (if 1 + x9_2.size ≤ 9223372036854775807 then (if ((⟨#[39]⟩ : ByteArray) ++ x9_2).size + 1 ≤ 9223372036854775807 then (if x5_1.size + (((⟨#[39]⟩ : ByteArray) ++ x9_2) ++ (⟨#[39]⟩ : ByteArray)).size ≤ 9223372036854775807 then (quipuref13_text.l0 kj5 t148 (x5_1 ++ (((⟨#[39]⟩ : ByteArray) ++ x9_2) ++ (⟨#[39]⟩ : ByteArray))) x7_2) else (none)) else (none)) else (none)) = some r := aP74
           clear H
           have H := H1
           clear H1
           by_cases c25 : 1 + x9_2.size ≤ 9223372036854775807
           ·rw [if_pos c25] at H
            have c25b0 := eq_true c25
            have c25s := c25
            (try simp only [ByteArray.size_append, show (⟨#[39]⟩ : ByteArray).size = 1 from rfl, show (⟨#[39, 39]⟩ : ByteArray).size = 2 from rfl] at c25s)
            try have c25s2 := eq_false (Nat.not_lt.2 c25s)
            have c25s1 := dTr c25s
            replace c25s := eq_true c25s
            have c25b1 : decide (1 + x9_2.size ≤ 9223372036854775807) = true := dTr c25
            try have c25b2 : (9223372036854775807 < 1 + x9_2.size) = False := eq_false (Nat.not_lt.2 c25)
            by_cases c26 : ((⟨#[39]⟩ : ByteArray) ++ x9_2).size + 1 ≤ 9223372036854775807
            ·rw [if_pos c26] at H
             have c26b0 := eq_true c26
             have c26s := c26
             (try simp only [ByteArray.size_append, show (⟨#[39]⟩ : ByteArray).size = 1 from rfl, show (⟨#[39, 39]⟩ : ByteArray).size = 2 from rfl] at c26s)
             try have c26s2 := eq_false (Nat.not_lt.2 c26s)
             have c26s1 := dTr c26s
             replace c26s := eq_true c26s
             have c26b1 : decide (((⟨#[39]⟩ : ByteArray) ++ x9_2).size + 1 ≤ 9223372036854775807) = true := dTr c26
             try have c26b2 : (9223372036854775807 < ((⟨#[39]⟩ : ByteArray) ++ x9_2).size + 1) = False := eq_false (Nat.not_lt.2 c26)
             by_cases c27 : x5_1.size + (((⟨#[39]⟩ : ByteArray) ++ x9_2) ++ (⟨#[39]⟩ : ByteArray)).size ≤ 9223372036854775807
             ·rw [if_pos c27] at H
              have c27b0 := eq_true c27
              have c27s := c27
              (try simp only [ByteArray.size_append, show (⟨#[39]⟩ : ByteArray).size = 1 from rfl, show (⟨#[39, 39]⟩ : ByteArray).size = 2 from rfl] at c27s)
              try have c27s2 := eq_false (Nat.not_lt.2 c27s)
              have c27s1 := dTr c27s
              replace c27s := eq_true c27s
              have c27b1 : decide (x5_1.size + (((⟨#[39]⟩ : ByteArray) ++ x9_2) ++ (⟨#[39]⟩ : ByteArray)).size ≤ 9223372036854775807) = true := dTr c27
              try have c27b2 : (9223372036854775807 < x5_1.size + (((⟨#[39]⟩ : ByteArray) ++ x9_2) ++ (⟨#[39]⟩ : ByteArray)).size) = False := eq_false (Nat.not_lt.2 c27)
              have H' := aMk H
              clear H
              go_wp2
              go_roundg kj5
              case measure => have := HK1.out; have := HK2.out; have := HJ5.out; omega
              case rel => exact ⟨(x5_1 ++ (((⟨#[39]⟩ : ByteArray) ++ x9_2) ++ (⟨#[39]⟩ : ByteArray))), (x7_2), (aP77), (aP77), H', ⟨aP104⟩, ⟨aP103⟩, ⟨aP80⟩⟩
             ·rw [if_neg c27] at H
              exact absurd H (by simp)
            ·rw [if_neg c26] at H
             exact absurd H (by simp)
           ·rw [if_neg c25] at H
            exact absurd H (by simp)
   ·rw [if_neg c4] at H
    have c4b0 : decide (x6_1 < (t148.length : Int)) = false := dFa c4
    clear c4
    obtain rfl := Option.some.inj H
    obtain ⟨Ao28, co28, eo28⟩ := Kd.R_slice HO_3.out
    subst eo28
    exact aP44
end Go.Proofs.Ytacnjemndfmbhaa.Q
end
