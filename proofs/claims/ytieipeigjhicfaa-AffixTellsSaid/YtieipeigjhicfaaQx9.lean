-- printed by a program of this session (wip/tools/print2.sh) after the kit's print
import Derived.Test.YtieipeigjhicfaaQx0
import Derived.Test.YtieipeigjhicfaaQx1
import Derived.Test.YtieipeigjhicfaaQx2
import Derived.Test.YtieipeigjhicfaaQx3
import Derived.Test.YtieipeigjhicfaaQx8
namespace Go.Proofs.Ytieipeigjhicfaa.Q
open Go.RowKit Go.Proofs.YtieipeigjhicfaaW.PrintWords Go.Proofs.YtieipeigjhicfaaW.PrintLast Go.Proofs.YtieipeigjhicfaaW.PrintMore
attribute [local go_sem] max2_int min2_int max_two min_two max_three min_three max_four min_four   -- for this text's walks alone
set_option linter.unusedVariables false
set_option linter.unusedSimpArgs false

attribute [local go_sem high] eqA32
/-! ### quipuref13_Same: function 15 -/
def quipuref13_Same.l0 : Nat → List (S32) → List (S32) → Int → Option (Bool)
  | 0, _, _, _ => none
  | k + 1, x0, x1, x5 => if x5 < (x0.length : Int) then (if 0 ≤ x5 then (if x5 < (x1.length : Int) then (if (!(((rd_T32 x0 x5).f0) == ((rd_T32 x1 x5).f0)) || (!(((rd_T32 x0 x5).f1) == ((rd_T32 x1 x5).f1)) || (!((((rd_T32 x0 x5).f2).toList) == (((rd_T32 x1 x5).f2).toList))))) = true then (some false) else (quipuref13_Same.l0 k x0 x1 (wrap64 (x5 + 1)))) else (none)) else (none)) else (some true)
def quipuref13_Same.f (k : Nat) (l0 : List (S32)) (l1 : List (S32)) : Option (Bool) := if (l0.length : Int) = (l1.length : Int) then (quipuref13_Same.l0 k l0 l1 0) else (some false)
theorem quipuref13_Same.mono_l : ∀ k, (∀ y0 y1 y2, LeO (quipuref13_Same.l0 k y0 y1 y2) (quipuref13_Same.l0 (k + 1) y0 y1 y2))
  | 0 => fun _ _ _ r h => by simp [quipuref13_Same.l0] at h
  | k + 1 => by
    have ih0 := quipuref13_Same.mono_l k
    · intro y0 y1 y2
      unfold quipuref13_Same.l0
      repeat' first
      | (with_reducible exact ih0 _ _ _)
      | (with_reducible exact LeO.refl _)
      | (with_reducible exact LeO.none _)
      | (with_reducible refine LeO.ite ?_ ?_)
      | (with_reducible refine LeO.bind ?_ (fun _ => ?_))
      | exact ih0 _ _ _
      | exact LeO.none _
      | refine LeO.ite ?_ ?_
      | refine LeO.bind ?_ (fun _ => ?_)
theorem quipuref13_Same.mono : ∀ a0 a1 k, LeO (quipuref13_Same.f k a0 a1) (quipuref13_Same.f (k + 1) a0 a1) := by
  intro a0 a1 k
  have ih0 := quipuref13_Same.mono_l k
  unfold quipuref13_Same.f
  repeat' first
      | (with_reducible exact ih0 _ _ _)
      | (with_reducible exact LeO.refl _)
      | (with_reducible exact LeO.none _)
      | (with_reducible refine LeO.ite ?_ ?_)
      | (with_reducible refine LeO.bind ?_ (fun _ => ?_))
      | exact ih0 _ _ _
      | exact LeO.none _
      | refine LeO.ite ?_ ?_
      | refine LeO.bind ?_ (fun _ => ?_)
set_option maxHeartbeats 8000000 in
set_option maxRecDepth 100000 in
theorem quipuref13_Same.calls (k : Nat) (A0 : Option Addr) (c0 : Nat) (l0 : List (S32)) (A1 : Option Addr) (c1 : Nat) (l1 : List (S32)) (r : Bool) (w : World) (hr0 : Kd.C k32 w A0 l0.length l0) (hc0 : l0.length ≤ c0) (hr1 : Kd.C k32 w A1 l1.length l1) (hc1 : l1.length ≤ c1) (h : quipuref13_Same.f k l0 l1 = some r) :
    Calls Try.prog 15 #[.slice A0 l0.length c0, .slice A1 l1.length c1] w fun e w' => e = .returned (.bool r) ∧ Drawn0 w w' := by
  have hu32 := Try.underlying32
  have HR0 := Aside0.mk hr0
  have HC0 := Aside0.mk hc0
  clear hr0 hc0
  have HR1 := Aside0.mk hr1
  have HC1 := Aside0.mk hc1
  clear hr1 hc1
  have H : (if (l0.length : Int) = (l1.length : Int) then (quipuref13_Same.l0 k l0 l1 0) else (some false)) = some r := h
  clear h
  by_cases c3 : (l0.length : Int) = (l1.length : Int)
  · rw [if_pos c3] at H
    have c3b0 : ((l0.length : Int) == (l1.length : Int)) = true := beq_iff_eq.mpr c3
    have c3b1 : ((l0.length : Int) != (l1.length : Int)) = false := bne_eq_false_iff_eq.mpr c3
    have c3b2 : (l0.length == l1.length) = true := by first | simpa using c3 | (simp at c3 ⊢; omega)
    clear c3
    have H' := Aside0.mk H
    clear H
    go_enter Try.func15, Try.ntmps15
    go_wp2
    repeat (go_quiet (fail); try go_wp2)
    go_loopg [5] k (fun kq v5 w' => ∃ (x5_1 : Int), v5 = .int .i64 x5_1 ∧ Aside0 (quipuref13_Same.l0 kq l0 l1 x5_1 = some r) ∧ Aside0 (kq ≤ k) ∧ Drawn0 w w')
    case atStart => exact ⟨(0), (by first | rfl | (simp; done) | (simp [*]; done)), H', ⟨Nat.le_refl _⟩, by repeat (first | exact Drawn0.refl _ | apply Drawn0.step)⟩
    case round =>
      clear H'
      try clear c1
      try clear p2
      try clear c3
      try clear c3b0
      try clear c3b1
      try clear c3b2
      obtain ⟨x5_1, rfl, HA, HK1, ⟨m1, rfl⟩⟩ := hrel
      cases gk with
      | zero => exact absurd HA.out (by simp [quipuref13_Same.l0])
      | succ k1 =>
        have H := HA.out
        clear HA
        simp only [quipuref13_Same.l0] at H
        by_cases c4 : x5_1 < (l0.length : Int)
        · rw [if_pos c4] at H
          have c4b0 : decide (x5_1 < (l0.length : Int)) = true := decide_eq_true c4
          clear c4
          by_cases c5 : 0 ≤ x5_1
          · rw [if_pos c5] at H
            have c5b0 : decide (0 ≤ x5_1) = true := decide_eq_true c5
            clear c5
            by_cases c6 : x5_1 < (l1.length : Int)
            · rw [if_pos c6] at H
              have c6b0 : decide (x5_1 < (l1.length : Int)) = true := decide_eq_true c6
              clear c6
              by_cases c7 : (!(((rd_T32 l0 x5_1).f0) == ((rd_T32 l1 x5_1).f0)) || (!(((rd_T32 l0 x5_1).f1) == ((rd_T32 l1 x5_1).f1)) || (!((((rd_T32 l0 x5_1).f2).toList) == (((rd_T32 l1 x5_1).f2).toList))))) = true
              · rw [if_pos c7] at H
                have c7b0 : (!(((rd_T32 l0 x5_1).f0) == ((rd_T32 l1 x5_1).f0)) || (!(((rd_T32 l0 x5_1).f1) == ((rd_T32 l1 x5_1).f1)) || (!((((rd_T32 l0 x5_1).f2).toList) == (((rd_T32 l1 x5_1).f2).toList))))) = true := c7
                clear c7
                obtain rfl := Option.some.inj H
                have p188 : 0 ≤ (x5_1 : Int) := of_decide_eq_true (by first | (with_reducible assumption) | assumption)
                have q188 : x5_1 < (l0.length : Int) := of_decide_eq_true (by first | (with_reducible assumption) | assumption)
                obtain ⟨ad188, e188, hx188_0, hx188_1, hx188_2⟩ := at_T32 HR0.out x5_1 p188 q188
                cases e188
                replace p188 := eq_true p188
                replace q188 := eq_true q188
                have p189 : 0 ≤ (x5_1 : Int) := of_decide_eq_true (by first | (with_reducible assumption) | assumption)
                have q189 : x5_1 < (l1.length : Int) := of_decide_eq_true (by first | (with_reducible assumption) | assumption)
                obtain ⟨ad189, e189, hx189_0, hx189_1, hx189_2⟩ := at_T32 HR1.out x5_1 p189 q189
                cases e189
                replace p189 := eq_true p189
                replace q189 := eq_true q189
                go_wp2
                repeat (go_quiet (fail); try go_wp2)
                go_ret
                exact ⟨by first | rfl | (simp; done) | (simp [*]; done), by repeat (first | exact Drawn0.refl _ | apply Drawn0.step)⟩
              · rw [if_neg c7] at H
                have c7b0 : (!(((rd_T32 l0 x5_1).f0) == ((rd_T32 l1 x5_1).f0)) || (!(((rd_T32 l0 x5_1).f1) == ((rd_T32 l1 x5_1).f1)) || (!((((rd_T32 l0 x5_1).f2).toList) == (((rd_T32 l1 x5_1).f2).toList))))) = false := by simpa using c7
                clear c7
                have H' := Aside0.mk H
                clear H
                have p188 : 0 ≤ (x5_1 : Int) := of_decide_eq_true (by first | (with_reducible assumption) | assumption)
                have q188 : x5_1 < (l0.length : Int) := of_decide_eq_true (by first | (with_reducible assumption) | assumption)
                obtain ⟨ad188, e188, hx188_0, hx188_1, hx188_2⟩ := at_T32 HR0.out x5_1 p188 q188
                cases e188
                replace p188 := eq_true p188
                replace q188 := eq_true q188
                have p189 : 0 ≤ (x5_1 : Int) := of_decide_eq_true (by first | (with_reducible assumption) | assumption)
                have q189 : x5_1 < (l1.length : Int) := of_decide_eq_true (by first | (with_reducible assumption) | assumption)
                obtain ⟨ad189, e189, hx189_0, hx189_1, hx189_2⟩ := at_T32 HR1.out x5_1 p189 q189
                cases e189
                replace p189 := eq_true p189
                replace q189 := eq_true q189
                go_wp2
                repeat (go_quiet (fail); try go_wp2)
                go_roundg k1
                case measure => have := HK1.out; omega
                case rel => exact ⟨(wrap64 (x5_1 + 1)), (by first | rfl | (simp; done) | (simp [*]; done)), H', ⟨by have := HK1.out; omega⟩, by repeat (first | exact Drawn0.refl _ | apply Drawn0.step)⟩
            · rw [if_neg c6] at H
              exact absurd H (by simp)
          · rw [if_neg c5] at H
            exact absurd H (by simp)
        · rw [if_neg c4] at H
          have c4b0 : decide (x5_1 < (l0.length : Int)) = false := decide_eq_false c4
          clear c4
          obtain rfl := Option.some.inj H
          go_wp2
          repeat (go_quiet (fail); try go_wp2)
          go_ret
          exact ⟨by first | rfl | (simp; done) | (simp [*]; done), by repeat (first | exact Drawn0.refl _ | apply Drawn0.step)⟩
  · rw [if_neg c3] at H
    have c3b0 : ((l0.length : Int) == (l1.length : Int)) = false := beq_eq_false_iff_ne.mpr c3
    have c3b1 : ((l0.length : Int) != (l1.length : Int)) = true := bne_iff_ne.mpr c3
    have c3b2 : (l0.length == l1.length) = false := by first | simpa using c3 | (simp at c3 ⊢; omega)
    obtain rfl := Option.some.inj H
    go_enter Try.func15, Try.ntmps15
    go_wp2
    repeat (go_quiet (fail); try go_wp2)
    go_ret
    exact ⟨by first | rfl | (simp; done) | (simp [*]; done), by repeat (first | exact Drawn0.refl _ | apply Drawn0.step)⟩

/-! ### affix_Has: function 16 (given) -/
theorem has1_calls (p : Addr) (k a b : Int) (c : ByteArray) (w : World) (hp : w.cell? p = some (.int .i64 k)) :
    Calls Try.prog 29 #[.agg #[.int .i64 a, .int .i64 b, .string c], .pointer (some p)] w fun e w' => e = .returned (.bool (a == k)) ∧ Below w.heap.size w w' := by
  have hu32 := Try.underlying32
  have HB := Aside0.mk (Below.refl w.heap.size w)
  have hlt := World.block_lt_of_cell? w _ hp
  go_enter Try.func29, Try.ntmps29
  go_wp2
  go_ret
  exact ⟨by first | rfl | simp, by repeat (first | exact HB.out | apply below_alloc | apply pw_below_drewN)⟩
theorem any_drop_cons (l : List S32) (i : Nat) (h : i < l.length) (a : Int) : (l.drop i).any (fun t => t.f0 == a) = ((rd_T32 l (i : Int)).f0 == a || (l.drop (i + 1)).any (fun t => t.f0 == a)) := by
  rw [List.drop_eq_getElem_cons h, List.any_cons]
  congr 2
  show _ = (l.getD (i : Int).toNat z32).f0
  rw [Int.toNat_natCast, List.getD_eq_getElem?_getD, List.getElem?_eq_getElem h]
  rfl
set_option maxHeartbeats 4000000 in
set_option maxRecDepth 100000 in
theorem indexFunc_calls (A0 : Option Addr) (c0 : Nat) (l0 : List S32) (p : Addr) (a1 : Int) (w : World) (hr0 : Kd.C k32 w A0 l0.length l0) (hb : l0.length ≤ 4611686018427387904) (hp : w.cell? p = some (.int .i64 a1)) :
    Calls Try.prog 49 #[.slice A0 l0.length c0, .func (.func 29) #[] #[.pointer (some p)]] w fun e w' => ∃ i : Int, e = .returned (.int .i64 i) ∧ decide (i ≥ 0) = l0.any (fun t => t.f0 == a1) ∧ Below w.heap.size w w' := by
  have hu32 := Try.underlying32
  have HR0 := Aside0.mk hr0
  have HP := Aside0.mk hp
  have HL := Aside0.mk hb
  clear hr0 hp hb
  go_enter Try.func49, Try.ntmps49
  go_wp2
  go_loopg [5, 8] l0.length (fun gk v5 v8 wr => ∃ i : Nat, v8 = .int .i64 i ∧ Aside0 (i + gk = l0.length ∧ l0.any (fun t => t.f0 == a1) = (l0.drop i).any (fun t => t.f0 == a1)) ∧ Aside0 (Below w.heap.size w wr))
  case atStart => exact ⟨0, rfl, ⟨by omega, by simp⟩, ⟨Below.refl _ _⟩⟩
  case round =>
    obtain ⟨i, rfl, HI, HB⟩ := hrel
    cases gk with
    | zero =>
      have hd : decide ((i : Int) < (l0.length : Int)) = false := decide_eq_false (by have := HI.out.1; omega)
      have hd2 : decide (i < l0.length) = false := decide_eq_false (by have := HI.out.1; omega)
      go_wp2
      go_ret
      exact ⟨-1, rfl, by rw [HI.out.2, List.drop_eq_nil_of_le (by have := HI.out.1; omega)]; rfl, HB.out⟩
    | succ gk' =>
      have hlt : i < l0.length := by have := HI.out.1; omega
      have HA := Aside0.mk (any_drop_cons l0 i hlt a1)
      have hd : decide ((i : Int) < (l0.length : Int)) = true := decide_eq_true (by omega)
      have hd2 : decide (i < l0.length) = true := decide_eq_true hlt
      have p1 : 0 ≤ (i : Int) := by omega
      have q1 : (i : Int) < (l0.length : Int) := by omega
      obtain ⟨ad1, e1, hx_0, hx_1, hx_2⟩ := at_T32 HR0.out i p1 q1
      cases e1
      replace hx_0 := (HB.out.cell (World.block_lt_of_cell? w _ hx_0)).trans hx_0
      replace hx_1 := (HB.out.cell (World.block_lt_of_cell? w _ hx_1)).trans hx_1
      replace hx_2 := (HB.out.cell (World.block_lt_of_cell? w _ hx_2)).trans hx_2
      simp only [Int.toNat_natCast] at hx_0 hx_1 hx_2
      have HP2 := Aside0.mk ((HB.out.cell (World.block_lt_of_cell? w _ HP.out)).trans HP.out)
      clear hlt
      replace p1 := eq_true p1
      replace q1 := eq_true q1
      by_cases hk : (rd_T32 l0 (i : Int)).f0 = a1
      · have hk1 : ((rd_T32 l0 (i : Int)).f0 == a1) = true := beq_iff_eq.mpr hk
        have HK := Aside0.mk hk1
        go_wp2_with (first | (go_at_call 29; (with_reducible refine (has1_calls p a1 _ _ _ _ HP2.out).mono ?_); rintro e w1 ⟨rfl, hb⟩; have n_ := Aside0.mk (below_step HB.out hb); clear HB; have HB := n_; clear n_ hb))
        go_ret
        exact ⟨i, rfl, by rw [HI.out.2, HA.out, HK.out]; simp, HB.out⟩
      · have hk1 : ((rd_T32 l0 (i : Int)).f0 == a1) = false := beq_eq_false_iff_ne.mpr hk
        have HK := Aside0.mk hk1
        go_wp2_with (first | (go_at_call 29; (with_reducible refine (has1_calls p a1 _ _ _ _ HP2.out).mono ?_); rintro e w1 ⟨rfl, hb⟩; have n_ := Aside0.mk (below_step HB.out hb); clear HB; have HB := n_; clear n_ hb))
        go_roundg gk'
        case measure => omega
        case rel => exact ⟨i + 1, by first | (with_reducible rfl) | (have := HI.out.1; have := HL.out; congr 1; unfold wrap64; omega), ⟨by have := HI.out.1; omega, by rw [HI.out.2, HA.out, HK.out]; simp⟩, HB⟩
theorem containsFunc_calls (A0 : Option Addr) (c0 : Nat) (l0 : List S32) (p : Addr) (a1 : Int) (w : World) (hr0 : Kd.C k32 w A0 l0.length l0) (hb : l0.length ≤ 4611686018427387904) (hp : w.cell? p = some (.int .i64 a1)) :
    Calls Try.prog 28 #[.slice A0 l0.length c0, .func (.func 29) #[] #[.pointer (some p)]] w fun e w' => e = .returned (.bool (l0.any (fun t => t.f0 == a1))) ∧ Below w.heap.size w w' := by
  have HI := Aside0.mk (indexFunc_calls A0 c0 l0 p a1 w hr0 hb hp)
  clear hr0 hp hb
  go_enter Try.func28, Try.ntmps28
  go_wp2_with (first | (go_at_call 49; (with_reducible refine (HI.out).mono ?_); rintro e w1 ⟨i, rfl, hi, hb⟩; have HB := Aside0.mk hb; have HI2 := Aside0.mk hi; clear hb hi))
  go_ret
  exact ⟨by rw [← HI2.out]; rfl, HB.out⟩
def affix_Has.f (a0 : List S32) (a1 : Int) : Option Bool := if a0.length ≤ 4611686018427387904 then some (a0.any (fun t => t.f0 == a1)) else none
theorem affix_Has.calls (A0 : Option Addr) (c0 : Nat) (l0 : List S32) (a1 : Int) (r : Bool) (w : World) (hr0 : Kd.C k32 w A0 l0.length l0) (hc0 : l0.length ≤ c0) (h : affix_Has.f l0 a1 = some r) :
    Calls Try.prog 16 #[.slice A0 l0.length c0, .int .i64 a1] w fun e w' => e = .returned (.bool r) ∧ Below w.heap.size w w' := by
  unfold affix_Has.f at h
  by_cases hl : l0.length ≤ 4611686018427387904
  case neg => rw [if_neg hl] at h; exact absurd h (by simp)
  rw [if_pos hl] at h
  obtain rfl := Option.some.inj h
  have HR0 := Aside0.mk hr0
  have HL := Aside0.mk hl
  clear h hr0 hl
  go_enter Try.func16, Try.ntmps16
  go_wp2_with (first | (go_at_call 28; (with_reducible refine (containsFunc_calls A0 c0 l0 ⟨w.heap.size, 0, none⟩ a1 _ (Kd.C_below HR0.out (below_alloc (Below.refl _ _) _)) HL.out ?side1).mono ?_); (case side1 => simp); rintro e w1 ⟨rfl, hb⟩; have HB := Aside0.mk (below_step (below_alloc (Below.refl _ w) _) hb); clear hb))
  go_ret
  exact ⟨rfl, HB.out⟩


/-! ### quipuref13_Has: function 17 -/
def quipuref13_Has.l0 : Nat → List (S32) → Int → Int → Option (Bool)
  | 0, _, _, _ => none
  | k + 1, x0, x1, x5 => if x5 < (x0.length : Int) then (if 0 ≤ x5 then (if ((rd_T32 x0 x5).f0) = x1 then (some true) else (quipuref13_Has.l0 k x0 x1 (wrap64 (x5 + 1)))) else (none)) else (some false)
def quipuref13_Has.f (k : Nat) (l0 : List (S32)) (a1 : Int) : Option (Bool) := quipuref13_Has.l0 k l0 a1 0
theorem quipuref13_Has.mono_l : ∀ k, (∀ y0 y1 y2, LeO (quipuref13_Has.l0 k y0 y1 y2) (quipuref13_Has.l0 (k + 1) y0 y1 y2))
  | 0 => fun _ _ _ r h => by simp [quipuref13_Has.l0] at h
  | k + 1 => by
    have ih0 := quipuref13_Has.mono_l k
    · intro y0 y1 y2
      unfold quipuref13_Has.l0
      repeat' first
      | (with_reducible exact ih0 _ _ _)
      | (with_reducible exact LeO.refl _)
      | (with_reducible exact LeO.none _)
      | (with_reducible refine LeO.ite ?_ ?_)
      | (with_reducible refine LeO.bind ?_ (fun _ => ?_))
      | exact ih0 _ _ _
      | exact LeO.none _
      | refine LeO.ite ?_ ?_
      | refine LeO.bind ?_ (fun _ => ?_)
theorem quipuref13_Has.mono : ∀ a0 a1 k, LeO (quipuref13_Has.f k a0 a1) (quipuref13_Has.f (k + 1) a0 a1) := by
  intro a0 a1 k
  have ih0 := quipuref13_Has.mono_l k
  unfold quipuref13_Has.f
  repeat' first
      | (with_reducible exact ih0 _ _ _)
      | (with_reducible exact LeO.refl _)
      | (with_reducible exact LeO.none _)
      | (with_reducible refine LeO.ite ?_ ?_)
      | (with_reducible refine LeO.bind ?_ (fun _ => ?_))
      | exact ih0 _ _ _
      | exact LeO.none _
      | refine LeO.ite ?_ ?_
      | refine LeO.bind ?_ (fun _ => ?_)
set_option maxHeartbeats 8000000 in
set_option maxRecDepth 100000 in
theorem quipuref13_Has.calls (k : Nat) (A0 : Option Addr) (c0 : Nat) (l0 : List (S32)) (a1 : Int) (r : Bool) (w : World) (hr0 : Kd.C k32 w A0 l0.length l0) (hc0 : l0.length ≤ c0) (h : quipuref13_Has.f k l0 a1 = some r) :
    Calls Try.prog 17 #[.slice A0 l0.length c0, .int .i64 a1] w fun e w' => e = .returned (.bool r) ∧ Drawn0 w w' := by
  have HR0 := Aside0.mk hr0
  have HC0 := Aside0.mk hc0
  clear hr0 hc0
  have H : (quipuref13_Has.l0 k l0 a1 0) = some r := h
  clear h
  have H' := Aside0.mk H
  clear H
  go_enter Try.func17, Try.ntmps17
  go_wp2
  go_loopg [5] k (fun kq v5 w' => ∃ (x5_1 : Int), v5 = .int .i64 x5_1 ∧ Aside0 (quipuref13_Has.l0 kq l0 a1 x5_1 = some r) ∧ Aside0 (kq ≤ k) ∧ Drawn0 w w')
  case atStart => exact ⟨(0), (by first | rfl | (simp; done) | (simp [*]; done)), H', ⟨Nat.le_refl _⟩, by repeat (first | exact Drawn0.refl _ | apply Drawn0.step)⟩
  case round =>
    clear H'
    try clear c1
    try clear p2
    obtain ⟨x5_1, rfl, HA, HK1, ⟨m1, rfl⟩⟩ := hrel
    cases gk with
    | zero => exact absurd HA.out (by simp [quipuref13_Has.l0])
    | succ k1 =>
      have H := HA.out
      clear HA
      simp only [quipuref13_Has.l0] at H
      by_cases c3 : x5_1 < (l0.length : Int)
      · rw [if_pos c3] at H
        have c3b0 : decide (x5_1 < (l0.length : Int)) = true := decide_eq_true c3
        clear c3
        by_cases c4 : 0 ≤ x5_1
        · rw [if_pos c4] at H
          have c4b0 : decide (0 ≤ x5_1) = true := decide_eq_true c4
          clear c4
          by_cases c5 : ((rd_T32 l0 x5_1).f0) = a1
          · rw [if_pos c5] at H
            have c5b0 : (((rd_T32 l0 x5_1).f0) == a1) = true := beq_iff_eq.mpr c5
            have c5b1 : (((rd_T32 l0 x5_1).f0) != a1) = false := bne_eq_false_iff_eq.mpr c5
            clear c5
            obtain rfl := Option.some.inj H
            have p190 : 0 ≤ (x5_1 : Int) := of_decide_eq_true (by first | (with_reducible assumption) | assumption)
            have q190 : x5_1 < (l0.length : Int) := of_decide_eq_true (by first | (with_reducible assumption) | assumption)
            obtain ⟨ad190, e190, hx190_0, hx190_1, hx190_2⟩ := at_T32 HR0.out x5_1 p190 q190
            cases e190
            replace p190 := eq_true p190
            replace q190 := eq_true q190
            go_wp2
            go_ret
            exact ⟨by first | rfl | (simp; done) | (simp [*]; done), by repeat (first | exact Drawn0.refl _ | apply Drawn0.step)⟩
          · rw [if_neg c5] at H
            have c5b0 : (((rd_T32 l0 x5_1).f0) == a1) = false := beq_eq_false_iff_ne.mpr c5
            have c5b1 : (((rd_T32 l0 x5_1).f0) != a1) = true := bne_iff_ne.mpr c5
            have H' := Aside0.mk H
            clear H
            have p190 : 0 ≤ (x5_1 : Int) := of_decide_eq_true (by first | (with_reducible assumption) | assumption)
            have q190 : x5_1 < (l0.length : Int) := of_decide_eq_true (by first | (with_reducible assumption) | assumption)
            obtain ⟨ad190, e190, hx190_0, hx190_1, hx190_2⟩ := at_T32 HR0.out x5_1 p190 q190
            cases e190
            replace p190 := eq_true p190
            replace q190 := eq_true q190
            go_wp2
            go_roundg k1
            case measure => have := HK1.out; omega
            case rel => exact ⟨(wrap64 (x5_1 + 1)), (by first | rfl | (simp; done) | (simp [*]; done)), H', ⟨by have := HK1.out; omega⟩, by repeat (first | exact Drawn0.refl _ | apply Drawn0.step)⟩
        · rw [if_neg c4] at H
          exact absurd H (by simp)
      · rw [if_neg c3] at H
        have c3b0 : decide (x5_1 < (l0.length : Int)) = false := decide_eq_false c3
        clear c3
        obtain rfl := Option.some.inj H
        go_wp2
        go_ret
        exact ⟨by first | rfl | (simp; done) | (simp [*]; done), by repeat (first | exact Drawn0.refl _ | apply Drawn0.step)⟩

/-! ### affix_Parse: function 19 (given) -/
/-- The reader: tokens that were read, the text under way. -/
structure Rdr (w0 w : World) (g : Nat) (v : Value) (l : List S32) (t : ByteArray) : Prop where
  ge : w0.heap.size ≤ g
  blk : w.heap[g]? = some (.cells #[v, .string t] 45 (0, 0))
  row : Kd.R k32 32 w w0.heap.size (fun k => w0.heap.size ≤ k) v l
  below : Below w0.heap.size w0 w
theorem Rdr.cells {w0 w : World} {g : Nat} {v : Value} {l : List S32} {t : ByteArray} (h : Rdr w0 w g v l t) : w.cell? ⟨g, 0, none⟩ = some v ∧ w.cell? ⟨g, 1, none⟩ = some (.string t) ∧ w.frozen? ⟨g, 0, none⟩ = false ∧ w.frozen? ⟨g, 1, none⟩ = false :=
  ⟨(blk_cell h.blk 0).trans rfl, (blk_cell h.blk 1).trans rfl, blk_frozen h.blk 0, blk_frozen h.blk 1⟩
theorem Rdr.ne {w0 w : World} {g : Nat} {v : Value} {l : List S32} {t : ByteArray} (h : Rdr w0 w g v l t) : some g ≠ v.ownBlock := Kd.R_ne h.row h.blk (by decide)
theorem Rdr.step {w0 w w' : World} {g : Nat} {v : Value} {l : List S32} {t : ByteArray} (h : Rdr w0 w g v l t) (hb : Below w.heap.size w w') : Rdr w0 w' g v l t :=
  ⟨h.ge, blk_below h.blk hb, Kd.R_below h.row hb, below_step h.below hb⟩
theorem Rdr.drewN {w0 w : World} {g : Nat} {v : Value} {l : List S32} {t : ByteArray} (h : Rdr w0 w g v l t) (n : Nat) : Rdr w0 (w.drewN n) g v l t := h.step (pw_below_drewN (Below.refl _ _) n)
theorem ne3245 : ∀ q, q ∈ (32 : Nat) :: k32.E → q ≠ 45 := by
  intro q hq
  have : q = 32 := by simpa [k32, Kd.iso, Kd.pair, Kd.int, Kd.string, Kd.scalar] using hq
  rw [this]; decide
theorem Rdr.text {w0 w : World} {g : Nat} {v : Value} {l : List S32} {t : ByteArray} (h : Rdr w0 w g v l t) (x : ByteArray) : Rdr w0 (w.setCell ⟨g, 1, none⟩ (.string x)) g v l x :=
  ⟨h.ge, blk_put h.blk 1 _ rfl, Kd.R_set h.row h.blk ne3245 1 _, below_set h.below h.ge⟩
/-- The tokens in the reader are other ones. -/
theorem Rdr.put {w0 w w1 : World} {g : Nat} {v v1 : Value} {l l1 : List S32} {t : ByteArray} (h : Rdr w0 w g v l t) (hg : w.grownBy w1 v.ownBlock) (hr : Kd.R k32 32 w1 w0.heap.size (fun k => w0.heap.size ≤ k) v1 l1) (hb : Below w0.heap.size w0 w1) : Rdr w0 (w1.setCell ⟨g, 0, none⟩ v1) g v1 l1 t := by
  have hk := blk_grown h.blk hg h.ne
  exact ⟨h.ge, blk_put hk 0 _ rfl, Kd.R_set hr hk ne3245 0 _, below_set hb h.ge⟩
theorem R_step_lies {ops : Array Oper} {o : Oper} {a : Act} {Kc : Act → World → Prop} {Q : Exit → Act → World → Prop} {E : Prop} {w0 W : World} (hgd : o.guard = none) (s x : Operand)
    (ho : o.op = .call { callee := .builtin .append, args := #[s, x], argTypes := #[22, 22] }) (v : Value) (xs : List S32) (p : S32) (b : Nat)
    (hs : a.eval s = v) (hx : a.eval x = .slice (some ⟨b, 0, none⟩) 1 1) (hb : W.heap[b]? = some (.cells #[.int .i64 p.f0, .int .i64 p.f1, .string p.f2] 32 (0, 0)))
    (HO : Kd.R k32 32 W w0.heap.size (fun k => w0.heap.size ≤ k) v xs) (HB : Below w0.heap.size w0 W) (hl : xs.length < 4398046511104)
    (h : ∀ v1 w1, Kd.R k32 32 w1 w0.heap.size (fun k => w0.heap.size ≤ k) v1 (xs ++ [p]) → Below w0.heap.size w0 w1 → W.grownBy w1 v.ownBlock → Kc (a.put o.dst v1) w1) :
    if Region.wanted o (yielded ops a.tmps) = true then Oper.wp Try.prog o a W Kc Q else E := by
  obtain ⟨i0, hi0, hz0, hz1, hz2⟩ := info_parts info32
  obtain ⟨h0, inner, hown, hr⟩ := HO
  have hbase := below_size HB
  refine step_append_lies W hgd s x 22 ho w0.heap.size 32 i0 _ 3 32 Try.underlying22 hi0 hz0 hz1 hz2 rfl (by decide) v xs.length inner hs hown ⟨b, 0, none⟩ 1 1 [.int .i64 p.f0, .int .i64 p.f1, .string p.f2] hx rfl
    (World.news_of_block (cs := #[.int .i64 p.f0, .int .i64 p.f1, .string p.f2]) hb) (by simp [Value.oneCell']) (by decide) (by simp only [maxLen]; omega) (by omega) hbase W.heap.size rfl ?_
  intro g cap w1 hown1 hg hat _
  have hat1 : (Value.slice (some ⟨g, 0, none⟩) (xs.length + 1) cap).ownBlock = v.ownBlock ∨ ∃ q, (Value.slice (some ⟨g, 0, none⟩) (xs.length + 1) cap).ownBlock = some q ∧ W.heap.size ≤ q := by
    rcases hat with hat | hat
    · exact .inl hat.symm
    · exact .inr ⟨g, rfl, by omega⟩
  exact h _ w1 (Kd.R_appended (d := k32) (okp := fun _ => False) (cs := [.int .i64 p.f0, .int .i64 p.f1, .string p.f2]) h0 hr (k32_mkM _ _ _ p) (fun _ hk => hk.elim) (fun k hk => Nat.le_trans hbase hk) hown1 hg hat1) (HB.grown hg hbase (own_base hown)) hg
def endL (l : List S32) (t : ByteArray) : List S32 := if t.toList = [] then l else l ++ [⟨0, 0, t⟩]
set_option maxHeartbeats 4000000 in
set_option maxRecDepth 100000 in
theorem ends_calls (w0 w : World) (g : Nat) (v : Value) (l : List S32) (t : ByteArray) (h : Rdr w0 w g v l t) (hl : l.length < 4398046511104) :
    Calls Try.prog 35 #[.pointer (some ⟨g, 0, none⟩)] w fun e w' => e = .returned (.tuple #[]) ∧ ∃ v', Rdr w0 w' g v' (endL l t) ⟨#[]⟩ := by
  have hu32 := Try.underlying32
  have hu45 := Try.underlying45
  have HQ := Aside0.mk h
  have HL := Aside0.mk hl
  obtain ⟨A, c, ev⟩ := Kd.R_slice h.row
  subst ev
  obtain ⟨hc0, hc1, hf0, hf1⟩ := h.cells
  clear h hl
  by_cases ht : t.toList = []
  · have e1 : (t.toList == ([] : List UInt8)) = true := beq_iff_eq.mpr ht
    have e2 : (t.toList != ([] : List UInt8)) = false := bne_eq_false_iff_eq.mpr ht
    have e3 : t.toList.isEmpty = true := by rw [ht]; rfl
    have HE := Aside0.mk (show endL l t = l by unfold endL; rw [if_pos ht])
    clear ht
    go_enter Try.func35, Try.ntmps35
    go_wp2
    go_end0
    exact ⟨rfl, _, by rw [HE.out]; exact HQ.out.text ⟨#[]⟩⟩
  · have e1 : (t.toList == ([] : List UInt8)) = false := beq_eq_false_iff_ne.mpr ht
    have e2 : (t.toList != ([] : List UInt8)) = true := bne_iff_ne.mpr ht
    have e3 : t.toList.isEmpty = false := by cases hh : t.toList with
      | nil => exact absurd hh ht
      | cons a b => rfl
    have HE := Aside0.mk (show endL l t = l ++ [⟨0, 0, t⟩] by unfold endL; rw [if_neg ht])
    clear ht
    have hz0 : ∀ o, (w.alloc o).cell? ⟨g, 0, none⟩ = some (.slice A l.length c) := fun o => (HQ.out.step (below_alloc (Below.refl _ _) o)).cells.1
    have hz1 : ∀ o, (w.alloc o).cell? ⟨g, 1, none⟩ = some (.string t) := fun o => (HQ.out.step (below_alloc (Below.refl _ _) o)).cells.2.1
    go_enter Try.func35, Try.ntmps35
    go_wp2_with fail
    go_region_law (refine R_step_lies (w0 := w0) (by rfl) (.tmp 11) (.tmp 17) rfl (.slice A l.length c) l (⟨0, 0, t⟩ : S32) w.heap.size rfl rfl ?aN ?aO ?aB HL.out ?_; (case aN => exact (by (with_reducible repeat (first | refine blk_drewN ?_ _ | refine blk_drew ?_)); exact heap_alloc_new w _)); (case aB => exact (by repeat (first | (with_reducible first | exact HQ.out.below | apply below_alloc | apply pw_below_drewN | apply below_drew1) | exact HQ.out.below))); (case aO => exact (by (with_reducible repeat (first | apply Kd.R_alloc | apply Kd.R_drewN | apply Kd.R_drew)); exact HQ.out.row)); intro v1 w1 ho hb hg; obtain ⟨A1, c1, ev⟩ := Kd.R_slice ho; subst ev; have HO := Aside0.mk ho; have HB := Aside0.mk hb; clear ho hb; have hbk := blk_grown (show _ = some (.cells #[.slice A l.length c, .string t] 45 (0, 0)) from (by (with_reducible repeat (first | refine blk_drewN ?_ _ | refine blk_drew ?_ | refine blk_alloc ?_ _)); exact HQ.out.blk)) hg HQ.out.ne; have k0 : w1.cell? ⟨g, 0, none⟩ = some (.slice A l.length c) := (blk_cell hbk 0).trans rfl; have k1 : w1.cell? ⟨g, 1, none⟩ = some (.string t) := (blk_cell hbk 1).trans rfl; have k2 := blk_frozen hbk 0; have HBK := Aside0.mk hbk; clear hbk hg)
    all_goals
      clear hc0 hc1 hf0 hf1 hz0 hz1
      have k3 : (w1.setCell ⟨g, 0, none⟩ (.slice A1 (l.length + 1) c1)).cell? ⟨g, 1, none⟩ = some (.string t) := (blk_cell (blk_put HBK.out 0 (.slice A1 (l.length + 1) c1) rfl) 1).trans rfl
      have k4 := blk_frozen (blk_put HBK.out 0 (.slice A1 (l.length + 1) c1) rfl) 1
      go_wp2
      go_end0
      refine ⟨rfl, .slice A1 (l.length + 1) c1, ?_⟩
      rw [HE.out]
      have hr : Rdr w0 (w1.setCell ⟨g, 0, none⟩ (.slice A1 (l.length + 1) c1)) g (.slice A1 (l.length + 1) c1) (l ++ [⟨0, 0, t⟩]) t := ⟨HQ.out.ge, blk_put HBK.out 0 _ rfl, Kd.R_set (by simpa using HO.out) HBK.out ne3245 0 _, below_set HB.out HQ.out.ge⟩
      exact hr.text ⟨#[]⟩
theorem blk_second (w : World) (X Y : Obj) : ((w.alloc X).alloc Y).heap[w.heap.size + 1]? = some Y := by
  have e0 : (w.alloc X).heap.size = w.heap.size + 1 := by simp
  rw [← e0]
  exact heap_alloc_new _ _
/-- A sign laid behind tokens; false: a fourth one of a currency. -/
def signL (l : List S32) (k : Int) : List S32 × Bool :=
  if k = 5 ∧ 0 < l.length ∧ (rd_T32 l ((l.length - 1 : Nat) : Int)).f0 = 5 then
    (l.set (l.length - 1) ⟨(rd_T32 l ((l.length - 1 : Nat) : Int)).f0, wrap64 ((rd_T32 l ((l.length - 1 : Nat) : Int)).f1 + 1), (rd_T32 l ((l.length - 1 : Nat) : Int)).f2⟩, decide (wrap64 ((rd_T32 l ((l.length - 1 : Nat) : Int)).f1 + 1) ≤ 3))
  else (l ++ [⟨k, if k = 5 then 1 else 0, ⟨#[]⟩⟩], true)
set_option maxHeartbeats 8000000 in
set_option maxRecDepth 100000 in
theorem sign_calls (w0 w : World) (g : Nat) (v : Value) (l : List S32) (t : ByteArray) (k : Int) (h : Rdr w0 w g v l t) (hl : l.length + 1 < 4398046511104) :
    Calls Try.prog 33 #[.pointer (some ⟨g, 0, none⟩), .int .i64 k] w fun e w' => e = .returned (.bool (signL (endL l t) k).2) ∧ ∃ v', Rdr w0 w' g v' (signL (endL l t) k).1 ⟨#[]⟩ := by
  have hu32 := Try.underlying32
  have hu45 := Try.underlying45
  have HQ := Aside0.mk h
  have HL := Aside0.mk hl
  have HL2 := Aside0.mk (show (endL l t).length < 4398046511104 by
    unfold endL
    split
    · omega
    · rw [List.length_append]; simp; omega)
  have hends := ends_calls w0 w g v l t h (by omega)
  clear h hl HQ HL
  generalize endL l t = l1 at *
  have HEN := Aside0.mk hends
  clear hends
  go_enter Try.func33, Try.ntmps33
  go_wp2_with (go_at_call 35; (with_reducible refine HEN.out.mono ?_))
  rintro e w1 ⟨rfl, v1, hr⟩
  clear HEN
  have HR := Aside0.mk hr
  obtain ⟨A1, c1, ev⟩ := Kd.R_slice hr.row
  subst ev
  obtain ⟨hc0, hc1, hf0, hf1⟩ := hr.cells
  by_cases hcoin : k = 5 ∧ 0 < l1.length ∧ (rd_T32 l1 ((l1.length - 1 : Nat) : Int)).f0 = 5
  · have HS := Aside0.mk (show signL l1 k = (l1.set (l1.length - 1) ⟨(rd_T32 l1 ((l1.length - 1 : Nat) : Int)).f0, wrap64 ((rd_T32 l1 ((l1.length - 1 : Nat) : Int)).f1 + 1), (rd_T32 l1 ((l1.length - 1 : Nat) : Int)).f2⟩, decide (wrap64 ((rd_T32 l1 ((l1.length - 1 : Nat) : Int)).f1 + 1) ≤ 3)) by unfold signL; rw [if_pos hcoin])
    obtain ⟨rfl, hpos, h5⟩ := hcoin
    obtain ⟨i, hi⟩ : ∃ i : Nat, l1.length - 1 = i := ⟨_, rfl⟩
    rw [hi] at HS h5
    obtain ⟨gr, cap, eg, gb, gl, _⟩ := Kd.R_form hr.row hpos
    cases eg
    have GB := Aside0.mk gb
    have hw1 : IntKind.i64.wrap ((l1.length : Int) - 1) = (i : Int) := by rw [i64_w]; unfold wrap64; have := HL2.out; omega
    have hd : decide ((l1.length : Int) > 0) = true := decide_eq_true (by omega)
    have hd1 : decide (0 < (l1.length : Int)) = true := decide_eq_true (by omega)
    have hd2 : decide (0 < l1.length) = true := decide_eq_true hpos
    have p1 : 0 ≤ (i : Int) := by omega
    have q1 : (i : Int) < (l1.length : Int) := by omega
    obtain ⟨ce, hcl, hM, hcc, hfr⟩ := Kd.R_elem hr.row z32 (i : Int) p1 q1
    obtain rfl := k32_openM hM
    have e_ : l1.getD (i : Int).toNat z32 = rd_T32 l1 (i : Int) := rfl
    rw [e_] at hcl hM hcc
    obtain ⟨x, hx⟩ : ∃ x, rd_T32 l1 (i : Int) = x := ⟨_, rfl⟩
    rw [hx] at HS h5 hcl hM hcc
    obtain ⟨m, hm⟩ : ∃ m, wrap64 (x.f1 + 1) = m := ⟨_, rfl⟩
    rw [hm] at HS
    have hmw : IntKind.i64.wrap (x.f1 + 1) = m := (i64_w _).trans hm
    have hx0 := hcc 0 _ rfl
    have hx1 := hcc 1 _ rfl
    have hx2 := hcc 2 _ rfl
    (try simp only [show (k32).sz = 3 from rfl, Nat.mul_one, Nat.add_zero, Int.toNat_natCast] at hx0 hx1 hx2)
    have hf1_ := hfr 1
    (try simp only [show (k32).sz = 3 from rfl, Nat.mul_one, Nat.add_zero, Int.toNat_natCast] at hf1_)
    have HP := Kd.R_seg hr.row (i : Int) p1 q1 (seg := [.int .i64 m]) (j := 1) hcl hcc (show 2 ≤ 3 from by decide) (x' := (⟨x.f0, m, x.f2⟩ : S32)) (k32_mkM _ _ _ (⟨x.f0, m, x.f2⟩ : S32)) (fun _ hk => hk)
    have HPP := Aside0.mk HP
    have hgr : gr ≠ g := fun e => hr.ne (by rw [← e]; rfl)
    have hbk : ∀ u, (w1.setCell ⟨gr, i * 3 + 1, none⟩ u).heap[g]? = some (.cells #[.slice (some ⟨gr, 0, none⟩) l1.length c1, .string ⟨#[]⟩] 45 (0, 0)) := fun u => (Below.heap_setCell w1 ⟨gr, i * 3 + 1, none⟩ u g (fun e => hgr e.symm)).trans hr.blk
    have hk0 : ∀ u, (w1.setCell ⟨gr, i * 3 + 1, none⟩ u).cell? ⟨g, 0, none⟩ = some (.slice (some ⟨gr, 0, none⟩) l1.length c1) := fun u => (blk_cell (hbk u) 0).trans rfl
    have HBK := Aside0.mk hbk
    have hk5 : (x.f0 == 5) = true := beq_iff_eq.mpr h5
    have HH5 := Aside0.mk h5
    clear hcl hcc hfr hM HP hbk hr gb gl e_ hgr hm h5 hpos hi
    replace p1 := eq_true p1
    replace q1 := eq_true q1
    go_wp2
    go_ret
    refine ⟨by rw [HS.out]; rfl, .slice (some ⟨gr, 0, none⟩) l1.length c1, ?_⟩
    rw [HS.out]
    exact ⟨HR.out.ge, HBK.out _, by have h_ := HPP.out.1; rw [Int.toNat_natCast] at h_; exact h_, below_set HR.out.below GB.out⟩
  · have HS := Aside0.mk (show signL l1 k = (l1 ++ [⟨k, if k = 5 then 1 else 0, ⟨#[]⟩⟩], true) by unfold signL; rw [if_neg hcoin])
    have hz0 : ∀ o, (w1.alloc o).cell? ⟨g, 0, none⟩ = some (.slice A1 l1.length c1) := fun o => (HR.out.step (below_alloc (Below.refl _ _) o)).cells.1
    have hz2 : ∀ o o2, ((w1.alloc o).alloc o2).cell? ⟨g, 0, none⟩ = some (.slice A1 l1.length c1) := fun o o2 => (HR.out.step (below_alloc (below_alloc (Below.refl _ _) o) o2)).cells.1
    by_cases hk : k = 5
    · subst hk
      have HS2 := Aside0.mk (show signL l1 5 = (l1 ++ [⟨5, 1, ⟨#[]⟩⟩], true) by rw [HS.out, if_pos rfl])
      by_cases hpos : 0 < l1.length
      · obtain ⟨i, hi⟩ : ∃ i : Nat, l1.length - 1 = i := ⟨_, rfl⟩
        have h5 : (rd_T32 l1 (i : Int)).f0 ≠ 5 := fun e => hcoin ⟨rfl, hpos, by rw [hi]; exact e⟩
        obtain ⟨gr, cap, eg, gb, gl, _⟩ := Kd.R_form hr.row hpos
        cases eg
        have hw1 : IntKind.i64.wrap ((l1.length : Int) - 1) = (i : Int) := by rw [i64_w]; unfold wrap64; have := HL2.out; omega
        have hd : decide ((l1.length : Int) > 0) = true := decide_eq_true (by omega)
        have hd1 : decide (0 < (l1.length : Int)) = true := decide_eq_true (by omega)
        have hd2 : decide (0 < l1.length) = true := decide_eq_true hpos
        have p1 : 0 ≤ (i : Int) := by omega
        have q1 : (i : Int) < (l1.length : Int) := by omega
        obtain ⟨ce, hcl, hM, hcc, hfr⟩ := Kd.R_elem hr.row z32 (i : Int) p1 q1
        obtain rfl := k32_openM hM
        have e_ : l1.getD (i : Int).toNat z32 = rd_T32 l1 (i : Int) := rfl
        rw [e_] at hcl hM hcc
        obtain ⟨x, hx⟩ : ∃ x, rd_T32 l1 (i : Int) = x := ⟨_, rfl⟩
        rw [hx] at h5 hcl hM hcc
        have hx0 := hcc 0 _ rfl
        (try simp only [show (k32).sz = 3 from rfl, Nat.mul_one, Nat.add_zero, Int.toNat_natCast] at hx0)
        have hk5 : (x.f0 == 5) = false := beq_eq_false_iff_ne.mpr h5
        clear hcl hcc hfr hM hr gb gl e_ h5 hpos hi hcoin
        replace p1 := eq_true p1
        replace q1 := eq_true q1
        go_wp2
        go_region_law (refine R_step_lies (w0 := w0) (by rfl) (.tmp 64) (.tmp 66) rfl (.slice (some ⟨gr, 0, none⟩) l1.length c1) l1 (⟨5, 1, ⟨#[]⟩⟩ : S32) (w1.heap.size + 1) rfl rfl ?aN ?aO ?aB HL2.out ?_; (case aN => exact (by (with_reducible repeat (first | refine blk_drewN ?_ _ | refine blk_drew ?_)); exact blk_second w1 _ _)); (case aB => exact (by repeat (first | (with_reducible first | exact HR.out.below | apply below_alloc | apply pw_below_drewN | apply below_drew1) | exact HR.out.below))); (case aO => exact (by (with_reducible repeat (first | apply Kd.R_alloc | apply Kd.R_drewN | apply Kd.R_drew)); exact HR.out.row)); intro v2 w2 ho hb hg; obtain ⟨A2, c2, ev⟩ := Kd.R_slice ho; subst ev; have HO := Aside0.mk ho; have HB := Aside0.mk hb; clear ho hb; have hbk := blk_grown (show _ = some (.cells #[.slice (some ⟨gr, 0, none⟩) l1.length c1, .string ⟨#[]⟩] 45 (0, 0)) from (by (with_reducible repeat (first | refine blk_drewN ?_ _ | refine blk_drew ?_ | refine blk_alloc ?_ _)); exact HR.out.blk)) hg HR.out.ne; have k0 : w2.cell? ⟨g, 0, none⟩ = some (.slice (some ⟨gr, 0, none⟩) l1.length c1) := (blk_cell hbk 0).trans rfl; have k1 : w2.cell? ⟨g, 1, none⟩ = some (.string ⟨#[]⟩) := (blk_cell hbk 1).trans rfl; have k2 := blk_frozen hbk 0; have HBK := Aside0.mk hbk; clear hbk hg)
        all_goals
          clear hc0 hc1 hf0 hf1 hz0 hz2
          go_wp2
          go_ret
          refine ⟨by rw [HS2.out]; rfl, .slice A2 (l1.length + 1) c2, ?_⟩
          rw [HS2.out]
          exact ⟨HR.out.ge, blk_put HBK.out 0 _ rfl, Kd.R_set (by simpa using HO.out) HBK.out ne3245 0 _, below_set HB.out HR.out.ge⟩
      · have hz : l1.length = 0 := by omega
        have hd : decide ((l1.length : Int) > 0) = false := decide_eq_false (by omega)
        have hd1 : decide (0 < (l1.length : Int)) = false := decide_eq_false (by omega)
        have hd2 : decide (0 < l1.length) = false := decide_eq_false hpos
        clear hpos hz hcoin hr
        go_wp2
        go_region_law (refine R_step_lies (w0 := w0) (by rfl) (.tmp 64) (.tmp 66) rfl (.slice A1 l1.length c1) l1 (⟨5, 1, ⟨#[]⟩⟩ : S32) (w1.heap.size + 1) rfl rfl ?aN ?aO ?aB HL2.out ?_; (case aN => exact (by (with_reducible repeat (first | refine blk_drewN ?_ _ | refine blk_drew ?_)); exact blk_second w1 _ _)); (case aB => exact (by repeat (first | (with_reducible first | exact HR.out.below | apply below_alloc | apply pw_below_drewN | apply below_drew1) | exact HR.out.below))); (case aO => exact (by (with_reducible repeat (first | apply Kd.R_alloc | apply Kd.R_drewN | apply Kd.R_drew)); exact HR.out.row)); intro v2 w2 ho hb hg; obtain ⟨A2, c2, ev⟩ := Kd.R_slice ho; subst ev; have HO := Aside0.mk ho; have HB := Aside0.mk hb; clear ho hb; have hbk := blk_grown (show _ = some (.cells #[.slice A1 l1.length c1, .string ⟨#[]⟩] 45 (0, 0)) from (by (with_reducible repeat (first | refine blk_drewN ?_ _ | refine blk_drew ?_ | refine blk_alloc ?_ _)); exact HR.out.blk)) hg HR.out.ne; have k0 : w2.cell? ⟨g, 0, none⟩ = some (.slice A1 l1.length c1) := (blk_cell hbk 0).trans rfl; have k1 : w2.cell? ⟨g, 1, none⟩ = some (.string ⟨#[]⟩) := (blk_cell hbk 1).trans rfl; have k2 := blk_frozen hbk 0; have HBK := Aside0.mk hbk; clear hbk hg)
        all_goals
          clear hc0 hc1 hf0 hf1 hz0 hz2
          go_wp2
          go_ret
          refine ⟨by rw [HS2.out]; rfl, .slice A2 (l1.length + 1) c2, ?_⟩
          rw [HS2.out]
          exact ⟨HR.out.ge, blk_put HBK.out 0 _ rfl, Kd.R_set (by simpa using HO.out) HBK.out ne3245 0 _, below_set HB.out HR.out.ge⟩
    · have hk1 : (k == 5) = false := beq_eq_false_iff_ne.mpr hk
      have hk2 : (k != 5) = true := bne_iff_ne.mpr hk
      have HS2 := Aside0.mk (show signL l1 k = (l1 ++ [⟨k, 0, ⟨#[]⟩⟩], true) by rw [HS.out, if_neg hk])
      clear hk hcoin hr
      go_wp2
      go_region_law (refine R_step_lies (w0 := w0) (by rfl) (.tmp 64) (.tmp 66) rfl (.slice A1 l1.length c1) l1 (⟨k, 0, ⟨#[]⟩⟩ : S32) (w1.heap.size + 1) rfl rfl ?aN ?aO ?aB HL2.out ?_; (case aN => exact (by (with_reducible repeat (first | refine blk_drewN ?_ _ | refine blk_drew ?_)); exact blk_second w1 _ _)); (case aB => exact (by repeat (first | (with_reducible first | exact HR.out.below | apply below_alloc | apply pw_below_drewN | apply below_drew1) | exact HR.out.below))); (case aO => exact (by (with_reducible repeat (first | apply Kd.R_alloc | apply Kd.R_drewN | apply Kd.R_drew)); exact HR.out.row)); intro v2 w2 ho hb hg; obtain ⟨A2, c2, ev⟩ := Kd.R_slice ho; subst ev; have HO := Aside0.mk ho; have HB := Aside0.mk hb; clear ho hb; have hbk := blk_grown (show _ = some (.cells #[.slice A1 l1.length c1, .string ⟨#[]⟩] 45 (0, 0)) from (by (with_reducible repeat (first | refine blk_drewN ?_ _ | refine blk_drew ?_ | refine blk_alloc ?_ _)); exact HR.out.blk)) hg HR.out.ne; have k0 : w2.cell? ⟨g, 0, none⟩ = some (.slice A1 l1.length c1) := (blk_cell hbk 0).trans rfl; have k1 : w2.cell? ⟨g, 1, none⟩ = some (.string ⟨#[]⟩) := (blk_cell hbk 1).trans rfl; have k2 := blk_frozen hbk 0; have HBK := Aside0.mk hbk; clear hbk hg)
      all_goals
        clear hc0 hc1 hf0 hf1 hz0 hz2
        go_wp2
        go_ret
        refine ⟨by rw [HS2.out]; rfl, .slice A2 (l1.length + 1) c2, ?_⟩
        rw [HS2.out]
        exact ⟨HR.out.ge, blk_put HBK.out 0 _ rfl, Kd.R_set (by simpa using HO.out) HBK.out ne3245 0 _, below_set HB.out HR.out.ge⟩
def hasQ (s : ByteArray) : Bool := Lib.hasPrefix s.data.toList [39]
theorem hasQ_calls (s : ByteArray) (w : World) : Calls Try.prog 31 #[.string s, .string ⟨#[39]⟩] w fun e w' => e = .returned (.bool (hasQ s)) ∧ w = w' :=
  (Try.strings_HasPrefix s ⟨#[39]⟩ w).mono fun e w' ⟨he, hw⟩ => ⟨he, hw.symm⟩
theorem hasQ_pos (s : ByteArray) (q : Nat) (h : hasQ (s.extract q s.size) = true) : q < s.size := by
  rcases Nat.lt_or_ge q s.size with h1 | h1
  · exact h1
  · exfalso
    have : (s.extract q s.size).data.toList = [] := by
      apply List.eq_nil_of_length_eq_zero
      have e : (s.extract q s.size).size = 0 := by rw [ByteArray.size_extract]; omega
      simpa using e
    unfold hasQ at h
    rw [this] at h
    exact absurd h (by decide)
/-- Parse, from a place on: x: the state (1: quoted), l: tokens, t: the text under way. -/
def parseL (s : ByteArray) (K : Nat) : Nat → Int → Int → List S32 → ByteArray → Option (List S32 × Int)
  | 0, _, _, _, _ => none
  | d + 1, x, p, l, t =>
    if p < s.size then (cursor_Rune.f 5 s p).bind fun n =>
      if n = 0 then some ([], 131)
      else if 0 < n ∧ p + n ≤ s.size then
        if (s.extract p.toNat (p + n).toNat).toList = [39] then
          if hasQ (s.extract (p + n).toNat s.size) = true then parseL s K d x (p + n + 1) l (t ++ ⟨#[39]⟩)
          else parseL s K d (1 - x) (p + n) l t
        else if x = 0 then (affix_kind.f (s.extract p.toNat (p + n).toNat)).bind fun k =>
            if 0 < k then (if (signL (endL l t) k).2 = true then parseL s K d x (p + n) (signL (endL l t) k).1 ⟨#[]⟩ else some ([], 131))
            else if letB (s.extract p.toNat (p + n).toNat) = true then some ([], 131) else parseL s K d x (p + n) l (t ++ s.extract p.toNat (p + n).toNat)
          else parseL s K d x (p + n) l (t ++ s.extract p.toNat (p + n).toNat)
      else none
    else if x = 1 then some ([], 130) else (affix_Check.f K (endL l t)).bind fun e => if e = 0 then some (endL l t, 0) else some ([], e)
def affix_Parse.f (a0 : ByteArray) : Option (List S32 × Int) := if a0.size ≤ 1048576 then parseL a0 (4 * a0.size + 100) (a0.size + 1) 0 0 [] ⟨#[]⟩ else none
theorem Rdr.start (w : World) : Rdr w (w.alloc (.cells #[.slice none 0 0, .string ⟨#[]⟩] 45)) w.heap.size (.slice none 0 0) [] ⟨#[]⟩ :=
  ⟨Nat.le_refl _, heap_alloc_new _ _, Kd.R_nil _ _ _ _ _, below_alloc (Below.refl _ _) _⟩
theorem endL_len (l : List S32) (t : ByteArray) : (endL l t).length ≤ l.length + 1 := by
  unfold endL
  split
  · omega
  · rw [List.length_append]; simp
theorem signL_len (l : List S32) (k : Int) : (signL l k).1.length ≤ l.length + 1 := by
  unfold signL
  split
  · rw [List.length_set]; omega
  · rw [List.length_append]; simp
theorem clipped_nil (w : World) (base : Nat) : Clipped w base (.slice none 0 0) [] := ⟨none, 0, rfl, Kd.R_nil _ _ _ _ _⟩
set_option maxHeartbeats 8000000 in
set_option maxRecDepth 100000 in
theorem parse_own (a0 : ByteArray) (r1 : List S32) (r2 : Int) (w : World) (hG : Glob w) (h : affix_Parse.f a0 = some (r1, r2)) :
    Calls Try.prog 19 #[.string a0] w fun e w' => ∃ v0_ : Value, e = .returned (.tuple #[v0_, .int .i64 r2]) ∧ Clipped w' w.heap.size v0_ r1 ∧ Below w.heap.size w w' := by
  unfold affix_Parse.f at h
  by_cases hsz : a0.size ≤ 1048576
  case neg => rw [if_neg hsz] at h; exact absurd h (by simp)
  rw [if_pos hsz] at h
  have HS := Aside0.mk hsz
  have HG := Aside0.mk hG
  obtain ⟨K, hK⟩ : ∃ K, 4 * a0.size + 100 = K := ⟨_, rfl⟩
  rw [hK] at h
  have H' := Aside0.mk h
  clear hsz hG h hK
  go_enter Try.func19, Try.ntmps19
  go_wp2
  go_step3
  go_wp2
  go_step3
  go_wp2
  go_loopg [5, 6, 7, 8] (a0.size + 1) (fun gk v5 v6 v7 v8 wr => ∃ (x p : Int) (v : Value) (l : List S32) (t : ByteArray), v5 = .int .i64 x ∧ v6 = .int .i64 p ∧ Aside0 (parseL a0 K gk x p l t = some (r1, r2)) ∧ Aside0 (x = 0 ∨ x = 1) ∧ Aside0 (0 ≤ p ∧ p ≤ a0.size ∧ (l.length : Int) ≤ 2 * p ∧ (t.size : Int) ≤ p) ∧ Aside0 (Rdr w wr w.heap.size v l t))
  case atStart => exact ⟨0, 0, .slice none 0 0, [], ⟨#[]⟩, rfl, rfl, H', ⟨.inl rfl⟩, ⟨⟨Int.le_refl _, by omega, by decide, by decide⟩⟩, ⟨Rdr.start w⟩⟩
  case round =>
    clear H'
    obtain ⟨x, p, v, l, t, rfl, rfl, HA, HX, HI, HQ⟩ := hrel
    have HQD := Aside0.mk (fun m1 => HQ.out.drewN m1)
    cases gk with
    | zero => exact absurd HA.out (by simp [parseL])
    | succ gk' =>
      have H := HA.out
      clear HA
      simp only [parseL] at H
      obtain ⟨A1, c1, ev⟩ := Kd.R_slice HQ.out.row
      subst ev
      obtain ⟨hq0, hq1, hq2, hq3⟩ := HQ.out.cells
      by_cases hlt : p < a0.size
      case neg =>
        rw [if_neg hlt] at H
        have hd : decide (p < (a0.size : Int)) = false := decide_eq_false hlt
        clear hlt
        by_cases hx1 : x = 1
        · rw [if_pos hx1] at H
          have hxb : (x == 1) = true := beq_iff_eq.mpr hx1
          simp only [Option.some.injEq, Prod.mk.injEq] at H
          obtain ⟨rfl, rfl⟩ := H
          clear hx1
          go_wp2
          (try rw [Exit.noGoto_ret])
          go_ret2
          exact ⟨_, rfl, clipped_nil _ _, HQ.out.below⟩
        rw [if_neg hx1] at H
        have hxb : (x == 1) = false := beq_eq_false_iff_ne.mpr hx1
        clear hx1
        replace H := Option.bind_eq_some_iff.mp H
        obtain ⟨ek, hck, H⟩ := H
        have HCK := Aside0.mk hck
        clear hck
        by_cases he0 : ek = 0
        · rw [if_pos he0] at H
          have heb : (ek == 0) = true := beq_iff_eq.mpr he0
          have heb2 : (ek != 0) = false := bne_eq_false_iff_eq.mpr he0
          simp only [Option.some.injEq, Prod.mk.injEq] at H
          obtain ⟨rfl, rfl⟩ := H
          clear he0
          go_wp2_with (first | (go_at_call 35; (with_reducible refine (ends_calls w _ w.heap.size (.slice A1 l.length c1) l t HQ.out ?side1).mono ?_); (case side1 => have := HI.out; have := HS.out; omega); rintro e w2 ⟨rfl, v2, hq2⟩; have HQE := Aside0.mk hq2; obtain ⟨A2, c2, ev2⟩ := Kd.R_slice hq2.row; subst ev2; obtain ⟨hz0, hz1, hz2, hz3⟩ := hq2.cells; clear hq2) | (go_at_call 13; (with_reducible refine (affix_Check.calls K A2 c2 (endL l t) ek _ (Kd.R_reads' HQE.out.row).2.2 (Kd.R_reads' HQE.out.row).2.1 HCK.out).mono ?_); rintro e w3 ⟨rfl, hb3⟩; have HQC := Aside0.mk (HQE.out.step hb3); obtain ⟨hy0, hy1, hy2, hy3⟩ := HQC.out.cells; clear hb3 hz0 hz1 hz2 hz3) | (go_at_call 24; (with_reducible refine (clip_calls A2 (endL l t).length c2 _ (R_cap HQC.out.row).1 (R_cap HQC.out.row).2).mono ?_); rintro e w4 ⟨rfl, ⟨nd4, rfl⟩⟩))
          (try rw [Exit.noGoto_ret])
          go_ret2
          exact ⟨_, rfl, ⟨A2, c2, rfl, (HQC.out.drewN _).row⟩, (HQC.out.drewN _).below⟩
        · rw [if_neg he0] at H
          have heb : (ek == 0) = false := beq_eq_false_iff_ne.mpr he0
          have heb2 : (ek != 0) = true := bne_iff_ne.mpr he0
          simp only [Option.some.injEq, Prod.mk.injEq] at H
          obtain ⟨rfl, rfl⟩ := H
          clear he0
          go_wp2_with (first | (go_at_call 35; (with_reducible refine (ends_calls w _ w.heap.size (.slice A1 l.length c1) l t HQ.out ?side1).mono ?_); (case side1 => have := HI.out; have := HS.out; omega); rintro e w2 ⟨rfl, v2, hq2⟩; have HQE := Aside0.mk hq2; obtain ⟨A2, c2, ev2⟩ := Kd.R_slice hq2.row; subst ev2; obtain ⟨hz0, hz1, hz2, hz3⟩ := hq2.cells; clear hq2) | (go_at_call 13; (with_reducible refine (affix_Check.calls K A2 c2 (endL l t) ek _ (Kd.R_reads' HQE.out.row).2.2 (Kd.R_reads' HQE.out.row).2.1 HCK.out).mono ?_); rintro e w3 ⟨rfl, hb3⟩; have HQC := Aside0.mk (HQE.out.step hb3); obtain ⟨hy0, hy1, hy2, hy3⟩ := HQC.out.cells; clear hb3 hz0 hz1 hz2 hz3))
          (try rw [Exit.noGoto_ret])
          go_ret2
          exact ⟨_, rfl, clipped_nil _ _, HQC.out.below⟩
      rw [if_pos hlt] at H
      have hd : decide (p < (a0.size : Int)) = true := decide_eq_true hlt
      replace H := Option.bind_eq_some_iff.mp H
      obtain ⟨n, hrn, H⟩ := H
      have HRN := Aside0.mk hrn
      clear hrn hlt
      by_cases hn0 : n = 0
      · rw [if_pos hn0] at H
        have hnb : (n == 0) = true := beq_iff_eq.mpr hn0
        simp only [Option.some.injEq, Prod.mk.injEq] at H
        obtain ⟨rfl, rfl⟩ := H
        clear hn0
        go_wp2_with (first | (go_at_call 30; (with_reducible refine (cursor_Rune.calls 5 a0 p n _ HRN.out).mono ?_); rintro e w' ⟨rfl, ⟨nd, rfl⟩⟩))
        (try rw [Exit.noGoto_ret])
        go_ret2
        exact ⟨_, rfl, clipped_nil _ _, (HQ.out.drewN _).below⟩
      rw [if_neg hn0] at H
      have hnb : (n == 0) = false := beq_eq_false_iff_ne.mpr hn0
      clear hn0
      by_cases hn : 0 < n ∧ p + n ≤ a0.size
      case neg => rw [if_neg hn] at H; exact absurd H (by simp)
      rw [if_pos hn] at H
      obtain ⟨q, hq⟩ : ∃ q : Int, p + n = q := ⟨_, rfl⟩
      have HCS := Aside0.mk (show ((a0.extract p.toNat q.toNat).size : Int) = n by rw [← hq]; exact extract_len a0 p n HI.out.1 hn.1 hn.2)
      rw [hq] at H
      have hqw : IntKind.i64.wrap (p + n) = q := by rw [hq]; exact IntWalk.i64_in _ (by have := HI.out; have := HS.out; omega)
      have hqw2 : wrap64 (p + n) = q := (i64_w _).symm.trans hqw
      have hp0 : 0 ≤ p := HI.out.1
      have hpq : p ≤ q := by omega
      have hq0_ : 0 ≤ q := by omega
      have hqs : q ≤ (a0.size : Int) := by omega
      have hpq2 : p.toNat ≤ q.toNat := by omega
      have hqs2 : q.toNat ≤ a0.size := by omega
      have HN := Aside0.mk (show 0 < n ∧ p + n = q ∧ q ≤ a0.size from ⟨hn.1, hq, hqs⟩)
      clear hn hq
      obtain ⟨c, hc⟩ : ∃ c, a0.extract p.toNat q.toNat = c := ⟨_, rfl⟩
      rw [hc] at H HCS
      replace hp0 := eq_true hp0
      have hr2 : t.size + 1 ≤ 9223372036854775807 := by have := HI.out; have := HS.out; omega
      have hr3 : t.size + c.size ≤ 9223372036854775807 := by have := HI.out; have := HS.out; have := HCS.out; have := HN.out; omega
      have hr4 := eq_false (Nat.not_lt.2 hr2)
      have hr5 := eq_false (Nat.not_lt.2 hr3)
      by_cases h39 : c.toList = [39]
      · rw [if_pos h39] at H
        have e1 : (c.toList == ([39] : List UInt8)) = true := beq_iff_eq.mpr h39
        have e2 : (c.toList != ([39] : List UInt8)) = false := bne_eq_false_iff_eq.mpr h39
        clear h39
        obtain ⟨s', hs'⟩ : ∃ s', a0.extract q.toNat a0.size = s' := ⟨_, rfl⟩
        by_cases hh : hasQ (a0.extract q.toNat a0.size) = true
        · rw [if_pos hh] at H
          have HPOS := Aside0.mk (hasQ_pos a0 q.toNat hh)
          rw [hs'] at hh
          have hqw3 : wrap64 (q + 1) = q + 1 := by unfold wrap64; have := HS.out; omega
          have hqw4 : IntKind.i64.wrap (q + 1) = q + 1 := (i64_w _).trans hqw3
          have HA := Aside0.mk H
          clear H
          go_wp2_with (first | (go_at_call 30; (with_reducible refine (cursor_Rune.calls 5 a0 p n _ HRN.out).mono ?_); rintro e w' ⟨rfl, ⟨nd, rfl⟩⟩) | (go_at_call 31; (with_reducible refine (hasQ_calls _ _).mono ?_); rintro e w' ⟨rfl, rfl⟩))
          go_roundg gk'
          case measure => omega
          case rel => exact ⟨x, q + 1, .slice A1 l.length c1, l, t ++ ⟨#[39]⟩, by first | (with_reducible rfl) | rfl, by first | (with_reducible rfl) | rfl, HA, HX, ⟨by have := HI.out; have := HN.out; have := HPOS.out; simp only [ByteArray.size_append, show (⟨#[39]⟩ : ByteArray).size = 1 from rfl]; omega⟩, ⟨(HQ.out.drewN _).text _⟩⟩
        · rw [if_neg hh] at H
          replace hh := Bool.eq_false_iff.mpr hh
          rw [hs'] at hh
          have HA := Aside0.mk H
          have hxw : IntKind.i64.wrap (1 - x) = 1 - x := by rw [i64_w]; unfold wrap64; have := HX.out; omega
          clear H
          go_wp2_with (first | (go_at_call 30; (with_reducible refine (cursor_Rune.calls 5 a0 p n _ HRN.out).mono ?_); rintro e w' ⟨rfl, ⟨nd, rfl⟩⟩) | (go_at_call 31; (with_reducible refine (hasQ_calls _ _).mono ?_); rintro e w' ⟨rfl, rfl⟩))
          go_roundg gk'
          case measure => omega
          case rel => exact ⟨1 - x, q, .slice A1 l.length c1, l, t, by first | (with_reducible rfl) | rfl, by first | (with_reducible rfl) | rfl, HA, ⟨by have := HX.out; omega⟩, ⟨by have := HI.out; have := HN.out; omega⟩, ⟨HQ.out.drewN _⟩⟩
      rw [if_neg h39] at H
      have e1 : (c.toList == ([39] : List UInt8)) = false := beq_eq_false_iff_ne.mpr h39
      have e2 : (c.toList != ([39] : List UInt8)) = true := bne_iff_ne.mpr h39
      clear h39
      by_cases hx0 : x = 0
      · rw [if_pos hx0] at H
        have hxb : (x == 0) = true := beq_iff_eq.mpr hx0
        clear hx0
        replace H := Option.bind_eq_some_iff.mp H
        obtain ⟨k, hk, H⟩ := H
        have HKD := Aside0.mk hk
        clear hk
        by_cases hkp : 0 < k
        · rw [if_pos hkp] at H
          have hk1 : decide (k > 0) = true := decide_eq_true hkp
          have hk2 : decide (0 < k) = true := decide_eq_true hkp
          clear hkp
          have HLEN := Aside0.mk (And.intro (signL_len (endL l t) k) (endL_len l t))
          by_cases hb : (signL (endL l t) k).2 = true
          · rw [if_pos hb] at H
            have HA := Aside0.mk H
            clear H
            go_wp2_with (first | (go_at_call 30; (with_reducible refine (cursor_Rune.calls 5 a0 p n _ HRN.out).mono ?_); rintro e w' ⟨rfl, ⟨nd, rfl⟩⟩) | (go_at_call 32; (with_reducible refine (affix_kind.calls c k _ HKD.out).mono ?_); rintro e w' ⟨rfl, ⟨nd2, rfl⟩⟩) | (go_at_call 33; (with_reducible refine (sign_calls w _ w.heap.size (.slice A1 l.length c1) l t k (HQD.out _) ?side1).mono ?_); (case side1 => have := HI.out; have := HS.out; omega); rintro e w2 ⟨rfl, v2, hq2⟩; have HQS := Aside0.mk hq2; clear hq2))
            go_roundg gk'
            case measure => omega
            case rel => exact ⟨x, q, v2, (signL (endL l t) k).1, ⟨#[]⟩, by first | (with_reducible rfl) | rfl, by first | (with_reducible rfl) | rfl, HA, HX, ⟨by have := HI.out; have := HN.out; have := HLEN.out; simp only [show (⟨#[]⟩ : ByteArray).size = 0 from rfl]; omega⟩, HQS⟩
          · rw [if_neg hb] at H
            replace hb := Bool.eq_false_iff.mpr hb
            simp only [Option.some.injEq, Prod.mk.injEq] at H
            obtain ⟨rfl, rfl⟩ := H
            go_wp2_with (first | (go_at_call 30; (with_reducible refine (cursor_Rune.calls 5 a0 p n _ HRN.out).mono ?_); rintro e w' ⟨rfl, ⟨nd, rfl⟩⟩) | (go_at_call 32; (with_reducible refine (affix_kind.calls c k _ HKD.out).mono ?_); rintro e w' ⟨rfl, ⟨nd2, rfl⟩⟩) | (go_at_call 33; (with_reducible refine (sign_calls w _ w.heap.size (.slice A1 l.length c1) l t k (HQD.out _) ?side1).mono ?_); (case side1 => have := HI.out; have := HS.out; omega); rintro e w2 ⟨rfl, v2, hq2⟩; have HQS := Aside0.mk hq2; clear hq2))
            (try rw [Exit.noGoto_ret])
            go_ret2
            exact ⟨_, rfl, clipped_nil _ _, HQS.out.below⟩
        · rw [if_neg hkp] at H
          have hk1 : decide (k > 0) = false := decide_eq_false hkp
          have hk2 : decide (0 < k) = false := decide_eq_false hkp
          clear hkp
          by_cases hl : letB c = true
          · rw [if_pos hl] at H
            have hl2 : Lib.contains [48, 49, 50, 51, 52, 53, 54, 55, 56, 57, 35, 64, 44, 46, 59, 42] c.data.toList = true := hl
            simp only [Option.some.injEq, Prod.mk.injEq] at H
            obtain ⟨rfl, rfl⟩ := H
            clear hl
            go_wp2_with (first | (go_at_call 30; (with_reducible refine (cursor_Rune.calls 5 a0 p n _ HRN.out).mono ?_); rintro e w' ⟨rfl, ⟨nd, rfl⟩⟩) | (go_at_call 32; (with_reducible refine (affix_kind.calls c k _ HKD.out).mono ?_); rintro e w' ⟨rfl, ⟨nd2, rfl⟩⟩) | (go_at_call 34; (with_reducible refine (letter_calls c _ (Glob_below HG.out (HQD.out _).below)).mono ?_); rintro e w' ⟨rfl, rfl⟩))
            (try rw [Exit.noGoto_ret])
            go_ret2
            exact ⟨_, rfl, clipped_nil _ _, (HQ.out.drewN _).below⟩
          · rw [if_neg hl] at H
            have hl2 : Lib.contains [48, 49, 50, 51, 52, 53, 54, 55, 56, 57, 35, 64, 44, 46, 59, 42] c.data.toList = false := Bool.eq_false_iff.mpr hl
            have HA := Aside0.mk H
            clear hl H
            go_wp2_with (first | (go_at_call 30; (with_reducible refine (cursor_Rune.calls 5 a0 p n _ HRN.out).mono ?_); rintro e w' ⟨rfl, ⟨nd, rfl⟩⟩) | (go_at_call 32; (with_reducible refine (affix_kind.calls c k _ HKD.out).mono ?_); rintro e w' ⟨rfl, ⟨nd2, rfl⟩⟩) | (go_at_call 34; (with_reducible refine (letter_calls c _ (Glob_below HG.out (HQD.out _).below)).mono ?_); rintro e w' ⟨rfl, rfl⟩))
            go_roundg gk'
            case measure => omega
            case rel => exact ⟨x, q, .slice A1 l.length c1, l, t ++ c, by first | (with_reducible rfl) | rfl, by first | (with_reducible rfl) | rfl, HA, HX, ⟨by have := HI.out; have := HN.out; have := HCS.out; simp only [ByteArray.size_append]; omega⟩, ⟨(HQ.out.drewN _).text _⟩⟩
      · rw [if_neg hx0] at H
        have hxb : (x == 0) = false := beq_eq_false_iff_ne.mpr hx0
        have HA := Aside0.mk H
        clear hx0 H
        go_wp2_with (first | (go_at_call 30; (with_reducible refine (cursor_Rune.calls 5 a0 p n _ HRN.out).mono ?_); rintro e w' ⟨rfl, ⟨nd, rfl⟩⟩))
        go_roundg gk'
        case measure => omega
        case rel => exact ⟨x, q, .slice A1 l.length c1, l, t ++ c, by first | (with_reducible rfl) | rfl, by first | (with_reducible rfl) | rfl, HA, HX, ⟨by have := HI.out; have := HN.out; have := HCS.out; simp only [ByteArray.size_append]; omega⟩, ⟨(HQ.out.drewN _).text _⟩⟩
theorem affix_Parse.calls (a0 : ByteArray) (r1 : List S32) (r2 : Int) (w : World) (hG : Glob w) (h : affix_Parse.f a0 = some (r1, r2)) :
    Calls Try.prog 19 #[.string a0] w fun e w' => ∃ v0_ : Value, e = .returned (.tuple #[v0_, .int .i64 r2]) ∧ Kd.V k32 32 w' w.heap.size (fun k_ => (w.heap.size ≤ k_)) v0_ r1 ∧ Below w.heap.size w w' :=
  (parse_own a0 r1 r2 w hG h).mono fun e w' ⟨v, he, hc, hb⟩ => ⟨v, he, hc.V, hb⟩


end Go.Proofs.Ytieipeigjhicfaa.Q
